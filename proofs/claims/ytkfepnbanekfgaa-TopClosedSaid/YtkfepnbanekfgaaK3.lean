/- What the proof leans on, part 3: N5 N21 X1 X4 Q0 A17 N7 N8 N9 N9b N10 Q1 Q2 Q3 N4d N11 N12 N13 N14 N15 N16 N18 N22 RW N23 N24 V0 V1 V2 V3 V4 V5 V6 Y0 Y1 Y3. -/
import Derived.Test.YtkfepnbanekfgaaK2
import Derived.ChangeArms
import Derived.Laws.Externs
import Derived.Laws.Strings
import Derived.Lib.ConvBytes
import Derived.Lib.SmallJoins
set_option linter.all false
namespace Go.AL
open Go Go.RowKit
def wstM (all : Array Oper) (o : Oper) : List Nat := wst o ++ (match o.op with
  | .store _ _ (.tmp t) => [t]
  | .move (.tmp t) => (match o.dst with | some d => cond (feeds all.toList d) [t] [] | none => [])
  | _ => [])
def only (H : Hp) (id : Nat) : Hp := fun j => cond (Nat.beq j id) (H j) none
section
variable (P : Program) (T : Tab) (mb : Nat → Bool)
def effM (H : Hp) (hr : List Nat) (o : Oper) (d : Nat) (S : Slots) (ht : Option (List A)) : Option (Eff × List Nat × List Ob) := match evM P T S H ht o.op o.type with
  | some (v, p) => some (⟨[(d, v)], []⟩, hr, p)
  | none => none
def readsH (H : Hp) (S : Slots) : Op → Hp × List Nat
  | .load _ x => match rd S x with
    | .ref id _ => (only H id, [id])
    | _ => (fun _ => none, [])
  | .lookup _ x _ _ => match rd S x with
    | .mp id => (only H id, [id])
    | _ => (fun _ => none, [])
  | .call { callee := .value _, args, .. } => match (rds S args.toList).filterMap (fun | .ms id _ _ => some id | _ => none) with
    | [id] => (only H id, [id])
    | _ => (fun _ => none, [])
  | _ => (fun _ => none, [])
def valD (o : Oper) (d : Nat) (S : Slots) (H : Hp) (ht : Option (List A)) : Option (Eff × List Nat × List Ob) := match readsH H S o.op with
  | (H', hr) => effM P T H' hr o d S ht
def dM (all : Array Oper) (nm : Nat) (o : Oper) (S : Slots) (H : Hp) (ht : Option (List A)) : Option (Eff × List Nat × List Ob) := match o.op, o.dst with
  | .alloc t, some d => match T.ty t with
    | .none => none
    | _ => some (⟨[(d, .ref nm 0)], [(nm, .cells ((T.zr t).map A.down))]⟩, [], [])
  | .box t x, some d => match mb d with
    | true => match okPart (rd S x) with
      | true => some (⟨[(d, .ref nm 0)], [(nm, .cells ((cellsA (rd S x)).map A.down))]⟩, [], [])
      | false => none
    | false => valD P T o d S H ht
  | .load t x, some d => match ht with
    | some [] => match rd S x with
      | .ref id off => match H id with
        | some (.cells cs) => match T.ty t, (T.ty t).isAgg with
          | .none, _ => none
          | _, false => some (⟨[(d, cs.getD off .un)], [(id, .cells (setSeg cs off [(cs.getD off .un).down]))]⟩, [id], [.of (off < cs.length)])
          | _, _ => none
        | _ => none
      | _ => none
    | _ => valD P T o d S H ht
  | .store t x v, none => match rd S x with
    | .ref id off => match H id, T.ty t with
      | _, .none => none
      | some (.cells cs), _ => match v, isOwn (rd S v) with
        | .tmp tv, true => some (⟨[(tv, (S tv).down)], [(id, .cells (setSeg cs off [S tv]))]⟩, [id], [.of (T.sz t = 1), .of (off < cs.length)])
        | _, _ => match okPart (rd S v) with
          | true => some (⟨[], [(id, .cells (setSeg cs off ((cellsA (rd S v)).map A.down)))]⟩, [id], [.of ((cellsA (rd S v)).length = T.sz t), .of (off + T.sz t ≤ cs.length)])
          | false => none
      | _, _ => none
    | _ => none
  | .makeSlice t x y, some d => match rd S x, rd S y, T.ty t with
    | .s (.int .i64 n), .s (.int .i64 m), .slice el => match T.ty el with
      | .none => none
      | _ => some (⟨[(d, .ms nm 0 n.toNat)], [(nm, .cells (((List.range (n.toNat * T.sz el)).map fun j => (T.zr el).getD (j % T.sz el) .un).map A.down))]⟩, [], [.of (m = n), .of (0 ≤ n), .of (n ≤ maxLen), .of ((T.by' el : Int) * n ≤ 140737488355328)])
    | _, _, _ => none
  | .buildSlice t n parts, some d => match ht with
    | some [.ms _ _ _] => match litW T S t n parts with
      | some (cs, p) => some (⟨[(d, .ms nm 0 n)], [(nm, .cells cs)]⟩, [], p)
      | none => none
    | _ => valD P T o d S H ht
  | .assign (.tmp t), some d => match isOwn (S t) && !Nat.beq t d with
    | true => some (⟨[(t, (S t).down), (d, S t)], []⟩, [], [])
    | false => valD P T o d S H ht
  | .move (.tmp t), some d => match feeds all.toList d && (isOwn (S t) && !Nat.beq t d) with
    | true => some (⟨[(t, (S t).down), (d, S t)], []⟩, [], [])
    | false => valD P T o d S H ht
  | .call { callee := .builtin .append, args, argTypes }, some d => match args.toList, argTypes.toList with
    | [.tmp tx, y], [t, t'] => match ht with
      | some [.un] => match S tx, rd S y, T.ty t with
        | .sl false (.own el) es, .sl _ _ ys, .slice el' => match T.ty el, T.sz el, Nat.beq t t', Nat.beq el el', Nat.beq tx d with
          | .none, _, _, _, _ => none
          | _, 0, _, _, _ => none
          | _, _, true, true, false => some (⟨[(tx, (S tx).down), (d, .sl false (.own el) (es ++ ys))], []⟩, [], [.of (∀ z ∈ ys, z.length = T.sz el), .of (∀ z ∈ es, z.length = T.sz el), .of ((es.length + ys.length + (es.length + ys.length) / 4 + 192) * T.by' el ≤ 281474976710656), .of (es.length + ys.length ≤ maxLen)])
          | _, _, _, _, _ => none
        | _, _, _ => valD P T o d S H ht
      | _ => match S tx, rd S y, T.ty t with
        | .sl false (.own el) es, .sl _ _ ys, .slice el' => match T.ty el, T.sz el, Nat.beq t t', Nat.beq el el', Nat.beq tx d with
          | .none, _, _, _, _ => none
          | _, 0, _, _, _ => none
          | _, _, true, true, false => some (⟨[(tx, (S tx).down), (d, .sl false (.own el) (es ++ ys))], []⟩, [], [.of (∀ z ∈ ys, z.length = T.sz el), .of (∀ z ∈ es, z.length = T.sz el), .of ((es.length + ys.length) * T.by' el ≤ 140737488355328), .of (es.length + ys.length ≤ maxLen)])
          | _, _, _, _, _ => none
        | _, _, _ => valD P T o d S H ht
    | _, _ => valD P T o d S H ht
  | .call { callee := .value f, args, argTypes }, some d => match ht, rd S f with
    | some [v, .sl false .any kl], .fn (.func g) fst cap => some (⟨[(d, v)], [(nm, .map (kvsOf kl))]⟩, [], [obP (NewMap P g (fst ++ rds S args.toList ++ cap) nm v (kvsOf kl))])
    | some [v, .pt cs], .fn (.func g) fst cap => some (⟨[(d, v)], [(nm, .cells cs)]⟩, [], [obP (NewBlk P g (fst ++ rds S args.toList ++ cap) nm v cs)])
    | some [v, .tup ns], .fn (.func g) fst cap => some (⟨[(d, v)], []⟩, idsOf ns, [obP (RCall P g (fst ++ rds S args.toList ++ cap) (onlyL H (idsOf ns)) v)])
    | _, _ => valD P T o d S H ht
  | .makeMap t none, some d => some (⟨[(d, .mp nm)], [(nm, .map [])]⟩, [], [])
  | .mapUpdate t x k v, none => match T.ty t, rd S x with
    | .map kt et, .mp id => match H id with
      | some (.map kvs) => forceK (rd S k) fun k => some (⟨[], [(id, .map (upKV kvs k (rd S v).down (ixOf P kt kvs k)))]⟩, [id], [obP (∃ j, KeyAt P kt kvs k j)])
      | _ => none
    | _, _ => none
  | .mapEntry t x k, some d => match T.ty t, rd S x, ht with
    | .map kt et, .mp id, some [v] => match H id, T.ty et with
      | _, .none => none
      | some (.map kvs), _ => forceK (rd S k) fun k => some (⟨[(d, .tup [v, .int (match ixOf P kt kvs k with | some j => j | none => kvs.length)])], [(id, .map (upKV kvs k v (ixOf P kt kvs k)))]⟩, [id], [obP (∃ j, KeyAt P kt kvs k j), obP (v = lkA T et kvs (ixOf P kt kvs k))])
      | _, _ => none
    | _, _, _ => none
  | .entryStore t x st v, none => match rd S x, rd S st with
    | .mp id, .s (.int .i64 n) => match H id with
      | some (.map kvs) => some (⟨[], [(id, .map (kvs.set n.toNat ((kvs.getD n.toNat (.un, .un)).1, (rd S v).down)))]⟩, [id], [obP (0 ≤ n), obP (n.toNat < kvs.length)])
      | _ => none
    | _, _ => none
  | _, some d => valD P T o d S H ht
  | _, none => none
def gM (all : Array Oper) (nm : Nat) (o : Oper) (S : Slots) (H : Hp) (ht : Option (List A)) : Option (Eff × List Nat × List Ob) := match o.guard with
  | none => dM P T mb all nm o S H ht
  | some (j, want) => match (all[j]?).bind (·.dst), o.dst with
    | some t, some d => match gv (S t) want with
      | some q => match readsH H (gS o.op S) o.op with
        | (H', hr) => match evM P T (gS o.op S) H' ht o.op o.type with
          | some (v, p) => some (⟨[(d, .cnd q v)], []⟩, hr, under q (owed S ((opTmps o.op).filter (gset o.op))) ++ under q p)
          | none => none
      | none => none
    | _, _ => none
end
section
variable {X : Ctx} {T : Tab} {r : Option Nat} {mb : Nat → Bool} {o : Oper} {S : Slots} {H : Hp} {all : Array Oper}
theorem reads_ok {S : Slots} {op : Op} {H' : Hp} {hr : List Nat} (h : readsH H S op = (H', hr)) : ∀ H1 : Hp, (∀ id, id ∈ hr → H1 id = H id) → ∀ id bx, H' id = some bx → H1 id = some bx := by
  have one : ∀ i, H' = only H i → hr = [i] → ∀ H1 : Hp, (∀ id, id ∈ hr → H1 id = H id) → ∀ id bx, H' id = some bx → H1 id = some bx := by
    rintro i rfl rfl H1 h1 id bx hb
    by_cases e : id = i
    · subst e; rw [h1 id (by simp)]; simpa [only] using hb
    · simp [only, beq_no e] at hb
  have non : H' = (fun _ => none) → ∀ H1 : Hp, (∀ id, id ∈ hr → H1 id = H id) → ∀ id bx, H' id = some bx → H1 id = some bx := by
    rintro rfl H1 h1 id bx hb; cases hb
  unfold readsH at h
  split at h
  · split at h <;> (simp only [Prod.mk.injEq] at h; obtain ⟨rfl, rfl⟩ := h)
    · exact one _ rfl rfl
    · exact non rfl
  · split at h <;> (simp only [Prod.mk.injEq] at h; obtain ⟨rfl, rfl⟩ := h)
    · exact one _ rfl rfl
    · exact non rfl
  · split at h <;> (simp only [Prod.mk.injEq] at h; obtain ⟨rfl, rfl⟩ := h)
    · exact one _ rfl rfl
    · exact non rfl
  · simp only [Prod.mk.injEq] at h; obtain ⟨rfl, rfl⟩ := h; exact non rfl
theorem valD_fire (hT : T.Ok X.P) {d nm : Nat} {f : Eff} {hr : List Nat} {ht : Option (List A)} {p : List Ob} (hd : o.dst = some d) (h : valD X.P T o d S H ht = some (f, hr, p)) (hp : AllP p) : FireR X r o (opTmps o.op) hr S H f nm := by
  unfold valD at h
  split at h
  rename_i H' hr' hrd
  unfold effM at h
  split at h
  · rename_i v p' hev
    simp only [Option.some.injEq, Prod.mk.injEq] at h
    obtain ⟨rfl, rfl, rfl⟩ := h
    exact .of_P fun S' H1 c' h1 h2 => DoesP.valM hT hd ((evM_sound hev hp).congr h1 (reads_ok hrd H1 h2)) rfl
  · cases h
set_option maxHeartbeats 2000000 in
theorem dM_fire (hT : T.Ok X.P) {nm : Nat} {f : Eff} {hr : List Nat} {ht : Option (List A)} {p : List Ob} (h : dM X.P T mb all nm o S H ht = some (f, hr, p)) (hp : AllP p) : FireR X r o (opTmps o.op) hr S H f nm := by
  have plain : ∀ d, o.dst = some d → valD X.P T o d S H ht = some (f, hr, p) → FireR X r o (opTmps o.op) hr S H f nm := fun d hd h => valD_fire hT hd h hp
  have tm : ∀ {S' : Slots} {x : Operand}, x ∈ o.op.operands.toList → (∀ t, t ∈ opTmps o.op → S' t = S t) → rd S' x = rd S x := fun hx h => tmp_mem hx h
  unfold dM at h
  split at h
  · rename_i t d ho hd
    split at h
    · cases h
    · rename_i ht
      simp only [Option.some.injEq, Prod.mk.injEq] at h
      obtain ⟨rfl, rfl, rfl⟩ := h
      intro hdn S' H' c' φ Z a w hr h1 h2 hnm hlt next Q hn
      obtain ⟨dst, op, ty, pos, aft, gd⟩ := o
      simp only at ho hd; subst ho; subst hd
      obtain ⟨z, hz1, hz2⟩ := run_zero hT (w := w) ht
      exact wp_run (fun c => by simp) (by rw [ex_alloc, Sem.run_bind, run_alloc hz1]; rfl) (hn _ Z _ _ (fun k hk => by simp [beq_no hk])
        (hr.newCells (ty := t) (hdn d rfl) hnm (Nat.le_refl _) hlt (zero_vrc hz2) (.ref _ _ _ (by simp)) (fun p => by simp [spareOf])))
  · rename_i t x d ho hd
    split at h
    · split at h
      · rename_i hpk
        simp only [Option.some.injEq, Prod.mk.injEq] at h
        obtain ⟨rfl, rfl, rfl⟩ := h
        intro hdn S' H' c' φ Z a w hr h1 h2 hnm hlt next Q hn
        have hx : rd S' x = rd S x := tm (by rw [ho]; simp [Op.operands]) h1
        rw [← hx] at hpk hn
        obtain ⟨dst, op, ty, pos, aft, gd⟩ := o
        simp only at ho hd; subst ho; subst hd
        exact wp_run (v := .pointer (some ⟨w.heap.size, 0, none⟩)) (w' := w.alloc (.cells (a.eval x).cells t)) (fun c => by simp) (by rw [ex_box]; rfl)
          (hn _ Z _ _ (fun k hk => by simp [beq_no hk]) (hr.newCells (ty := t) (hdn d rfl) hnm (Nat.le_refl _) hlt (cells_vr (hr.sees.rd x) hpk) (.ref _ _ _ (by simp)) (fun p => by simp [spareOf])))
      · cases h
    · exact plain d hd h
  · rename_i t x d ho hd
    split at h
    · split at h
      · rename_i id off hx
        split at h
        · rename_i cs hl
          split at h
          · cases h
          · rename_i h2 h3
            simp only [Option.some.injEq, Prod.mk.injEq] at h
            obtain ⟨rfl, rfl, rfl⟩ := h
            refine .of_P fun S' H' c' k1 k2 => ?_
            have ex : rd S' x = rd S x := tm (by rw [ho]; simp [Op.operands]) k1
            exact DoesP.loadTake hT ho hd (by show rd S' x = _; rw [ex]; exact hx) (by show H' id = _; rw [k2 id (by simp)]; exact hl) (by assumption) (by assumption) hp.1 rfl
          · cases h
        · cases h
      · cases h
    · exact plain d hd h
  · rename_i t x v ho hd
    split at h
    · rename_i id off hx
      split at h
      · cases h
      · rename_i cs hl ht
        split at h
        · rename_i tv how
          simp only [Option.some.injEq, Prod.mk.injEq] at h
          obtain ⟨rfl, rfl, rfl⟩ := h
          refine .of_P fun S' H' c' k1 k2 => ?_
          have ex : rd S' x = rd S x := tm (by rw [ho]; simp [Op.operands]) k1
          have et : S' tv = S tv := k1 tv (by rw [ho]; exact mem_opTmps (by simp [Op.operands]))
          have how : isOwn (S tv) = true := how
          refine DoesP.storeOwn hT ho hd (by show rd S' x = _; rw [ex]; exact hx) (by show H' id = _; rw [k2 id (by simp)]; exact hl) ht (own_one (by show isOwn (S' tv) = _; rw [et]; exact how)) hp.1 hp.2.1 ?_
          show (⟨upd S' tv (S' tv).down, updH H' id (some (.cells (setSeg cs off [S' tv]))), c'⟩ : St) = _
          rw [et]; rfl
        split at h
        · rename_i v v' bb hne b2 h1
          simp only [Option.some.injEq, Prod.mk.injEq] at h
          obtain ⟨rfl, rfl, rfl⟩ := h
          refine .of_P fun S' H' c' k1 k2 => ?_
          have ex : rd S' x = rd S x := tm (by rw [ho]; simp [Op.operands]) k1
          have ev : rd S' v = rd S v := tm (by rw [ho]; simp [Op.operands]) k1
          refine DoesP.store hT ho hd (by show rd S' x = _; rw [ex]; exact hx) (by show H' id = _; rw [k2 id (by simp)]; exact hl) ht (by show okPart (rd S' v) = _; rw [ev]; exact h1) (by show (cellsA (rd S' v)).length = _; rw [ev]; exact hp.1) hp.2.1 ?_
          show (⟨S', updH H' id (some (.cells (setSeg cs off ((cellsA (rd S' v)).map A.down)))), c'⟩ : St) = _
          rw [ev]; rfl
        · cases h
      · cases h
    · cases h
  · rename_i t x y d ho hd
    split at h
    · rename_i n m el h1 h2 h3
      split at h
      · cases h
      · rename_i h4
        simp only [Option.some.injEq, Prod.mk.injEq] at h
        obtain ⟨rfl, rfl, rfl⟩ := h
        obtain ⟨k0, k1, k2, k3, _⟩ := hp
        have k0 : m = n := k0
        subst k0
        intro hdn S' H' c' φ Z a w hr q1 q2 hnm hlt next Q hn
        have ex : rd S' x = rd S x := tm (by rw [ho]; simp [Op.operands]) q1
        have ey : rd S' y = rd S y := tm (by rw [ho]; simp [Op.operands]) q1
        rw [← ex] at h1; rw [← ey] at h2
        obtain ⟨dst, op, ty, pos, aft, gd⟩ := o
        simp only at ho hd; subst ho; subst hd
        obtain ⟨i, hi, hi1, hi2, z, hiz, hzf⟩ := hT.inf el h4
        have e1 := inv_s (h1 ▸ hr.sees.rd x)
        have e2 := inv_s (h2 ▸ hr.sees.rd y)
        have k2' : m ≤ maxLen := k2
        have k3' : (T.by' el : Int) * m ≤ 140737488355328 := k3
        have hrun := run_make (P := X.P) w t el i z (und_slice hT h3) hi hiz .i64 .i64 m m k1 (Int.le_refl _) (by rw [hi2]; omega) (by simp only [maxLen] at k2'; omega)
        have hv : VRc φ Z w ((List.range (m.toNat * T.sz el)).map fun j => (T.zr el).getD (j % T.sz el) .un) (madeCells z.cells (m.toNat * i.size)) := by
          have hz := zero_vrc (φ := φ) (Z := Z) (w := w) hzf
          refine ⟨by rw [size_madeCells, hi1]; simp, fun j hj => ?_⟩
          have hj' : j < m.toNat * T.sz el := by simpa using hj
          have hpos : 0 < T.sz el := Nat.pos_of_ne_zero fun h => by rw [h] at hj'; simp at hj'
          have hmod : j % T.sz el < T.sz el := Nat.mod_lt _ hpos
          have h3 := hz.2 (j % T.sz el) (by rw [hzf.2.1]; exact hmod)
          have g1 : (madeCells z.cells (m.toNat * i.size)).getD j undef = z.cells.getD (j % T.sz el) undef := by
            have h5 : j % T.sz el < z.cells.size := by rw [hzf.1]; exact hmod
            simp [madeCells, Array.getD_eq_getD_getElem?, hi1, hj', hzf.1, h5, getElem!_pos z.cells (j % T.sz el) h5]
            rw [Array.getElem?_eq_getElem h5]; rfl
          have g2 : ((List.range (m.toNat * T.sz el)).map fun j => (T.zr el).getD (j % T.sz el) .un).getD j .un = (T.zr el).getD (j % T.sz el) .un := by
            simp [List.getD_eq_getElem?_getD, hj']
          rw [g1, g2]
          exact h3
        refine wp_run (fun c => by simp) (by rw [ex_makeSlice, Sem.run_bind, e1, e2, hrun]; rfl) (hn _ Z _ _ (fun k hk => by simp [beq_no hk]) (hr.newCells (ty := el) (hdn d rfl) hnm (Nat.le_refl _) hlt hv ?_ (fun p => by simp [spareOf])))
        exact .ms _ _ _ _ _ (by simp) (Nat.le_refl _) (by omega)
    · cases h
  · rename_i t n parts d ho hd
    split at h
    · split at h
      · rename_i cs p' hl
        simp only [Option.some.injEq, Prod.mk.injEq] at h
        obtain ⟨rfl, rfl, rfl⟩ := h
        intro hdn S' H' c' φ Z a w hr q1 q2 hnm hlt next Q hn
        have hlS : litW T S' t n parts = some (cs, p') := by
          have e1 : ∀ p ∈ parts.toList, rd S' p.2 = rd S p.2 := fun p hp => tm (by rw [ho]; simp only [Op.operands]; exact (by simpa using ⟨p.1, by simpa using hp⟩)) q1
          have e2 : (parts.toList.map fun p => rd S' p.2) = parts.toList.map fun p => rd S p.2 := List.map_congr_left e1
          unfold litW at hl ⊢
          rw [e2]; exact hl
        obtain ⟨dst, op, ty, pos, aft, gd⟩ := o
        simp only at ho hd
        subst ho; subst hd
        obtain ⟨e, cs0, cells', rfl, k1, k2, k3⟩ := litW_run hT hr.sees hlS hp
        exact wp_run (fun c => by simp) (by rw [ex_lit, Sem.run_bind, k2]; rfl) (hn _ Z _ _ (fun k hk => by simp [beq_no hk]) (hr.newCells (ty := e) (hdn d rfl) hnm (Nat.le_refl _) hlt k1 (.ms _ _ _ _ _ (by simp) (Nat.le_refl _) k3) (fun p => by simp [spareOf])))
      · cases h
    · exact plain d hd h
  · rename_i t d ho hd
    split at h
    · rename_i h1
      simp only [Bool.and_eq_true, Bool.not_eq_true'] at h1
      simp only [Option.some.injEq, Prod.mk.injEq] at h
      obtain ⟨rfl, rfl, rfl⟩ := h
      refine .of_P fun S' H' c' k1 k2 => ?_
      have et : S' t = S t := k1 t (by rw [ho]; simp [opTmps, Op.operands])
      refine DoesP.take (.inr ho) hd (fun e1 => by subst e1; simp at h1) ?_
      show (⟨upd (upd S' t (S' t).down) d (S' t), H', c'⟩ : St) = _
      rw [et]; rfl
    · exact plain d hd h
  · rename_i t d ho hd
    split at h
    · rename_i h1
      simp only [Bool.and_eq_true, Bool.not_eq_true'] at h1
      simp only [Option.some.injEq, Prod.mk.injEq] at h
      obtain ⟨rfl, rfl, rfl⟩ := h
      refine .of_P fun S' H' c' k1 k2 => ?_
      have et : S' t = S t := k1 t (by rw [ho]; simp [opTmps, Op.operands])
      refine DoesP.take (.inl ho) hd (fun e1 => by subst e1; simp at h1) ?_
      show (⟨upd (upd S' t (S' t).down) d (S' t), H', c'⟩ : St) = _
      rw [et]; rfl
    · exact plain d hd h
  · rename_i args at' d ho hd
    split at h
    · rename_i tx y t t' ha ht
      obtain rfl := two_arg ha
      obtain rfl := two_arg ht
      split at h
      · split at h
        · rename_i el es nil2 cap2 ys el' h1 h2 h3
          split at h
          · cases h
          · cases h
          · rename_i h4 h5 h6 h7 h8
            obtain rfl := Nat.eq_of_beq_eq_true h4
            obtain rfl := Nat.eq_of_beq_eq_true h5
            simp only [Option.some.injEq, Prod.mk.injEq] at h
            obtain ⟨rfl, rfl, rfl⟩ := h
            refine .of_P fun S' H' c' j1 j2 => ?_
            have et : S' tx = S tx := j1 tx (by rw [ho]; simp [opTmps, Op.operands, Call.operands])
            have ey : rd S' y = rd S y := tm (by rw [ho]; simp [Op.operands, Call.operands]) j1
            refine DoesP.appOwnW hT ho hd h3 (by assumption) (Nat.pos_of_ne_zero (by assumption)) (by show S' tx = _; rw [et]; exact h1) (by show rd S' y = _; rw [ey]; exact h2) (fun e => by subst e; simp at h6) (fun z hz => (List.mem_append.1 hz).elim (hp.2.1 z) (hp.1 z)) (.inr hp.2.2.1) hp.2.2.2.1 ?_
            show (⟨upd (upd S' tx (S' tx).down) d _, H', c'⟩ : St) = _
            rw [et]; rfl
          · cases h
        · exact plain d hd h
      · split at h
        · rename_i el es nil2 cap2 ys el' h1 h2 h3
          split at h
          · cases h
          · cases h
          · rename_i h4 h5 h6 h7 h8
            obtain rfl := Nat.eq_of_beq_eq_true h4
            obtain rfl := Nat.eq_of_beq_eq_true h5
            simp only [Option.some.injEq, Prod.mk.injEq] at h
            obtain ⟨rfl, rfl, rfl⟩ := h
            refine .of_P fun S' H' c' j1 j2 => ?_
            have et : S' tx = S tx := j1 tx (by rw [ho]; simp [opTmps, Op.operands, Call.operands])
            have ey : rd S' y = rd S y := tm (by rw [ho]; simp [Op.operands, Call.operands]) j1
            refine DoesP.appOwn hT ho hd h3 (by assumption) (Nat.pos_of_ne_zero (by assumption)) (by show S' tx = _; rw [et]; exact h1) (by show rd S' y = _; rw [ey]; exact h2) (fun e => by subst e; simp at h6) (fun z hz => (List.mem_append.1 hz).elim (hp.2.1 z) (hp.1 z)) hp.2.2.1 hp.2.2.2.1 ?_
            show (⟨upd (upd S' tx (S' tx).down) d _, H', c'⟩ : St) = _
            rw [et]; rfl
          · cases h
        · exact plain d hd h
    · exact plain d hd h
  · rename_i f args at' d ho hd
    split at h
    · rename_i hf
      simp only [Option.some.injEq, Prod.mk.injEq] at h
      obtain ⟨rfl, rfl, rfl⟩ := h
      exact NewMap.fire ho hd hf hp.1
    · rename_i hf
      simp only [Option.some.injEq, Prod.mk.injEq] at h
      obtain ⟨rfl, rfl, rfl⟩ := h
      exact NewBlk.fire ho hd hf hp.1
    · rename_i hf
      simp only [Option.some.injEq, Prod.mk.injEq] at h
      obtain ⟨rfl, rfl, rfl⟩ := h
      exact RCall.fire ho hd hf hp.1
    · exact plain d hd h
  · rename_i t d ho hd
    simp only [Option.some.injEq, Prod.mk.injEq] at h
    obtain ⟨rfl, rfl, rfl⟩ := h
    intro hdn S' H' c' φ Z a w hr h1 h2 hnm hlt next Q hn
    obtain ⟨dst, op, ty, pos, aft, gd⟩ := o
    simp only at ho hd; subst ho; subst hd
    have m : More w (w.alloc (.map #[] 0)) Z Z := ⟨Quiet.alloc _ _, fun _ _ h => h, fun _ _ h _ => h, fun b o hz hb => by have := hr.zlt hz; omega⟩
    have h1 := hr.newBox (bx := .map []) (b := w.heap.size) (nm := nm) (c' := c') m hnm (Nat.le_refl _) hlt (Nat.le_refl _) (fun o hz => by have := hr.zlt hz; omega)
      ⟨#[], heap_alloc_new w _, rfl, fun i hi => by simp at hi⟩ (fun j v p => by simp [cellOf, spareOf])
    have h2 := h1.put_down h1.more_refl (hdn d rfl) (x := .mp nm) (v := .map (some w.heap.size)) (.mp _ _ (by simp)) (fun p => by simp [spareOf])
    exact wp_run (v := .map (some w.heap.size)) (w' := w.alloc (.map #[] 0)) (fun c => by simp) (by rw [ex_makeMap]; rfl) (hn _ Z _ _ (fun k hk => by simp [beq_no hk]) h2)
  · rename_i t x k v ho hd
    split at h
    · rename_i kt et id ht hx
      split at h
      · rename_i kvs hl
        simp only [forceK_eq, Option.some.injEq, Prod.mk.injEq] at h
        obtain ⟨rfl, rfl, rfl⟩ := h
        obtain ⟨⟨j, hj⟩, _⟩ := hp
        rw [hj.ix]
        obtain ⟨ks, kv, k1, k2, k3, k4, k5, k6⟩ := hj.ex
        refine .of_P fun S' H' c' q1 q2 => ?_
        have ex : rd S' x = rd S x := tm (by rw [ho]; simp [Op.operands]) q1
        have ek : rd S' k = rd S k := tm (by rw [ho]; simp [Op.operands]) q1
        have ev : rd S' v = rd S v := tm (by rw [ho]; simp [Op.operands]) q1
        refine DoesP.mapUpdate hT ho hd ht (by show rd S' x = _; rw [ex]; exact hx) (by show H' id = _; rw [q2 id (by simp)]; exact hl) (by show concA (rd S' k) = _; rw [ek]; exact k1) k2 k4 k5 k6 ?_
        show (⟨S', updH H' id (some (.map (upKV kvs (rd S' k) (rd S' v).down j))), c'⟩ : St) = _
        rw [ek, ev]; rfl
      · cases h
    · cases h
  · rename_i t x k d ho hd
    split at h
    · rename_i kt et id v ht hx
      split at h
      · cases h
      · rename_i kvs hl he
        simp only [forceK_eq, Option.some.injEq, Prod.mk.injEq] at h
        obtain ⟨rfl, rfl, rfl⟩ := h
        obtain ⟨⟨j, hj⟩, hv, _⟩ := hp
        have hv : v = _ := hv
        rw [hj.ix] at hv ⊢
        subst hv
        obtain ⟨ks, kv, k1, k2, k3, k4, k5, k6⟩ := hj.ex
        refine .of_P fun S' H' c' q1 q2 => ?_
        have ex : rd S' x = rd S x := tm (by rw [ho]; simp [Op.operands]) q1
        have ek : rd S' k = rd S k := tm (by rw [ho]; simp [Op.operands]) q1
        refine DoesP.mapEntry hT ho hd ht (by assumption) (by show rd S' x = _; rw [ex]; assumption) (by show H' id = _; rw [q2 id (by simp)]; assumption) (by show concA (rd S' k) = _; rw [ek]; exact k1) k2 k4 k5 k6 ?_
        show (⟨upd S' d _, updH H' id (some (.map (upKV kvs (rd S' k) (lkA T et kvs j) j))), c'⟩ : St) = _
        rw [ek]; cases j <;> rfl
      · cases h
    · cases h
  · rename_i t x st v ho hd
    split at h
    · rename_i id n hx hst
      split at h
      · rename_i kvs hl
        simp only [Option.some.injEq, Prod.mk.injEq] at h
        obtain ⟨rfl, rfl, rfl⟩ := h
        obtain ⟨h0, h1, _⟩ := hp
        have h0 : 0 ≤ n := h0
        refine .of_P fun S' H' c' q1 q2 => ?_
        have ex : rd S' x = rd S x := tm (by rw [ho]; simp [Op.operands]) q1
        have es : rd S' st = rd S st := tm (by rw [ho]; simp [Op.operands]) q1
        have ev : rd S' v = rd S v := tm (by rw [ho]; simp [Op.operands]) q1
        refine DoesP.entryStore hT ho hd (by show rd S' x = _; rw [ex]; exact hx) (by show H' id = _; rw [q2 id (by simp)]; exact hl) (by show rd S' st = _; rw [es, Int.toNat_of_nonneg h0]; exact hst) h1 ?_
        show (⟨S', updH H' id (some (.map (kvs.set n.toNat ((kvs.getD n.toNat (.un, .un)).1, (rd S' v).down)))), c'⟩ : St) = _
        rw [ev]; rfl
      · cases h
    · cases h
  · exact plain _ (by assumption) h
  · cases h
theorem gM_fire (hT : T.Ok X.P) {nm : Nat} {f : Eff} {hr : List Nat} {ht : Option (List A)} {p : List Ob} (h : gM X.P T mb all nm o S H ht = some (f, hr, p)) (hp : AllP p) : FireOk X r all o (rst all o) hr S H f nm := by
  unfold gM at h
  split at h
  · rename_i hg
    intro hd S' H' c' φ Z a w hr' h1 h2 h3 h4 next Q hn
    unfold StepW
    rw [if_pos (wanted_none hg _)]
    exact dM_fire hT h hp hd S' H' c' φ Z a w hr' (fun t ht => h1 t (List.mem_append_left _ ht)) h2 h3 h4 next Q hn
  · rename_i j want hg
    split at h
    · rename_i t d hj hd
      split at h
      · rename_i q hS
        split at h
        rename_i H1 hr1 hrd
        split at h
        · rename_i v p' hev
          simp only [Option.some.injEq, Prod.mk.injEq] at h
          obtain ⟨rfl, rfl, rfl⟩ := h
          rw [AllP.append] at hp
          intro hdn S' H' c' φ Z a w hr' h1 h2 h3 h4 next Q hn
          have ht' : gv (S' t) want = some q := by rw [h1 t (List.mem_append_right _ (by simp [guardTmps, hg, hj])), hS]
          have hop : ∀ t', t' ∈ opTmps o.op → S' t' = S t' := fun t' ht' => h1 t' (List.mem_append_left _ ht')
          exact step_valgM (s := ⟨S', H', c'⟩) hT hg hj ht' hd (fun hq t' ht' hg' => by show guardOf (S' t') = true; rw [hop t' ht']; exact owed_ok (under_ok hp.1 hq) t' (List.mem_filter.2 ⟨ht', hg'⟩))
            (fun hq => (evM_sound hev (under_ok hp.2 hq)).congr (fun t' ht' => by show gS o.op S' t' = gS o.op S t'; unfold gS; rw [hop t' ht']) (reads_ok hrd H' h2)) hdn hr'
            fun Z' a' w' hr2 => hn φ Z' a' w' (fun _ _ => rfl) hr2
        · cases h
      · cases h
    · cases h
end
def runMD (P : Program) (T : Tab) (mb : Nat → Bool) (all : Array Oper) (c0 : Nat) (hs : List (Nat × List A)) : List Oper → Nat → Slots → Hp → List Ob → Option (Slots × Hp × List (Eff × List Nat) × List Ob)
  | [], _, S, H, ob => some (S, H, [], ob)
  | o :: l, i, S, H, ob => match gM P T mb all (c0 + i) o S H (lkHint hs i) with
    | some (f, hr, p) => match f.ws.all fun q => (wstM all o).any (Nat.beq q.1) with
      | true => forceO p ob fun ob => match runMD P T mb all c0 hs l (i + 1) (apS S f.ws) (apH H f.hs) ob with
        | some (S', H', fs, ob') => some (S', H', (f, hr) :: fs, ob')
        | none => none
      | false => none
    | none => none
theorem runMD_ok {X : Ctx} {T : Tab} {r : Option Nat} {mb : Nat → Bool} {all : Array Oper} {c0 : Nat} {hs : List (Nat × List A)} (hT : T.Ok X.P) : ∀ (l : List Oper) (i : Nat) {S S' : Slots} {H H' : Hp} {fs : List (Eff × List Nat)} {ob ob' : List Ob},
    runMD X.P T mb all c0 hs l i S H ob = some (S', H', fs, ob') → AllP ob' →
    AllP ob ∧ fs.length = l.length ∧ S' = apAll S (fs.map (·.1)) ∧ H' = apAllH H (fs.map (·.1)) ∧
    ∀ k o f hr, l[k]? = some o → fs[k]? = some (f, hr) → FireOk X r all o (rst all o) hr (apAll S ((fs.map (·.1)).take k)) (apAllH H ((fs.map (·.1)).take k)) f (c0 + (i + k)) ∧ ∀ t, t ∈ f.ws.map (·.1) → t ∈ wstM all o
  | [], i, S, S', H, H', fs, ob, ob', h, ho => by
    simp only [runMD, Option.some.injEq, Prod.mk.injEq] at h
    obtain ⟨rfl, rfl, rfl, rfl⟩ := h
    exact ⟨ho, rfl, rfl, rfl, fun k o f hr h => by simp at h⟩
  | o :: l, i, S, S', H, H', fs, ob, ob', h, ho => by
    unfold runMD at h
    split at h
    · rename_i f hr p hst
      split at h
      · rename_i hws
        rw [forceO_eq] at h
        split at h
        · rename_i S1 H1 fs1 ob1 hrun
          simp only [Option.some.injEq, Prod.mk.injEq] at h
          obtain ⟨rfl, rfl, rfl, rfl⟩ := h
          obtain ⟨k0, k1, k2, k3, k4⟩ := runMD_ok (r := r) hT l (i + 1) hrun ho
          rw [AllP.append] at k0
          refine ⟨k0.2, by simp [k1], k2, k3, fun k o' f' hr' ho' hf => ?_⟩
          cases k with
          | zero =>
            simp only [List.getElem?_cons_zero, Option.some.injEq] at ho' hf
            subst ho'; cases hf
            refine ⟨gM_fire hT hst k0.1, fun t ht => ?_⟩
            obtain ⟨p, hp, rfl⟩ := List.mem_map.1 ht
            have := List.all_eq_true.1 hws p hp
            obtain ⟨y, hy, hy2⟩ := List.any_eq_true.1 this
            rw [Nat.eq_of_beq_eq_true hy2]; exact hy
          | succ k =>
            have := k4 k o' f' hr' (by simpa using ho') (by simpa using hf)
            rw [show i + 1 + k = i + (k + 1) by omega] at this
            exact this
        · cases h
      · cases h
    · cases h
def confB (ms : List Nat) (b m : Nat) (W R : Nat → List Nat) : Bool := (List.range m).all fun i => match W i with
  | [] => true
  | _ => (List.range m).all fun j => Nat.beq i j || (cond (Nat.blt i j) ((ms.getD (b + j) 0).testBit (b + i)) ((ms.getD (b + i) 0).testBit (b + j)) || (disj (W i) (W j) && disj (W i) (R j)))
theorem confB_at {ms : List Nat} {b m : Nat} {W R : Nat → List Nat} (h : confB ms b m W R = true) {i j : Nat} (hi : i < m) (hj : j < m) (hne : i ≠ j) (hb : cond (Nat.blt i j) ((ms.getD (b + j) 0).testBit (b + i)) ((ms.getD (b + i) 0).testBit (b + j)) = false) :
    ∀ t, t ∈ W i → t ∉ W j ∧ t ∉ R j := fun t ht => by
  have h1 := List.all_eq_true.1 h i (List.mem_range.2 hi)
  split at h1
  · rename_i e; rw [e] at ht; cases ht
  · have h2 := List.all_eq_true.1 h1 j (List.mem_range.2 hj)
    rw [beq_no hne, hb] at h2
    simp only [Bool.false_or, Bool.and_eq_true] at h2
    exact ⟨disj_ok h2.1 t ht, disj_ok h2.2 t ht⟩
theorem confB_ok {ms : List Nat} {b m : Nat} {W R : Nat → List Nat} (h : confB ms b m W R = true) {i j : Nat} (hij : i < j) (hj : j < m) (hb : (ms.getD (b + j) 0).testBit (b + i) = false) :
    (∀ t, t ∈ W i → t ∉ R j ∧ t ∉ W j) ∧ ∀ t, t ∈ R i → t ∉ W j := by
  refine ⟨fun t ht => ?_, fun t ht hw => ?_⟩
  · have := confB_at h (show i < m by omega) hj (by omega) (by rw [blt_of hij]; exact hb) t ht
    exact ⟨this.2, this.1⟩
  · exact (confB_at h hj (show i < m by omega) (by omega) (by rw [blt_no (by omega)]; exact hb) t hw).2 ht
def barB (ms : List Nat) (b m n : Nat) : Bool := (List.range n).all fun i => Nat.blt i (b + m) || (List.range m).all fun k => (ms.getD i 0).testBit (b + k)
theorem barB_ok {ms : List Nat} {b m n : Nat} (h : barB ms b m n = true) : ∀ i k, b + m ≤ i → i < n → b ≤ k → k < b + m → (ms.getD i 0).testBit k = true := fun i k h1 h2 h3 h4 => by
  have := List.all_eq_true.1 h i (List.mem_range.2 h2)
  rw [blt_no (by omega), Bool.false_or] at this
  have := List.all_eq_true.1 this (k - b) (List.mem_range.2 (by omega))
  rwa [show b + (k - b) = k by omega] at this
def opsW (all : Array Oper) (b : Nat) (i : Nat) : List Nat := match all.toList[b + i]? with | some o => wstM all o | none => []
def opsR (all : Array Oper) (b : Nat) (i : Nat) : List Nat := match all.toList[b + i]? with | some o => rst all o | none => []
def namesW (fs : List (Eff × List Nat)) (i : Nat) : List Nat := match fs[i]? with | some p => p.1.hs.map (·.1) | none => []
def namesR (fs : List (Eff × List Nat)) (i : Nat) : List Nat := match fs[i]? with | some p => p.2 | none => []
def pieceOk (ops : Array Oper) (b m : Nat) : Bool := edgesOk ops.toList 0 && (Nat.ble (b + m) ops.size && (barB (masks ops.toList []) b m ops.size && confB (masks ops.toList []) b m (opsW ops b) (opsR ops b)))
section
variable {X : Ctx} {T : Tab} {r : Option Nat} {mb : Nat → Bool} {ops : Array Oper} {Q : Exit → St → Prop} {s : St}
theorem SegW.run (hT : T.Ok X.P) (mb : Nat → Bool) {b : Nat} (m : Nat) (hs : List (Nat × List A)) (hd : dstsOk X.nt ops = true) (hp : pieceOk ops b m = true) {S' : Slots} {H' : Hp} {fs : List (Eff × List Nat)} {ob : List Ob}
    (h : runMD X.P T mb ops s.c hs ((ops.toList.drop b).take m) 0 s.S s.H [] = some (S', H', fs, ob)) (hc : confB (masks ops.toList []) b m (namesW fs) (namesR fs) = true) (ho : AllP ob)
    (k : SegW X r ops Q (b + m) ⟨S', H', s.c + m⟩) : SegW X r ops Q b s := by
  simp only [pieceOk, Bool.and_eq_true] at hp
  obtain ⟨he, hle, hbar, hcs⟩ := hp
  have hle := Nat.le_of_ble_eq_true hle
  obtain ⟨_, k1, k2, k3, k4⟩ := runMD_ok (X := X) (r := r) hT _ _ h ho
  have hlen : fs.length = m := by rw [k1, List.length_take, List.length_drop]; simp; omega
  have hlen2 : (fs.map (·.1)).length = m := by simpa using hlen
  have at0 : ∀ i o, i < m → ops.toList[b + i]? = some o → ((ops.toList.drop b).take m)[i]? = some o := fun i o hi ho => by
    rw [List.getElem?_take, if_pos hi, List.getElem?_drop]; exact ho
  have at1 : ∀ i f, (fs.map (·.1))[i]? = some f → ∃ hr o, fs[i]? = some (f, hr) ∧ ops.toList[b + i]? = some o ∧ i < m := fun i f hf => by
    have hi : i < m := by rw [← hlen2]; exact (List.getElem?_eq_some_iff.1 hf).1
    obtain ⟨p, hp, rfl⟩ : ∃ p, fs[i]? = some p ∧ p.1 = f := by simpa [List.getElem?_map] using hf
    exact ⟨p.2, ops.toList[b + i]'(by simp; omega), hp, by simp [show b + i < ops.size by omega], hi⟩
  refine SegW.draw (fs.map (·.1)) ((List.range m).map (opsR ops b)) (fs.map (·.2)) hd he (by omega) ?_ ?_ ?_ ?_
  · intro i j fi fj hij hi hj hb
    obtain ⟨hri, oi, a1, a2, a3⟩ := at1 i fi hi
    obtain ⟨hrj, oj, b1, b2, b3⟩ := at1 j fj hj
    have s1 := confB_ok hcs hij b3 hb
    have s2 := confB_ok hc hij b3 hb
    simp only [opsW, opsR, a2, b2] at s1
    simp only [namesW, namesR, a1, b1] at s2
    have wi := (k4 i oi fi hri (at0 i oi a3 a2) a1).2
    have wj := (k4 j oj fj hrj (at0 j oj b3 b2) b1).2
    have gi : ((List.range m).map (opsR ops b)).getD i [] = rst ops oi := by simp [List.getD_eq_getElem?_getD, List.getElem?_map, a3, opsR, a2, show (ops.toList[b + i]?) = some oi from a2]
    have gj : ((List.range m).map (opsR ops b)).getD j [] = rst ops oj := by simp [List.getD_eq_getElem?_getD, List.getElem?_map, b3, opsR, b2, show (ops.toList[b + j]?) = some oj from b2]
    have hi' : (fs.map (·.2)).getD i [] = hri := by simp [List.getD_eq_getElem?_getD, List.getElem?_map, a1]
    have hj' : (fs.map (·.2)).getD j [] = hrj := by simp [List.getD_eq_getElem?_getD, List.getElem?_map, b1]
    rw [gi, gj, hi', hj']
    exact ⟨⟨fun t ht => ⟨(s1.1 t (wi t ht)).1, fun ht' => (s1.1 t (wi t ht)).2 (wj t ht')⟩, fun t ht ht' => s1.2 t ht (wj t ht')⟩, s2⟩
  · intro i k hi hi2 hk hk2
    rw [hlen2] at hi hk2
    exact barB_ok hbar i k hi hi2 hk hk2
  · intro i o f ho hf L _
    refine FireOk.g ?_
    obtain ⟨hr, o', a1, a2, a3⟩ := at1 i f hf
    have : o' = o := by rw [Array.getElem?_toList, ho] at a2; cases a2; rfl
    subst this
    have := (k4 i o' f hr (at0 i o' a3 a2) a1).1
    have gi : ((List.range m).map (opsR ops b)).getD i [] = rst ops o' := by simp [List.getD_eq_getElem?_getD, List.getElem?_map, a3, opsR, a2, show (ops.toList[b + i]?) = some o' from a2]
    have hi' : (fs.map (·.2)).getD i [] = hr := by simp [List.getD_eq_getElem?_getD, List.getElem?_map, a1]
    have p1 := LS_prefix (fs.map (·.1)) 0 i s.S
    have p2 := LH_prefix (fs.map (·.1)) 0 i s.H
    rw [Nat.zero_add] at p1 p2
    rw [gi, hi', p1, p2]
    simpa using this
  · have p1 := LS_prefix (fs.map (·.1)) 0 (fs.map (·.1)).length s.S
    have p2 := LH_prefix (fs.map (·.1)) 0 (fs.map (·.1)).length s.H
    rw [Nat.zero_add, List.take_length] at p1 p2
    rw [p1, p2, hlen2, ← k2, ← k3]
    exact k
def relax (i0 : Nat) (f : Nat → List Nat) : Nat → List Nat := fun i => cond (Nat.beq i i0) [] (f i)
theorem SegW.runS (i0 : Nat) (hT : T.Ok X.P) (mb : Nat → Bool) {b : Nat} (m : Nat) (hs : List (Nat × List A)) (hd : dstsOk X.nt ops = true) (hp : pieceOk ops b m = true) {S' : Slots} {H' : Hp} {fs : List (Eff × List Nat)} {ob : List Ob}
    (h : runMD X.P T mb ops s.c hs ((ops.toList.drop b).take m) 0 s.S s.H [] = some (S', H', fs, ob)) (hc : confB (masks ops.toList []) b m (namesW fs) (relax i0 (namesR fs)) = true)
    (soft : ∀ o f (L : Nat → Bool), ops[b + i0]? = some o → (fs.map (·.1))[i0]? = some f → (∀ j, j < m → i0 < j → ((masks ops.toList []).getD (b + j) 0).testBit (b + i0) = true → L j = false) →
      FireG X r ops o (rst ops o) [] (LS (fun k => Nat.blt k i0) (fs.map (·.1)) 0 s.S) (LH (fun k => Nat.blt k i0) (fs.map (·.1)) 0 s.H) f (s.c + i0) (fun H' => H' = LH L (fs.map (·.1)) 0 s.H)) (ho : AllP ob)
    (k : SegW X r ops Q (b + m) ⟨S', H', s.c + m⟩) : SegW X r ops Q b s := by
  simp only [pieceOk, Bool.and_eq_true] at hp
  obtain ⟨he, hle, hbar, hcs⟩ := hp
  have hle := Nat.le_of_ble_eq_true hle
  obtain ⟨_, k1, k2, k3, k4⟩ := runMD_ok (X := X) (r := r) hT _ _ h ho
  have hlen : fs.length = m := by rw [k1, List.length_take, List.length_drop]; simp; omega
  have hlen2 : (fs.map (·.1)).length = m := by simpa using hlen
  have at0 : ∀ i o, i < m → ops.toList[b + i]? = some o → ((ops.toList.drop b).take m)[i]? = some o := fun i o hi ho => by
    rw [List.getElem?_take, if_pos hi, List.getElem?_drop]; exact ho
  have at1 : ∀ i f, (fs.map (·.1))[i]? = some f → ∃ hr o, fs[i]? = some (f, hr) ∧ ops.toList[b + i]? = some o ∧ i < m := fun i f hf => by
    have hi : i < m := by rw [← hlen2]; exact (List.getElem?_eq_some_iff.1 hf).1
    obtain ⟨p, hp, rfl⟩ : ∃ p, fs[i]? = some p ∧ p.1 = f := by simpa [List.getElem?_map] using hf
    exact ⟨p.2, ops.toList[b + i]'(by simp; omega), hp, by simp [show b + i < ops.size by omega], hi⟩
  refine SegW.draw (fs.map (·.1)) ((List.range m).map (opsR ops b)) ((List.range m).map (relax i0 (namesR fs))) hd he (by omega) ?_ ?_ ?_ ?_
  · intro i j fi fj hij hi hj hb
    obtain ⟨hri, oi, a1, a2, a3⟩ := at1 i fi hi
    obtain ⟨hrj, oj, b1, b2, b3⟩ := at1 j fj hj
    have s1 := confB_ok hcs hij b3 hb
    have s2 := confB_ok hc hij b3 hb
    simp only [opsW, opsR, a2, b2] at s1
    simp only [namesW, namesR, a1, b1] at s2
    have wi := (k4 i oi fi hri (at0 i oi a3 a2) a1).2
    have wj := (k4 j oj fj hrj (at0 j oj b3 b2) b1).2
    have gi : ((List.range m).map (opsR ops b)).getD i [] = rst ops oi := by simp [List.getD_eq_getElem?_getD, List.getElem?_map, a3, opsR, a2, show (ops.toList[b + i]?) = some oi from a2]
    have gj : ((List.range m).map (opsR ops b)).getD j [] = rst ops oj := by simp [List.getD_eq_getElem?_getD, List.getElem?_map, b3, opsR, b2, show (ops.toList[b + j]?) = some oj from b2]
    have hi' : ((List.range m).map (relax i0 (namesR fs))).getD i [] = relax i0 (namesR fs) i := by simp [List.getD_eq_getElem?_getD, List.getElem?_map, a3]
    have hj' : ((List.range m).map (relax i0 (namesR fs))).getD j [] = relax i0 (namesR fs) j := by simp [List.getD_eq_getElem?_getD, List.getElem?_map, b3]
    rw [gi, gj, hi', hj']
    exact ⟨⟨fun t ht => ⟨(s1.1 t (wi t ht)).1, fun ht' => (s1.1 t (wi t ht)).2 (wj t ht')⟩, fun t ht ht' => s1.2 t ht (wj t ht')⟩, s2⟩
  · intro i k hi hi2 hk hk2
    rw [hlen2] at hi hk2
    exact barB_ok hbar i k hi hi2 hk hk2
  · intro i o f ho hf L hL
    obtain ⟨hr, o', a1, a2, a3⟩ := at1 i f hf
    have : o' = o := by rw [Array.getElem?_toList, ho] at a2; cases a2; rfl
    subst this
    have gi : ((List.range m).map (opsR ops b)).getD i [] = rst ops o' := by simp [List.getD_eq_getElem?_getD, List.getElem?_map, a3, opsR, a2, show (ops.toList[b + i]?) = some o' from a2]
    have hi' : ((List.range m).map (relax i0 (namesR fs))).getD i [] = relax i0 (namesR fs) i := by simp [List.getD_eq_getElem?_getD, List.getElem?_map, a3]
    by_cases e0 : i = i0
    · subst e0
      have : relax i (namesR fs) i = [] := by simp [relax]
      rw [gi, hi', this]
      exact soft o' f L ho hf fun j hj hij hb => hL j (by rw [hlen2]; exact hj) hij hb
    · refine FireOk.g ?_
      have := (k4 i o' f hr (at0 i o' a3 a2) a1).1
      have hr' : relax i0 (namesR fs) i = hr := by simp [relax, beq_no e0, namesR, a1]
      have p1 := LS_prefix (fs.map (·.1)) 0 i s.S
      have p2 := LH_prefix (fs.map (·.1)) 0 i s.H
      rw [Nat.zero_add] at p1 p2
      rw [gi, hi', hr', p1, p2]
      simpa using this
  · have p1 := LS_prefix (fs.map (·.1)) 0 (fs.map (·.1)).length s.S
    have p2 := LH_prefix (fs.map (·.1)) 0 (fs.map (·.1)).length s.H
    rw [Nat.zero_add, List.take_length] at p1 p2
    rw [p1, p2, hlen2, ← k2, ← k3]
    exact k
theorem Aw.sd (hT : T.Ok X.P) (hm : X.P.follows .mixedOrders = true) (mb : Nat → Bool) {id : Nat} {y : Code} (hs : List (Nat × List A)) (hd : dstsOk X.nt ops = true) (hp : pieceOk ops 0 ops.size = true) {S' : Slots} {H' : Hp} {fs : List (Eff × List Nat)} {ob : List Ob}
    (h : runMD X.P T mb ops s.c hs ops.toList 0 s.S s.H [] = some (S', H', fs, ob)) (hc : confB (masks ops.toList []) 0 ops.size (namesW fs) (namesR fs) = true) (ho : AllP ob)
    (k : Aw X r y Q ⟨S', H', s.c + ops.size⟩) : Aw X r (.seq (.region id ops true) y) Q s := by
  refine Aw.seq (SegW.start hm (SegW.run (b := 0) hT mb ops.size hs hd hp (by rw [List.drop_zero, List.take_of_length_le (by simp)]; exact h) hc ho ?_))
  have he : edgesOk ops.toList 0 = true := by simp only [pieceOk, Bool.and_eq_true] at hp; exact hp.1
  exact SegW.done he (by omega) k
theorem Aw.ed (hT : T.Ok X.P) (hm : X.P.follows .mixedOrders = true) (mb : Nat → Bool) {id : Nat} (hs : List (Nat × List A)) (hd : dstsOk X.nt ops = true) (hp : pieceOk ops 0 ops.size = true) {S' : Slots} {H' : Hp} {fs : List (Eff × List Nat)} {ob : List Ob}
    (h : runMD X.P T mb ops s.c hs ops.toList 0 s.S s.H [] = some (S', H', fs, ob)) (hc : confB (masks ops.toList []) 0 ops.size (namesW fs) (namesR fs) = true) (ho : AllP ob)
    (k : Q .normal ⟨S', H', s.c + ops.size⟩) : Aw X r (.region id ops true) Q s := by
  refine SegW.start hm (SegW.run (b := 0) hT mb ops.size hs hd hp (by rw [List.drop_zero, List.take_of_length_le (by simp)]; exact h) hc ho ?_)
  have he : edgesOk ops.toList 0 = true := by simp only [pieceOk, Bool.and_eq_true] at hp; exact hp.1
  exact SegW.done he (by omega) k
end
theorem resC {P : Program} {T : Tab} {s : St} {t ty id off : Nat} {cs : List A} {v : A} (h1 : s.S t = .ref id off) (h2 : s.H id = some (.cells cs)) (hty : (T.ty ty).isAgg = true) (hl : Nat.ble (off + T.sz ty) cs.length = true)
    (hv : A.agg (((cs.drop off).take (T.sz ty)).map A.down) = v) : ResV P T s (.cell t ty) v :=
  hv ▸ .cell (ty' := ty) (.loadRefAgg h1 h2 (fun h => by rw [h] at hty; cases hty) hty (Nat.le_of_ble_eq_true hl))
theorem resO {P : Program} {T : Tab} {s : St} {t ty id off : Nat} {cs : List A} {v : A} (h1 : s.S t = .ref id off) (h2 : s.H id = some (.cells cs)) (hn : T.ty ty ≠ .none) (hty : (T.ty ty).isAgg = false) (hl : Nat.blt off cs.length = true)
    (hv : (cs.getD off .un).down = v) : ResV P T s (.cell t ty) v :=
  hv ▸ .cell (ty' := ty) (.loadRefOne h1 h2 hn hty (by simpa [Nat.blt_eq] using hl))
end Go.AL

namespace Go.AL
open Go Go.RowKit
section
variable {X : Ctx} {r : Option Nat} {Q : Exit → St → Prop} {ops : Array Oper}
def FireH (X : Ctx) (r : Option Nat) (ops : Array Oper) (o : Oper) (rs : List Nat) (S0 : Slots) (ws : List (Nat × A)) (nm : Nat) (Ha Hb : Hp) : Prop :=
  (∀ d, o.dst = some d → d < X.nt) → ∀ S' c' φ Z a w, Rel X φ Z ⟨S', Ha, c'⟩ a w → (∀ t, t ∈ rs → S' t = S0 t) → φ nm = none → nm < c' → ∀ next Q,
    (∀ φ' Z' a' w', (∀ k, k ≠ nm → φ' k = φ k) → Rel X φ' Z' ⟨apS S' ws, Hb, c'⟩ a' w' → next a' w') → StepW X.P r ops o a w next Q
theorem FireOk.h {o : Oper} {rs hrs : List Nat} {S0 : Slots} {H0 Ha Hb : Hp} {f : Eff} {nm : Nat} (h : FireOk X r ops o rs hrs S0 H0 f nm) (ha : ∀ id, id ∈ hrs → Ha id = H0 id) (hb : apH Ha f.hs = Hb) : FireH X r ops o rs S0 f.ws nm Ha Hb :=
  fun h1 S' c' φ Z a w h2 h3 h5 h6 next Q hn => h h1 S' Ha c' φ Z a w h2 h3 ha h5 h6 next Q fun φ' Z' a' w' q1 q2 => hn φ' Z' a' w' q1 (by rw [← hb]; exact q2)
end
section
variable {X : Ctx} {T : Tab} {r : Option Nat} {mb : Nat → Bool} {ops : Array Oper} {Q : Exit → St → Prop} {s : St}
def H2 (H : Hp) (x i1 i2 : Nat) (a b ab : B) (L : Nat → Bool) : Hp := match L i1, L i2 with
  | false, false => H
  | true, false => updH H x (some a)
  | false, true => updH H x (some b)
  | true, true => updH H x (some ab)
end
end Go.AL

namespace Go.AL
open Go Go.RowKit
def allZ (w : World) : Still := fun b o => ∃ u, w.cell? ⟨b, o, none⟩ = some u
section
variable {H : Type} {enc : TypeId × Value → H} {P : Program} {w : World} {base : Nat} {spare : Nat → Bool} {held : Bool} {φ : Names}
theorem cells_at {a : Addr} {n : Nat} {cs : List Value} (h : w.cells? base a n = some cs) : cs.length = n ∧ ∀ j, j < n → w.cell? (a.add j) = cs[j]? := by
  unfold World.cells? at h
  split at h
  · exact ⟨by simpa using mapM_some_length h, fun j hj => mapM_some_get h j j (by simp [hj])⟩
  · cases h
theorem add_plain (b off k : Nat) : (⟨b, off, none⟩ : Addr).add k = ⟨b, off + k, none⟩ := by
  unfold Addr.add; split
  · rename_i h; subst h; rfl
  · rfl
def Nums (enc : TypeId × Value → H) (P : Program) (w : World) (base : Nat) (spare : Nat → Bool) (held : Bool) (e sz : Nat) : Prop :=
  ∀ n cs y, DataW.trod enc P w base spare held n e cs = some y → ∃ zs : List Int, cs = zs.map (Value.int .i64) ∧ zs.length = sz
theorem nums1 {e : Nat} (he : P.underlying e = some (.int .i64)) : Nums enc P w base spare held e 1 := fun n cs y h => by
  obtain ⟨z, rfl, _, _⟩ := DataW.trod_int he h
  exact ⟨[z], rfl, rfl⟩
end
end Go.AL

namespace Go.AL
open Go Go.RowKit Go.ChangeShapes Go.WideShapes
theorem Quiet.below {w w' : World} (h : Quiet w w') : Below w.heap.size w w' := ⟨h.os, h.tape, h.output, h.size, h.block⟩
section
variable {H : Type} {enc : TypeId × Value → H} {P : Program}
theorem trodAll_below (hl : laidOutB P = true) {W W' : World} (hb : Below W.heap.size W W') {sp : Nat → Bool} (hsp : ∀ b, b < W.heap.size → sp b = true) : ∀ {ts : List TypeId} {vs : List Value} {ds : List (DataW H)} {ps : List MemPlace},
    (∀ t ∈ ts, P.readableRec t = true ∧ t < P.types.size) → DataW.TrodAll enc P W 0 (fun _ => true) true ts vs ds ps → (∀ x ∈ ps, x.block < W.heap.size) → DataW.TrodAll enc P W' 0 sp true ts vs ds ps
  | [], vs, ds, ps, _, h, _ => by
    obtain ⟨rfl, rfl, rfl⟩ := trodAll_nil h
    exact rfl
  | t :: ts, vs, ds, ps, ht, h, hlt => by
    obtain ⟨v, vs1, d, ds1, a, b, rfl, rfl, rfl, h1, h2⟩ := trodAll_cons h
    refine ⟨a, b, ?_, trodAll_below hl hb hsp (fun t ht' => ht t (List.mem_cons_of_mem _ ht')) h2 (fun x hx => hlt x (List.mem_append.2 (.inr hx))), rfl⟩
    have hlt1 : ∀ x ∈ a, x.block < W.heap.size := fun x hx => hlt x (List.mem_append.2 (.inl hx))
    exact WideElems.Trod_stays hl (ht t (List.mem_cons_self ..)).1 (ht t (List.mem_cons_self ..)).2 h1 (fun x hx => hb.same (hlt1 x hx)) (fun x hx => hsp _ (hlt1 x hx))
theorem post_below {f : Func} {s : ChangeSpec} {apart fresh handsOn again : Bool} {W W' : World} {args : Array Value} {v : Value} {ds : List (DataW H)} {before : List MemPlace}
    (hl : laidOutB P = true) (hts : ∀ t ∈ f.params.toList, P.readableRec t = true ∧ t < P.types.size) (hv : s.vars = [])
    (hW : DataW.Whole enc P f.params.toList s.vars apart W args.toList ds [] before) (hb : Below W.heap.size W W')
    (hsa : (s.fn H (ds ++ [])).args = ds) (hsv : (s.fn H (ds ++ [])).vars = [])
    (hres : ∀ (b : Nat) (sp : Nat → Bool) (hd : Bool), DataW.TrodAll enc P W' b sp hd f.resultTypes.toList (v.resultList f.resultTypes.size) (s.fn H (ds ++ [])).results [])
    (hok : ∀ (j : Nat) (t : TypeId) (r : Value), f.resultTypes[j]? = some t → (v.resultList f.resultTypes.size)[j]? = some r → Value.okWide P W' .any 0 t r) :
    s.post enc P f apart fresh handsOn again W args v W' := by
  have hlt := hW.lt
  have hW2 := hW
  obtain ⟨p, q, hA, hV, hpq, hz, hn⟩ := hW2
  rw [hv] at hV
  have hq : q = [] := by
    revert hV; unfold DataW.TrodVars; simp
  subst hq
  rw [List.append_nil] at hpq
  subst hpq
  have hvars : ∀ sp : Nat → Bool, DataW.TrodVars enc P W' sp s.vars (s.fn H (ds ++ [])).vars [] := fun sp => by rw [hv, hsv]; exact rfl
  have hargs : ∀ sp : Nat → Bool, (∀ b, b < W.heap.size → sp b = true) → DataW.TrodAll enc P W' 0 sp true f.params.toList args.toList (s.fn H (ds ++ [])).args before := fun sp hsp => by
    rw [hsa]; exact trodAll_below hl hb hsp hts hA hlt
  refine ⟨ds, [], before, [], before, [], hW, hres _ _ _, hargs _ (fun b hb => by simpa using hb), hvars _, hb.frame _, fun _ => ⟨hok, _, _, ([] ++ before) ++ [], ⟨[] ++ before, [], trodAll_append (hargs _ (fun _ _ => rfl)) (hres _ _ _), hvars _, rfl, ?_, ?_⟩, ?_⟩⟩
  · intro b off hp
    have hp' : MemPlace.cell b off ∈ before := by simpa using hp
    rw [hb.frozen (p := ⟨b, off, none⟩) (hlt _ hp')]
    exact hz b off hp'
  · intro ha
    simpa using hn ha
  · intro p hp _
    simpa using hp
theorem law_row {f : FuncId} {fn : Func} {s : ChangeSpec} {apart fresh handsOn again : Bool} {W : World} {args : Array Value} {ds : List (DataW H)} {before : List MemPlace} {as : List A} {φ : Names} {tb : TypeId}
    (hl : laidOutB P = true) (hts : ∀ t ∈ fn.params.toList, P.readableRec t = true ∧ t < P.types.size) (hv : s.vars = [])
    (hW : DataW.Whole enc P fn.params.toList s.vars apart W args.toList ds [] before)
    (hsa : (s.fn H (ds ++ [])).args = ds) (hsv : (s.fn H (ds ++ [])).vars = []) (hsr : (s.fn H (ds ++ [])).results = [.lit (.bool true)])
    (hr : fn.resultTypes = #[tb]) (htb : P.underlying tb = some .bool)
    (hvs : VRs φ (allZ W) W as args) (h : Ans P f as (.bool true)) :
    Calls P f args W fun e W' => ∃ v, e = .returned v ∧ s.post enc P fn apart fresh handsOn again W args v W' := by
  refine (h.pure φ (allZ W) W args (fun b o hb => hb) hvs).mono fun e W' hR => ?_
  obtain ⟨u, Z', rfl, hm, hu, _⟩ := hR
  cases inv_s hu
  refine ⟨_, rfl, post_below hl hts hv hW hm.quiet.below hsa hsv (fun _ _ _ => ?_) ?_⟩
  · rw [hr, hsr]; exact trodAll_mk1 (shut_bool htb true)
  · exact ok_one hr rfl (okWide_bool_mk htb true)
end
end Go.AL

namespace Go.AL
open Go
structure Sp where
  lo : Int
  hi : Int
  deriving DecidableEq
def Sp.c (s : Sp) : List A := [.int s.lo, .int s.hi]
theorem Sp.free (s : Sp) : ∀ x ∈ s.c, Free x := allC (.s _) (all1 (.s _))
namespace Q
theorem free_map {α : Type} {f : α → List A} (hf : ∀ a, ∀ x ∈ f a, Free x) (n : Bool) (c : Cap) (l : List α) : Free (.sl n c (l.map f)) := .sl _ _ _ fun e he x hx => by
  obtain ⟨a, _, rfl⟩ := List.mem_map.1 he
  exact hf a x hx
theorem under_map {α : Type} {f : α → List A} {n : Nat} (hf : ∀ a, ∀ x ∈ f a, Free x) (l : List α) : ∀ e ∈ l.map f, ∀ x ∈ e, Under n x := fun e he x hx => by
  obtain ⟨a, _, rfl⟩ := List.mem_map.1 he
  exact (hf a x hx).under
theorem get_map {α : Type} {f : α → List A} {l : List α} {k : Nat} (h : k < l.length) : (l.map f)[k]? = some (f l[k]) := by simp [h]
def ints (l : List Int) : List (List A) := l.map fun n => [.int n]
theorem ints_get {l : List Int} {k : Nat} (h : k < l.length) : (ints l)[k]? = some [.int l[k]] := by simp [ints, h]
theorem ints_getD {l : List Int} {k : Nat} (h : k < l.length) : (ints l)[k]? = some [.int (l.getD k 0)] := by rw [ints_get h]; simp [List.getD_eq_getElem?_getD, h]
theorem ints_len (l : List Int) : (ints l).length = l.length := by simp [ints]
theorem ints_lenI (l : List Int) : ((ints l).length : Int) = l.length := by simp [ints]
theorem ints_one (l : List Int) : ∀ z ∈ ints l, z.length = 1 := fun z hz => by obtain ⟨i, _, rfl⟩ := List.mem_map.1 hz; rfl
theorem free_ints (b : Bool) (c : Cap) (l : List Int) : Free (.sl b c (ints l)) := .sl _ _ _ fun e he x hx => by
  simp only [ints, List.mem_map] at he
  obtain ⟨n, _, rfl⟩ := he
  simp at hx; subst hx; exact .s _
theorem ints_under {n : Nat} (l : List Int) : ∀ x ∈ ints l, ∀ y ∈ x, Under n y := fun x hx y hy => by
  obtain ⟨i, _, rfl⟩ := List.mem_map.1 hx
  simp at hy; subst hy; exact .s _
theorem nil_under {n : Nat} (b : Bool) (c : Cap) : Under n (.sl b c []) := .sl _ _ _ (fun _ h => by cases h)
def wi (n a b : Int) : Bool := cond (decide (a ≤ n)) (decide (n ≤ b)) false
theorem wi_iff {n a b : Int} : wi n a b = true ↔ a ≤ n ∧ n ≤ b := by
  unfold wi
  by_cases h : a ≤ n <;> by_cases h' : n ≤ b <;> simp [h, h']
theorem c_and (a b : Bool) : cond a b false = (a && b) := by cases a <;> rfl
theorem c_or (a b : Bool) : cond a true b = (a || b) := by cases a <;> rfl
theorem ac1 {a b : Bool} (h : cond a b false = true) : a = true := by cases a <;> simp_all
theorem ac2 {a b : Bool} (h : cond a b false = true) : b = true := by cases a <;> simp_all
theorem cond_assoc (a b c : Bool) : cond (cond a b false) c false = cond a (cond b c false) false := by cases a <;> rfl
theorem all_take_succ {α : Type} {p : α → Bool} {l : List α} {k : Nat} (h : k < l.length) : (l.take (k + 1)).all p = ((l.take k).all p && p l[k]) := by
  rw [List.take_succ_eq_append_getElem h, List.all_append]; simp
def andAll {α : Type} (b : Bool) (p : α → Bool) (l : List α) (k : Nat) : Bool := cond b ((l.take k).all p) false
theorem andAll_zero {α : Type} (b : Bool) (p : α → Bool) (l : List α) : andAll b p l 0 = b := by cases b <;> rfl
theorem andAll_step {α : Type} {b : Bool} {p : α → Bool} {l : List α} {k : Nat} (h : k < l.length) : andAll b p l (k + 1) = cond (andAll b p l k) (p l[k]) false := by
  unfold andAll
  rw [all_take_succ h]
  cases b <;> cases (l.take k).all p <;> rfl
theorem andAll_full {α : Type} {b : Bool} {p : α → Bool} {l : List α} : andAll b p l l.length = cond b (l.all p) false := by unfold andAll; rw [List.take_length]
theorem inrk (k : Nat) (h : (k : Int) ≤ 9223372036854775806) : inR ((k : Int) + 1) := by simp only [inR]; omega
theorem sum_bd {l : List Int} {b : Int} (h : ∀ x ∈ l, 0 ≤ x ∧ x ≤ b) : 0 ≤ l.sum ∧ l.sum ≤ b * l.length := by
  induction l with
  | nil => simp
  | cons a l ih =>
    have h1 := h a (by simp)
    have h2 := ih fun x hx => h x (by simp [hx])
    simp only [List.sum_cons, List.length_cons]
    have : b * ((l.length + 1 : Nat) : Int) = b * l.length + b := by push_cast; rw [Int.mul_add]; omega
    omega
theorem sum_take_succ {l : List Int} {k : Nat} (h : k < l.length) : (l.take (k + 1)).sum = (l.take k).sum + l[k] := by
  rw [List.take_succ_eq_append_getElem h, List.sum_append]; simp
theorem setSeg_app {l r : List A} {v : A} {i : Nat} (h : i < r.length) : setSeg (l ++ r) (l.length + i) [v] = l ++ r.set i v := by
  unfold setSeg
  have h1 : (l ++ r).take (l.length + i) = l ++ r.take i := by rw [List.take_append, List.take_of_length_le (by omega)]; simp
  have h2 : (l ++ r).drop (l.length + i + [v].length) = r.drop (i + 1) := by rw [List.drop_append]; simp [show l.length + i + 1 - l.length = i + 1 by omega, List.drop_eq_nil_of_le (show l.length ≤ l.length + i + 1 by omega)]
  rw [h1, h2, List.append_assoc, List.set_eq_take_append_cons_drop, if_pos h]; rfl
theorem setSeg_set {r : List Int} {v : Int} {i : Nat} (h : i < r.length) : setSeg (r.map A.int) i [A.int v] = (r.set i v).map A.int := by
  have := setSeg_app (l := []) (r := r.map A.int) (v := A.int v) (i := i) (by simpa using h)
  simp only [List.length_nil, Nat.zero_add, List.nil_append] at this
  rw [this, List.map_set]
def outA : List Int → A
  | [] => .sl true .exact []
  | x :: l => .sl false .any (ints (x :: l))
theorem outA_free : ∀ l : List Int, Free (outA l)
  | [] => .sl _ _ _ (fun _ h => by cases h)
  | x :: l => free_ints _ _ _
def grL (e : Nat) : List Int → A
  | [] => .sl true .exact []
  | x :: l => .sl false (.own e) (ints (x :: l))
theorem grL_under {e n : Nat} : ∀ l : List Int, Under n (grL e l)
  | [] => .sl _ _ _ (fun _ h => by cases h)
  | x :: l => .sl _ _ _ (ints_under _)
theorem grL_down {e : Nat} : ∀ l : List Int, (grL e l).down = outA l
  | [] => rfl
  | x :: l => rfl
theorem mod_is (n b : Int) (hb : 0 < b) : (if n.tmod b < 0 then n.tmod b + b else n.tmod b) = n % b := by
  rw [Int.tmod_eq_emod]
  have h1 := Int.emod_nonneg n (show b ≠ 0 by omega)
  have h2 := Int.emod_lt_of_pos n hb
  have h3 : (b.natAbs : Int) = b := by omega
  split <;> split <;> omega
def pickF (l : List Int) (n : Int) : Int := if l.length = 0 then 0 else l.getD (n % l.length).toNat 0
def bitI (s : Int) (k : Nat) : Bool := iand (s.fdiv (2 ^ (min k 64))) 1 == 1
def risingF (n : Int) : Int → List Int → Bool
  | _, [] => true
  | last, i :: is => cond (wi i (last + 1) (n - 1)) (risingF n i is) false
theorem rising_in {n : Int} : ∀ {l : List Int} {last : Int}, risingF n last l = true → -1 ≤ last → last < n → (∀ i ∈ l, last < i ∧ i < n) ∧ (l.length : Int) ≤ n - 1 - last
  | [], last, _, h1, h2 => ⟨fun _ h => (by cases h), by simp; omega⟩
  | i :: is, last, h, h1, h2 => by
    unfold risingF at h
    have h3 := wi_iff.1 (ac1 h)
    have h := ac2 h
    obtain ⟨k1, k2⟩ := rising_in (l := is) h (by omega) (by omega)
    refine ⟨fun j hj => ?_, by simp only [List.length_cons]; omega⟩
    rcases List.mem_cons.1 hj with rfl | hj
    · omega
    · have := k1 j hj; omega
def prevI (l : List Int) : Nat → Int
  | 0 => -1
  | k + 1 => l.getD k 0
def befF : List Int → List Int → Bool
  | [], [] => false
  | [], _ :: _ => true
  | _ :: _, [] => false
  | x :: xs, y :: ys => if x = y then befF xs ys else decide (x < y)
def placeF (n : Int) : Int → List Int → Int
  | _, [] => -1
  | k, x :: l => if x = n then k else placeF n (k + 1) l
end Q
end Go.AL

namespace Go.AL
open Go Go.RowKit
inductive Ex where
  | normal
  | exit (id : Nat)
  | ret
def Ex.out : Ex → Exit
  | .normal => .normal
  | .exit id => .exit id
  | .ret => .ret
def enterOk (fn : Func) : Bool := !(fn.name == "runtime.NumGoroutine")
theorem enters_of {P : Program} {g : Nat} {fn : Func} {c : Code} (h : P.funcs[g]? = some fn) (hb : fn.body = some c) (hn : enterOk fn = true) : Enters P g := by
  intro args w
  have hn' : (fn.name == "runtime.NumGoroutine") = false := by simpa [enterOk] using hn
  simp only [callFunc, Sem.run_bind, run_program, Result.andThen_ok, h, hn', hb, Bool.false_eq_true, if_false, Option.isNone_some, Sem.run_pure]
section
variable (P : Program) (T : Tab) (mb : Nat → Nat → Bool)
end
section
variable {P : Program} {T : Tab} {mb : Nat → Nat → Bool}
end
end Go.AL

namespace Go.AL
open Go Go.RowKit
def Sub (H : Hp) (J : Hp → Prop) : Prop := ∃ H', J H' ∧ ∀ i bx, H' i = some bx → H i = some bx
theorem Sub.self {H : Hp} {J : Hp → Prop} (h : J H) : Sub H J := ⟨H, h, fun _ _ h => h⟩
def Low (n : Nat) (H : Hp) : Prop := ∀ id bx, H id = some bx → id < n ∧ UnderB n bx
section
variable {X : Ctx} {r : Option Nat} {s : St} {Q : Exit → St → Prop}
structure KeepH (n : Nat) (cst v : List (Nat × A)) (J : Hp → Prop) (s : St) : Prop where
  cst : AllLe s.S cst
  var : AllLe s.S v
  hp : Sub s.H J
  c : n ≤ s.c
theorem Aw.keepH {x : Code} {n : Nat} {cst v : List (Nat × A)} {J : Hp → Prop} (h0 : ∀ id, n ≤ id → X.φ0 id = none) (uc : UnderL n cst) (uv : UnderL n v) (low : ∀ H, J H → Low n H) (hk : KeepH n cst v J s)
    (h : ∀ H, J H → Aw X r x Q ⟨ofL2 cst v, H, n⟩) : Aw X r x Q s := by
  obtain ⟨H', hJ, hs⟩ := hk.hp
  refine Aw.weaken (S' := ofL2 cst v) (H' := H') (c' := s.c) (AllLe.app hk.var hk.cst).le (fun id bx hb => ⟨bx, hs id bx hb, .refl _⟩) (Nat.le_refl _) ?_
  exact Aw.forget h0 hk.c (ofL2_under (uv.app uc)) (low H' hJ) (h H' hJ)
theorem Aw.roundsH {ι : Type} {x : Code} (n : Nat) (h0 : ∀ id, n ≤ id → X.φ0 id = none) (cst : List (Nat × A)) (v : ι → List (Nat × A)) (J : ι → Hp → Prop) (μ : ι → Nat) (i0 : ι)
    (hk : KeepH n cst (v i0) (J i0) s) (uc : UnderL n cst) (uv : ∀ i, UnderL n (v i)) (low : ∀ i H, J i H → Low n H)
    (round : ∀ i H, J i H → Aw X r x (thenQ (fun s' => ∃ j, μ j < μ i ∧ KeepH n cst (v j) (J j) s') Q) ⟨ofL2 cst (v i), H, n⟩) : Aw X r (.loop x) Q s := by
  refine Aw.loop (fun s m => ∃ i, m = μ i ∧ KeepH n cst (v i) (J i) s) (μ i0) ⟨i0, rfl, hk⟩ ?_
  rintro s m ⟨i, rfl, hk⟩
  refine Aw.keepH h0 uc (uv i) (low i) hk fun H hJ => (round i H hJ).mono fun e s' h => ?_
  cases e with
  | normal => obtain ⟨j, h2, h3⟩ := h; exact ⟨μ j, h2, j, rfl, h3⟩
  | _ => exact h
theorem RegL.part {T : Tab} {ops : Array Oper} {K : St → Prop} (hT : T.Ok X.P) (mb : Nat → Bool) (dec : Bool) (n i : Nat) (hs : List (Nat × List A)) {l l' : List Oper} {S' : Slots} {H' : Hp} {c' : Nat} {ob' : List Ob}
    (h : AL.runM X.P T mb dec ops hs n l i s.S s.H s.c [] = (l', ⟨S', H', c'⟩, ob')) (ho : AllP ob') (k : RegL X r ops l' ⟨S', H', c'⟩ K) : RegL X r ops l s K := RegL.goM hT mb dec n hs h ho k
def PartK (X : Ctx) (r : Option Nat) (ops : Array Oper) (K : St → Prop) (y : List Oper × St × List Ob) : Prop := AllP y.2.2 ∧ RegL X r ops y.1 y.2.1 K
theorem PartK.mk {X : Ctx} {r : Option Nat} {ops : Array Oper} {K : St → Prop} {l : List Oper} {S : Slots} {H : Hp} {c : Nat} {ob : List Ob} (h : AllP ob) (k : RegL X r ops l ⟨S, H, c⟩ K) : PartK X r ops K (l, ⟨S, H, c⟩, ob) := ⟨h, k⟩
theorem RegL.partE {T : Tab} {ops : Array Oper} {K : St → Prop} (hT : T.Ok X.P) (mb : Nat → Bool) (dec : Bool) (n i : Nat) (hs : List (Nat × List A)) {l : List Oper}
    (h : PartK X r ops K (AL.runM X.P T mb dec ops hs n l i s.S s.H s.c [])) : RegL X r ops l s K := RegL.goM hT mb dec n hs rfl h.1 h.2
theorem RegL.st {T : Tab} (hT : T.Ok X.P) {ops : Array Oper} {K : St → Prop} {l : List Oper} {t ty id off : Nat} {x v : Operand} {p : String} {af : Array Edge} {cs : List A} (hx : rd s.S x = .ref id off) (hi : s.H id = some (.cells cs)) (ht : T.ty t ≠ .none)
    (hp : okPart (rd s.S v) = true) (hl : (cellsA (rd s.S v)).length = T.sz t) (hle : off + T.sz t ≤ cs.length)
    (k : RegL X r ops l ⟨s.S, updH s.H id (some (.cells (setSeg cs off ((cellsA (rd s.S v)).map A.down)))), s.c⟩ K) : RegL X r ops (⟨none, .store t x v, ty, p, af, none⟩ :: l) s K :=
  Does.raw rfl (DoesP.toR (DoesP.store hT rfl rfl hx hi ht hp hl hle k))
end
structure Iter (P : Program) (c id : Nat) (S : Slots) (nt : Nat) (ps : Array Tmp) (asg body : Code) (L : List (List A)) (I : Nat → Hp → Prop) (D : Hp → Prop) : Prop where
  pok : ∀ t ∈ ps.toList, t < nt
  len : ∀ as ∈ L, as.length = ps.size
  lp : ∀ k H, I k H → ∃ pend, H id = some (.lp .ready pend S nt ps asg body)
  low : ∀ k H, I k H → Low c H
  round : ∀ k as, L[k]? = some as → ∀ H, I k H → ∀ (E : En) (b : Nat), (∀ i, c ≤ i → E.φ0 i = none) →
    Aw (E.cx P nt) (some b) asg (fun e s1 => e = .normal ∧ ∃ p1 S1 nt1 ps1 as1 bo1, s1.H id = some (.lp .ready p1 S1 nt1 ps1 as1 bo1) ∧
      Aw (E.cx P nt) (some b) body (roundQ id fun v H' c' => c ≤ c' ∧ ((v = .bool true ∧ Sub H' (I (k + 1))) ∨ (v = .bool false ∧ Sub H' D))) { s1 with H := updH s1.H id (some (.lp .busy p1 S1 nt1 ps1 as1 bo1)) })
      ⟨setPs (fun t => (S t).down) ps.toList as, H, c⟩
theorem Iter.yield {P : Program} {c id : Nat} {S : Slots} {nt : Nat} {ps : Array Tmp} {asg body : Code} {L : List (List A)} {I : Nat → Hp → Prop} {D : Hp → Prop} (it : Iter P c id S nt ps asg body L I D)
    {X : Ctx} (hP : X.P = P) {r : Option Nat} {s : St} {o : Oper} {K : St → Prop} {f : Operand} {args : Array Operand} {at' : Array TypeId} (ho : o.op = .call { callee := .value f, args := args, argTypes := at' }) (hf : rd s.S f = .yl id) (hc : s.c = c)
    {k : Nat} (ha : L[k]? = some (rds s.S args.toList)) (hI : I k s.H)
    (hK : ∀ v H' c', c ≤ c' ∧ ((v = .bool true ∧ Sub H' (I (k + 1))) ∨ (v = .bool false ∧ Sub H' D)) → K ⟨putO s.S o.dst v, H', c'⟩) : DoesR X r o s K := by
  subst hP
  obtain ⟨pend, hl⟩ := it.lp k s.H hI
  have hlen := it.len _ (List.mem_of_getElem? ha)
  refine DoesR.yieldN ho hf hl (by simpa [rds] using hlen) it.pok (fun E b hE => ?_) hK
  have := it.round k _ ha s.H hI E b (by rw [← hc]; exact hE)
  rw [← hc] at this
  rw [← hc]
  exact this
def cntP (p : Nat → Bool) (n : Nat) : Nat := ((List.range n).filter p).length
theorem cntP_succ (p : Nat → Bool) (n : Nat) : cntP p (n + 1) = cntP p n + (if p n then 1 else 0) := by
  unfold cntP; rw [List.range_succ, List.filter_append, List.length_append]
  by_cases h : p n <;> simp [h]
theorem filter_get {p : Nat → Bool} {n m : Nat} (h : n < m) (hp : p n = true) : ((List.range m).filter p)[cntP p n]? = some n := by
  obtain ⟨d, rfl⟩ : ∃ d, m = n + 1 + d := ⟨m - (n + 1), by omega⟩
  have e : List.range (n + 1 + d) = List.range n ++ n :: (List.range d).map (n + 1 + ·) := by
    rw [List.range_add, List.range_succ, List.append_assoc]; rfl
  rw [e, List.filter_append]
  unfold cntP
  rw [List.getElem?_append_right (Nat.le_refl _)]
  simp [List.filter_cons, hp]
end Go.AL

namespace Go.AL
open Go Go.RowKit
def keyA {α : Type} (enc : α → List Value) (a : α) : A := .agg ((enc a).map A.s)
structure KeyTy (P : Program) (kt : TypeId) {α : Type} [BEq α] (enc : α → List Value) : Prop where
  und : ∃ d, P.underlying kt = some d ∧ ∀ cs ds, Instr.sameNow d (.agg cs) (.agg ds) = none
  eq : ∀ a b, pureRun P (Op.equal kt (.agg (enc a).toArray) (.agg (enc b).toArray)) = some (a == b)
  ck : ∀ e a, pureRun P (Instr.checkKey e 10000 kt (.agg (enc a).toArray)) = some ()
  bits : ∀ a, Instr.sameBits 10000 (.agg (enc a).toArray) (.agg (enc a).toArray) = true
section
variable {α V : Type} [BEq α] [LawfulBEq α] {P : Program} {kt : TypeId} {enc : α → List Value}
def encM (enc : α → List Value) (val : V → A) (m : List (α × V)) : List (A × A) := m.map fun p => (keyA enc p.1, val p.2)
def ixM (m : List (α × V)) (a : α) : Option Nat := m.findIdx? (·.1 == a)
def mget (m : List (α × V)) (a : α) : Option V := match ixM m a with
  | some j => (m[j]?).map (·.2)
  | none => none
def mput (m : List (α × V)) (a : α) (v : V) : List (α × V) := match ixM m a with
  | some j => m.set j (a, v)
  | none => m ++ [(a, v)]
theorem concCells_s : ∀ (l : List Value), concCells (l.map A.s) = some l
  | [] => rfl
  | v :: l => by simp only [List.map_cons, concCells, concCells_s l]
theorem conc_key (a : α) : concA (keyA enc a) = some (.agg (enc a).toArray) := by simp only [keyA, concA, concCells_s]
theorem conc_keys (val : V → A) : ∀ (m : List (α × V)), concKeys (encM enc val m) = some (m.map fun p => .agg (enc p.1).toArray)
  | [] => rfl
  | p :: m => by
    have := conc_keys val m
    simp only [encM] at this
    simp only [encM, List.map_cons, concKeys, conc_key, this]
theorem ask_keys (h : KeyTy P kt enc) (a : α) : ∀ (l : List α) (i : Nat), (pureRun P (Instr.findAsking kt (.agg (enc a).toArray) (bare (l.map fun b => .agg (enc b).toArray)) i)).map (Option.map (·.1)) = some ((l.findIdx? (· == a)).map (i + ·))
  | [], i => rfl
  | b :: l, i => by
    have ih := ask_keys h a l (i + 1)
    simp only [bare, List.map_cons, Instr.findAsking, pureRun_bind, h.eq, Option.bind_some] at ih ⊢
    by_cases e : a == b
    · have e2 : (b == a) = true := by have := eq_of_beq e; subst this; exact e
      simp only [e, if_true, pureRun, List.findIdx?_cons, e2]
      simp [Pure.pure, pureRun]
    · have e2 : (b == a) = false := by
        cases e3 : (b == a) with
        | false => rfl
        | true => have := eq_of_beq e3; subst this; exact absurd (beq_self_eq_true _) e
      rw [if_neg e, ih, List.findIdx?_cons, e2]
      cases l.findIdx? (· == a) <;> simp; omega
theorem findIx_keys (h : KeyTy P kt enc) (a : α) (l : List α) : findIx P kt (.agg (enc a).toArray) (l.map fun b => .agg (enc b).toArray) = some (l.findIdx? (· == a)) := by
  obtain ⟨d, hu, hs⟩ := h.und
  have hund : pureRun P (underlying kt) = some d := by
    simp only [underlying, pureRun_bind]
    simp [program, pureRun, hu, Pure.pure]
  have key := ask_keys h a l 0
  unfold findIx
  cases l with
  | nil =>
    simp only [List.map_nil, bare, Instr.findKey, pureRun_bind, hund, Option.bind_some, Instr.findNow]
    rfl
  | cons b l =>
    have e : pureRun P (Instr.findKey kt (.agg (enc a).toArray) (bare ((b :: l).map fun b => .agg (enc b).toArray))) = pureRun P (Instr.findAsking kt (.agg (enc a).toArray) (bare ((b :: l).map fun b => .agg (enc b).toArray)) 0) := by
      simp only [Instr.findKey, pureRun_bind, hund, Option.bind_some, List.map_cons, bare, Instr.findNow, hs]
    rw [e]
    generalize pureRun P (Instr.findAsking kt (.agg (enc a).toArray) (bare ((b :: l).map fun b => .agg (enc b).toArray)) 0) = r at key
    have z : ((b :: l).findIdx? (· == a)).map (0 + ·) = (b :: l).findIdx? (· == a) := by
      cases (b :: l).findIdx? (· == a) <;> simp
    rw [z] at key
    cases r with
    | none => simp at key
    | some o => cases o with
      | none => simp only [Option.map_some, Option.map_none, Option.some.injEq] at key; rw [← key]
      | some p => simp only [Option.map_some, Option.some.injEq] at key; rw [← key]
theorem ixM_map (m : List (α × V)) (a : α) : (m.map (·.1)).findIdx? (· == a) = ixM m a := by
  unfold ixM; rw [List.findIdx?_map]; rfl
theorem ixM_some {m : List (α × V)} {a : α} {j : Nat} (h : ixM m a = some j) : ∃ v, m[j]? = some (a, v) := by
  unfold ixM at h
  obtain ⟨hj, h1, _⟩ := List.findIdx?_eq_some_iff_getElem.1 h
  have := eq_of_beq h1
  exact ⟨m[j].2, by rw [List.getElem?_eq_getElem hj, ← this]⟩
theorem KeyTy.at (h : KeyTy P kt enc) (val : V → A) (m : List (α × V)) (a : α) : KeyAt P kt (encM enc val m) (keyA enc a) (ixM m a) := by
  refine ⟨_, _, conc_key a, conc_keys val m, h.ck _ a, h.ck _ a, ?_, fun i hi => ?_⟩
  · have := findIx_keys h a (m.map (·.1))
    rw [ixM_map, List.map_map] at this
    exact this
  · obtain ⟨v, hv⟩ := ixM_some hi
    simp only [List.getD_eq_getElem?_getD, List.getElem?_map, hv, Option.map_some, Option.getD_some]
    exact h.bits a
theorem KeyTy.ix (h : KeyTy P kt enc) (val : V → A) (m : List (α × V)) (a : α) : ixOf P kt (encM enc val m) (keyA enc a) = ixM m a := (h.at val m a).ix
theorem KeyTy.has (h : KeyTy P kt enc) (val : V → A) (m : List (α × V)) (a : α) : ∃ j, KeyAt P kt (encM enc val m) (keyA enc a) j := ⟨_, h.at val m a⟩
theorem KeyTy.lk {T : Tab} {et : Nat} (h : KeyTy P kt enc) (val : V → A) (m : List (α × V)) (a : α) {v : A} {is : Bool}
    (hv : v = match mget m a with | some x => (val x).down | none => (zeroA T et).down) (his : is = (mget m a).isSome) : LkIs P T kt et (encM enc val m) (keyA enc a) v is := by
  refine ⟨_, h.at val m a, ?_, ?_⟩
  · rw [hv]; unfold mget
    cases e : ixM m a with
    | none => rfl
    | some j =>
      obtain ⟨x, hx⟩ := ixM_some e
      simp [hx, lkA, encM, List.getD_eq_getElem?_getD]
  · rw [his]; unfold mget
    cases e : ixM m a with
    | none => rfl
    | some j =>
      obtain ⟨x, hx⟩ := ixM_some e
      simp [hx]
theorem KeyTy.up (h : KeyTy P kt enc) (val : V → A) (m : List (α × V)) (a : α) (v : V) : upKV (encM enc val m) (keyA enc a) (val v) (ixOf P kt (encM enc val m) (keyA enc a)) = encM enc val (mput m a v) := by
  rw [h.ix val m a]
  unfold mput
  cases ixM m a with
  | none => simp [upKV, encM]
  | some j => simp [upKV, encM, List.map_set]
theorem mget_put (m : List (α × V)) (a b : α) (v : V) : mget (mput m a v) b = if a == b then some v else mget m b := by
  have ixput : ∀ (l : List (α × V)) (c : α), mget l c = (l.find? (·.1 == c)).map (·.2) := fun l c => by
    unfold mget ixM
    induction l with
    | nil => rfl
    | cons p l ih =>
      rw [List.findIdx?_cons, List.find?_cons]
      by_cases e : p.1 == c
      · simp [e]
      · simp only [e]
        cases e2 : l.findIdx? (fun p => p.1 == c) with
        | none => rw [e2] at ih; simpa using ih
        | some j => rw [e2] at ih; simpa using ih
  rw [ixput, ixput]
  have key : ∀ l : List (α × V), (List.find? (fun x : α × V => x.1 == b) (match l.findIdx? (fun x : α × V => x.1 == a) with | some j => l.set j (a, v) | none => l ++ [(a, v)])).map (·.2) = if a == b then some v else (l.find? (fun x : α × V => x.1 == b)).map (·.2) := by
    intro l
    induction l with
    | nil => by_cases e : a == b <;> simp [e]
    | cons p l ih =>
      rw [List.findIdx?_cons]
      by_cases e : p.1 == a
      · simp only [e, if_true, List.set_cons_zero, List.find?_cons]
        by_cases e2 : a == b
        · simp [e2]
        · have e3 : (p.1 == b) = false := by
            have := eq_of_beq e; rw [this]; simpa using e2
          simp [e2, e3]
      · simp only [e]
        cases e2 : l.findIdx? (fun p => p.1 == a) with
        | none =>
          rw [e2] at ih
          simp only [Option.map_none] at ih ⊢
          by_cases e3 : p.1 == b
          · have e4 : (a == b) = false := by
              cases e5 : a == b with
              | false => rfl
              | true => have h1 := eq_of_beq e5; have h2 := eq_of_beq e3; rw [h1, h2] at e; simp at e
            simp [e3, e4]
          · simpa [List.find?_cons, e3] using ih
        | some j =>
          rw [e2] at ih
          simp only [Option.map_some] at ih ⊢
          by_cases e3 : p.1 == b
          · have e4 : (a == b) = false := by
              cases e5 : a == b with
              | false => rfl
              | true => have h1 := eq_of_beq e5; have h2 := eq_of_beq e3; rw [h1, h2] at e; simp at e
            simp [e3, e4]
          · simpa [List.find?_cons, e3] using ih
  exact key m
end
end Go.AL

namespace Go.AL
open Go Go.RowKit
def RQ (lpB : LoopState → Option Code → B) (c : Nat) (I : Hp → Prop) (D : Code → Hp → Prop) : Exit → St → Prop
  | .normal, s => (∃ st p, s.H c = some (lpB st p)) ∧ c + 1 ≤ s.c ∧ Sub s.H I
  | .ret, s => (∃ st p, s.H c = some (lpB st p)) ∧ c + 1 ≤ s.c ∧ Sub s.H (D .ret)
  | .exit j, s => (∃ st p, s.H c = some (lpB st p)) ∧ c + 1 ≤ s.c ∧ Sub s.H (D (.exit j))
  | _, _ => False
theorem UnderB.mono {n m : Nat} {b : B} (h : UnderB n b) (hm : n ≤ m) : UnderB m b := by
  cases h with
  | cells cs h => exact .cells _ fun x hx => (h x hx).mono hm
  | map kvs h => exact .map _ fun p hp => ⟨(h p hp).1.mono hm, (h p hp).2.mono hm⟩
  | lp st pend S nt ps asg body h => exact .lp _ _ _ _ _ _ _ fun t => (h t).mono hm
def distinctH : List (Nat × B) → Bool
  | [] => true
  | (i, _) :: l => (l.all fun p => !Nat.beq p.1 i) && distinctH l
theorem hasH_of_sub {H : Hp} : ∀ {l : List (Nat × B)}, distinctH l = true → (∀ i bx, ofH l i = some bx → H i = some bx) → HasH H l
  | [], _, _ => trivial
  | (i, b) :: l, hd, h => by
    simp only [distinctH, Bool.and_eq_true, List.all_eq_true, Bool.not_eq_true'] at hd
    refine ⟨h i b (updH_same _ _ _), hasH_of_sub hd.2 fun j bx hb => h j bx ?_⟩
    have key : ∀ (l : List (Nat × B)) (j : Nat) (bx : B), ofH l j = some bx → ∃ p ∈ l, p.1 = j := by
      intro l
      induction l with
      | nil => intro j bx h; cases h
      | cons q l ih =>
        intro j bx h
        simp only [ofH, updH_apply] at h
        split at h
        · rename_i e; exact ⟨q, by simp, e.symm⟩
        · obtain ⟨p, hp, e⟩ := ih j bx h; exact ⟨p, by simp [hp], e⟩
    obtain ⟨p, hp, e⟩ := key l j bx hb
    have : j ≠ i := fun e2 => by have := hd.1 p hp; rw [e, e2] at this; simp at this
    show updH (ofH l) i (some b) j = some bx
    rw [updH_other _ _ this]; exact hb
section
variable {X : Ctx} {s : St} {Q : Exit → St → Prop}
end
end Go.AL

namespace Go.AL
open Go Go.RowKit
section
variable {X : Ctx} {s : St} {Q : Exit → St → Prop}
theorem Aw.iterM {g : Operand} {ps : Array Tmp} {asg body : Code} {f : Nat} {fst cap : List A} (hf : rd s.S g = .fn (.func f) fst cap) (he : Enters X.P f) (L : List (List A)) (I : Nat → Hp → Prop) (D : Code → Hp → Prop)
    (hps : (ps.toList.all fun t => Nat.blt t X.nt) = true) (hlen : ∀ as ∈ L, as.length = ps.size) (hS : ∀ t, Under s.c (s.S t)) (low : ∀ k H, I k H → Low s.c H) (lowD : ∀ j H, D j H → Low s.c H)
    (iterf : ∀ {I' : Nat → Hp → Prop} {D' : Hp → Prop}, Iter X.P (s.c + 1) s.c (fun t => (s.S t).down) X.nt ps asg body L I' D' → (∀ k H, I' k H → ∃ H0, I k H0 ∧ ∀ id, id ≠ s.c → H id = H0 id) → ∀ H, I' 0 H →
      SCall X.P f ((fst ++ [.yl s.c]) ++ cap) H (s.c + 1) fun v H' c' => s.c + 1 ≤ c' ∧ (Sub H' (I' L.length) ∨ Sub H' D'))
    (hI : I 0 s.H)
    (round : ∀ (lpB : LoopState → Option Code → B), (∀ st p, UnderB s.c (lpB st p)) → ∀ k as, L[k]? = some as → ∀ H, I k H → ∀ (E : En) (b : Nat), (∀ i, s.c + 1 ≤ i → E.φ0 i = none) →
      Aw (E.cx X.P X.nt) (some b) asg (fun e s1 => e = .normal ∧ s1.H s.c = some (lpB .ready none) ∧ Aw (E.cx X.P X.nt) (some b) body (RQ lpB s.c (I (k + 1)) D) { s1 with H := updH s1.H s.c (some (lpB .busy none)) })
        ⟨setPs (fun t => (s.S t).down.down) ps.toList as, updH H s.c (some (lpB .ready none)), s.c + 1⟩)
    (k1 : ∀ H c', s.c ≤ c' → Sub H (I L.length) → Q .normal ⟨s.S, H, c'⟩) (k2 : ∀ j H c', s.c ≤ c' → Sub H (D j) → Aw X none j Q ⟨s.S, H, c'⟩) : Aw X none (.rangeFunc g ps asg body) Q s := by
  let lpB : LoopState → Option Code → B := fun st p => .lp st p (fun t => (s.S t).down) X.nt ps asg body
  have ulp : ∀ st p, UnderB s.c (lpB st p) := fun st p => .lp _ _ _ _ _ _ _ fun t => (hS t).down
  let I' : Nat → Hp → Prop := fun k H => ∃ H0, I k H0 ∧ H = updH H0 s.c (some (lpB .ready none))
  let D' : Hp → Prop := fun H => ∃ j H0, D j H0 ∧ H s.c = some (lpB .done (some j)) ∧ ∀ i bx, H0 i = some bx → i ≠ s.c → H i = some bx
  have sub_ne : ∀ {H : Hp} {J : Hp → Prop} {b : B}, Sub H J → Sub (updH H s.c (some b)) fun H => ∃ H0, J H0 ∧ H = updH H0 s.c (some b) := by
    rintro H J b ⟨H0, h1, h2⟩
    refine ⟨_, ⟨H0, h1, rfl⟩, fun i bx hb => ?_⟩
    rw [updH_apply] at hb ⊢
    split
    · rename_i e; rw [if_pos e] at hb; exact hb
    · rename_i e; rw [if_neg e] at hb; exact h2 i bx hb
  have it : Iter X.P (s.c + 1) s.c (fun t => (s.S t).down) X.nt ps asg body L I' D' := {
    pok := fun t ht => by have := List.all_eq_true.1 hps t ht; simpa [Nat.blt_eq] using this
    len := hlen
    lp := by
      rintro k H ⟨H0, _, rfl⟩
      exact ⟨none, updH_same _ _ _⟩
    low := by
      rintro k H ⟨H0, h0, rfl⟩ id bx hb
      rw [updH_apply] at hb
      split at hb
      · rename_i e; cases hb; exact ⟨by omega, (ulp _ _).mono (Nat.le_succ _)⟩
      · have := low k H0 h0 id bx hb; exact ⟨by omega, this.2.mono (Nat.le_succ _)⟩
    round := by
      rintro k as ha H ⟨H0, h0, rfl⟩ E b hE
      refine (round lpB ulp k as ha H0 h0 E b hE).mono ?_
      rintro e s1 ⟨rfl, h1, h2⟩
      refine ⟨rfl, none, _, _, _, _, _, h1, h2.mono fun e2 s2 h3 => ?_⟩
      cases e2 with
      | normal =>
        obtain ⟨⟨st, p, hl⟩, hc, hsub⟩ := h3
        exact ⟨st, p, _, _, _, _, _, hl, hc, .inl ⟨rfl, sub_ne hsub⟩⟩
      | ret =>
        obtain ⟨⟨st, p, hl⟩, hc, H1, hD, hsub⟩ := h3
        exact ⟨st, p, _, _, _, _, _, hl, hc, .inr ⟨rfl, ⟨_, ⟨.ret, H1, hD, updH_same _ _ _, fun i bx hb hne => by rw [updH_other _ _ hne]; exact hsub i bx hb⟩, fun _ _ h => h⟩⟩⟩
      | exit j =>
        obtain ⟨⟨st, p, hl⟩, hc, H1, hD, hsub⟩ := h3
        exact ⟨st, p, _, _, _, _, _, hl, hc, .inr ⟨rfl, ⟨_, ⟨.exit j, H1, hD, updH_same _ _ _, fun i bx hb hne => by rw [updH_other _ _ hne]; exact hsub i bx hb⟩, fun _ _ h => h⟩⟩⟩
      | goto t => exact h3.elim
      | panic ch => exact h3.elim
      | outgrown => exact h3.elim }
  refine Aw.rangeFunc hf he (iterf it (fun k H ⟨H0, h1, h2⟩ => ⟨H0, h1, fun id hne => by rw [h2]; simp [updH, beq_no hne]⟩) (updH s.H s.c (some (lpB .ready none))) ⟨s.H, hI, rfl⟩) ?_
  rintro v H' c' ⟨hc, hs⟩
  rcases hs with ⟨H1, ⟨H0, h0, rfl⟩, hs⟩ | ⟨H1, ⟨j, H0, hD, hl, h0⟩, hs⟩
  · refine ⟨_, none, _, _, _, _, _, hs s.c _ (updH_same _ _ _), by decide, k1 _ _ (by omega) ⟨H0, h0, fun i bx hb => ?_⟩⟩
    have hi := (low _ _ h0 i bx hb).1
    rw [updH_other _ _ (by omega)]
    exact hs i bx (by rw [updH_other _ _ (by omega)]; exact hb)
  · refine ⟨_, some j, _, _, _, _, _, hs s.c _ hl, by decide, ?_⟩
    refine k2 j _ _ (by omega) ⟨H0, hD, fun i bx hb => ?_⟩
    have hi := (lowD _ _ hD i bx hb).1
    rw [updH_other _ _ (by omega)]
    exact hs i bx (h0 i bx hb (by omega))
end
end Go.AL

namespace Go.AL
open Go Go.RowKit
section
variable {X : Ctx} {T : Tab} {r : Option Nat} {s : St} {o : Oper} {K : St → Prop}
end
end Go.AL

namespace Go.AL.Q
open Go
noncomputable section
structure Scale where
  seen : Int
  lo : Int
  hi : Int
  deriving DecidableEq
def Scale.c (s : Scale) : List A := [.int s.seen, .int s.lo, .int s.hi]
theorem Scale.free (s : Scale) : ∀ x ∈ s.c, Free x := allC (.s _) (allC (.s _) (all1 (.s _)))
def spannedF (lo hi a b : Int) : Bool := cond (wi lo a b) (wi hi lo b) false
def scaleOk (s : Scale) : Bool := cond (wi s.seen 0 10000) (spannedF s.lo s.hi 0 20) false
def isLow (f t : Int) (s : Scale) : Bool := decide (f ≤ s.lo) && decide (s.hi ≤ t)
def isHigh (f t : Int) (s : Scale) : Bool := decide (f ≤ s.hi) && decide (s.lo ≤ t)
def addIf (b : Bool) (n : Int) (k : Int) : Int := if b then n + k else n
def agedL (f t : Int) (l : List Scale) : Int := ((l.filter (isLow f t)).map Scale.seen).sum
def agedH (f t : Int) (l : List Scale) : Int := ((l.filter (isHigh f t)).map Scale.seen).sum
def scalesOk (l : List Scale) : Bool := cond (decide ((l.length : Int) ≤ 20)) (l.all scaleOk) false
def rangeOk (f t : Int) : Bool := wi f 0 20 && wi t f 20
def agedE (l : List Scale) (f t : Int) : Int := if scalesOk l then (if rangeOk f t then 0 else 7) else 90
def agedS (l : List Scale) (f t : Int) : Sp := if scalesOk l then (if rangeOk f t then ⟨agedL f t l, agedH f t l⟩ else ⟨0, 0⟩) else ⟨0, 0⟩
def agedR (l : List Scale) (f t : Int) : List A := [.agg (agedS l f t).c, .int (agedE l f t)]
theorem agedL_step (f t : Int) (l : List Scale) (k : Nat) (h : k < l.length) : agedL f t (l.take (k + 1)) = addIf (isLow f t l[k]) (agedL f t (l.take k)) l[k].seen := by
  unfold agedL addIf
  rw [List.take_succ_eq_append_getElem h, List.filter_append, List.map_append, List.sum_append]
  cases e : isLow f t l[k] <;> simp [e]
theorem agedH_step (f t : Int) (l : List Scale) (k : Nat) (h : k < l.length) : agedH f t (l.take (k + 1)) = addIf (isHigh f t l[k]) (agedH f t (l.take k)) l[k].seen := by
  unfold agedH addIf
  rw [List.take_succ_eq_append_getElem h, List.filter_append, List.map_append, List.sum_append]
  cases e : isHigh f t l[k] <;> simp [e]
theorem filt_sum {l : List Scale} {p : Scale → Bool} (h : ∀ s ∈ l, 0 ≤ s.seen ∧ s.seen ≤ 10000) : 0 ≤ ((l.filter p).map Scale.seen).sum ∧ ((l.filter p).map Scale.seen).sum ≤ 10000 * l.length := by
  have h1 := sum_bd (l := (l.filter p).map Scale.seen) (b := 10000) fun x hx => by
    obtain ⟨s, hs, rfl⟩ := List.mem_map.1 hx
    exact h s (List.mem_filter.1 hs).1
  have h2 : ((l.filter p).map Scale.seen).length ≤ l.length := by rw [List.length_map]; exact List.length_filter_le _ _
  omega
theorem scales_in {l : List Scale} (h : scalesOk l = true) : l.length ≤ 20 ∧ ∀ s ∈ l, (0 ≤ s.seen ∧ s.seen ≤ 10000) ∧ 0 ≤ s.lo ∧ s.lo ≤ s.hi ∧ s.hi ≤ 20 := by
  unfold scalesOk at h
  have h1 := of_decide_eq_true (ac1 h)
  refine ⟨by omega, fun s hs => ?_⟩
  have h2 := List.all_eq_true.1 (ac2 h) s hs
  unfold scaleOk spannedF at h2
  have a := wi_iff.1 (ac1 h2)
  have b := wi_iff.1 (ac1 (ac2 h2))
  have c := wi_iff.1 (ac2 (ac2 h2))
  omega
structure Rce where
  nn : Bool
  numbers : List Int
  kn : Bool
  keep : List Int
  sn : Bool
  spawn : List Int
  line : Int
  mesh : Int
  deriving DecidableEq
def Rce.c (r : Rce) : List A := [.sl r.nn .any (ints r.numbers), .sl r.kn .any (ints r.keep), .sl r.sn .any (ints r.spawn), .int r.line, .int r.mesh]
theorem Rce.free (r : Rce) : ∀ x ∈ r.c, Free x := allC (free_ints _ _ _) (allC (free_ints _ _ _) (allC (free_ints _ _ _) (allC (.s _) (all1 (.s _)))))
structure Rce.Fit (r : Rce) : Prop where
  n : (r.numbers.length : Int) ≤ 9223372036854775806
  k : (r.keep.length : Int) ≤ 9223372036854775806
  s : (r.spawn.length : Int) ≤ 9223372036854775806
def Rce.many (r : Rce) : Nat := r.numbers.length
def Rce.head (r : Rce) : Bool := cond (cond (cond (cond (wi r.many 1 6) ((r.keep.length : Int) == r.many) false) ((r.spawn.length : Int) == r.many) false) (wi r.line 0 100000000) false) (wi r.mesh 0 ((r.many : Int) - 1)) false
def Rce.ageOk (r : Rce) (i : Nat) : Bool := cond (cond (wi (r.numbers.getD i 0) 0 100000) (wi (r.keep.getD i 0) 0 1000) false) (wi (r.spawn.getD i 0) 0 100) false
def Rce.ok (r : Rce) : Bool := cond r.head ((List.range r.many).all r.ageOk) false
structure RceOk (r : Rce) : Prop where
  m1 : 1 ≤ r.many
  m6 : r.many ≤ 6
  k : r.keep.length = r.many
  s : r.spawn.length = r.many
  l : 0 ≤ r.line ∧ r.line ≤ 100000000
  h : 0 ≤ r.mesh ∧ r.mesh < r.many
  nb : ∀ i, i < r.many → 0 ≤ r.numbers.getD i 0 ∧ r.numbers.getD i 0 ≤ 100000
  kb : ∀ i, i < r.many → 0 ≤ r.keep.getD i 0 ∧ r.keep.getD i 0 ≤ 1000
  sb : ∀ i, i < r.many → 0 ≤ r.spawn.getD i 0 ∧ r.spawn.getD i 0 ≤ 100
theorem RceOk.of {r : Rce} (h : r.ok = true) : RceOk r := by
  unfold Rce.ok at h
  have h1 := ac1 h
  have h2 := fun i hi => List.all_eq_true.1 (ac2 h) i (List.mem_range.2 hi)
  unfold Rce.head at h1
  have a1 := wi_iff.1 (ac1 (ac1 (ac1 (ac1 h1))))
  have a2 := eq_of_beq (ac2 (ac1 (ac1 (ac1 h1))))
  have a3 := eq_of_beq (ac2 (ac1 (ac1 h1)))
  have a4 := wi_iff.1 (ac2 (ac1 h1))
  have a5 := wi_iff.1 (ac2 h1)
  refine ⟨by omega, by omega, by omega, by omega, a4, by omega, fun i hi => ?_, fun i hi => ?_, fun i hi => ?_⟩
  · exact wi_iff.1 (ac1 (ac1 (h2 i hi)))
  · exact wi_iff.1 (ac2 (ac1 (h2 i hi)))
  · exact wi_iff.1 (ac2 (h2 i hi))
def catchF (l : List Int) (mesh : Nat) : Nat → Int → List Int
  | 0, take => l
  | k + 1, take => if mesh ≤ k then catchF (l.set k (l.getD k 0 - min (l.getD k 0) take)) mesh k (take - min (l.getD k 0) take) else l
def caughtF (r : Rce) (l : List Int) (take : Int) : List Int := catchF l r.mesh.toNat r.many take
def spawnN (r : Rce) (l : List Int) (k : Nat) : List Int := (List.range k).map fun i => l.getD i 0 * r.spawn.getD i 0
def spawnF (r : Rce) (l : List Int) : Int := (spawnN r l r.many).sum
def winN (r : Rce) (l : List Int) : Nat → List Int
  | 0 => List.replicate r.many 0
  | k + 1 => (winN r l k).set (min (k + 1) (r.many - 1)) ((winN r l k).getD (min (k + 1) (r.many - 1)) 0 + (l.getD k 0 * r.keep.getD k 0).tdiv 1000)
def winF (r : Rce) (l : List Int) (recruits : Int) : List Int := (winN r l r.many).set 0 ((winN r l r.many).getD 0 0 + recruits)
def yearF (r : Rce) (l : List Int) (take recruits : Int) : Int × List Int := (spawnF r (caughtF r l take), winF r (caughtF r l take) recruits)
def playF (r : Rce) (l : List Int) : List Int → List Int → List Int
  | t :: ts, x :: xs => (yearF r l t x).1 :: playF r (yearF r l t x).2 ts xs
  | _, _ => []
structure Pop (r : Rce) (b : Int) (l : List Int) : Prop where
  len : l.length = r.many
  pos : ∀ x ∈ l, 0 ≤ x
  sum : l.sum ≤ b
theorem getD_set' (l : List Int) (i j : Nat) (v : Int) (h : i < l.length) : (l.set i v).getD j 0 = if i = j then v else l.getD j 0 := by
  simp only [List.getD_eq_getElem?_getD, List.getElem?_set]
  split
  · simp_all
  · rfl
structure Pop' (n : Nat) (b : Int) (l : List Int) : Prop where
  len : l.length = n
  pos : ∀ x ∈ l, 0 ≤ x
  sum : l.sum ≤ b
end
end Go.AL.Q

namespace Go.AL.Q
open Go
noncomputable section
structure NL where
  n : Bool
  l : List Int
  deriving DecidableEq
def NL.c (x : NL) : List A := [.sl x.n .any (ints x.l)]
theorem NL.free (x : NL) : ∀ y ∈ x.c, Free y := all1 (free_ints _ _ _)
structure NR where
  n : Bool
  l : List NL
  deriving DecidableEq
def NR.c (x : NR) : List A := [.sl x.n .any (x.l.map NL.c)]
theorem NR.free (x : NR) : ∀ y ∈ x.c, Free y := all1 (free_map NL.free _ _ _)
structure Fish where
  rn : Bool
  races : List Rce
  mn : Bool
  most : List Int
  sn : Bool
  seasons : List NR
  deriving DecidableEq
def Fish.c (f : Fish) : List A := [.sl f.rn .any (f.races.map Rce.c), .sl f.mn .any (ints f.most), .sl f.sn .any (f.seasons.map NR.c)]
theorem Fish.free (f : Fish) : ∀ x ∈ f.c, Free x := allC (free_map Rce.free _ _ _) (allC (free_ints _ _ _) (all1 (free_map NR.free _ _ _)))
def nlFit (x : NL) : Prop := (x.l.length : Int) ≤ 9223372036854775806
structure Fish.Fit (f : Fish) : Prop where
  r : (f.races.length : Int) ≤ 9223372036854775806
  m : (f.most.length : Int) ≤ 9223372036854775806
  s : (f.seasons.length : Int) ≤ 9223372036854775806
  race : ∀ r ∈ f.races, r.Fit
  sea : ∀ s ∈ f.seasons, (s.l.length : Int) ≤ 9223372036854775806 ∧ ∀ l ∈ s.l, nlFit l
def Fish.many (f : Fish) : Nat := f.races.length
def Fish.recs (f : Fish) (s r : Nat) : List Int := ((f.seasons.getD s ⟨false, []⟩).l.getD r ⟨false, []⟩).l
def Fish.years (f : Fish) : Nat := (f.recs 0 0).length
def recOk (years : Nat) (x : NL) : Bool := cond ((x.l.length : Int) == years) (x.l.all fun n => wi n 0 100000) false
def seasonOk (many years : Nat) (s : NR) : Bool := cond ((s.l.length : Int) == many) (s.l.all (recOk years)) false
def Fish.head (f : Fish) : Bool := cond (cond (wi f.many 1 3) ((f.most.length : Int) == f.many) false) (wi f.seasons.length 1 6) false
def Fish.raceOk (f : Fish) (i : Nat) : Bool := cond ((f.races.getD i ⟨false, [], false, [], false, [], 0, 0⟩).ok) (wi (f.most.getD i 0) 0 100) false
def Fish.ok (f : Fish) : Bool := cond (cond (cond f.head ((List.range f.many).all f.raceOk) false) (wi f.years 1 10) false) (f.seasons.all (seasonOk f.many f.years)) false
def race0 : Rce := ⟨false, [], false, [], false, [], 0, 0⟩
def Fish.race (f : Fish) (i : Nat) : Rce := f.races.getD i race0
structure FishOk (f : Fish) : Prop where
  m1 : 1 ≤ f.many
  m3 : f.many ≤ 3
  most : f.most.length = f.many
  mb : ∀ i, i < f.many → 0 ≤ f.most.getD i 0 ∧ f.most.getD i 0 ≤ 100
  s1 : 1 ≤ f.seasons.length
  s6 : f.seasons.length ≤ 6
  race : ∀ i, i < f.many → RceOk (f.race i)
  y1 : 1 ≤ f.years
  y10 : f.years ≤ 10
  sl : ∀ s, s < f.seasons.length → (f.seasons.getD s ⟨false, []⟩).l.length = f.many
  rl : ∀ s r, s < f.seasons.length → r < f.many → (f.recs s r).length = f.years
  rb : ∀ s r, s < f.seasons.length → r < f.many → ∀ x ∈ f.recs s r, 0 ≤ x ∧ x ≤ 100000
theorem FishOk.of {f : Fish} (h : f.ok = true) : FishOk f := by
  unfold Fish.ok at h
  have h1 := ac1 (ac1 (ac1 h))
  have h2 := fun i hi => List.all_eq_true.1 (ac2 (ac1 (ac1 h))) i (List.mem_range.2 hi)
  have h3 := wi_iff.1 (ac2 (ac1 h))
  have h4 := List.all_eq_true.1 (ac2 h)
  unfold Fish.head at h1
  have a1 := wi_iff.1 (ac1 (ac1 h1))
  have a2 := eq_of_beq (ac2 (ac1 h1))
  have a3 := wi_iff.1 (ac2 h1)
  have sg : ∀ s, s < f.seasons.length → seasonOk f.many f.years (f.seasons.getD s ⟨false, []⟩) = true := fun s hs => by
    have : f.seasons.getD s ⟨false, []⟩ ∈ f.seasons := by simp [List.getD_eq_getElem?_getD, hs]
    exact h4 _ this
  have sl : ∀ s, s < f.seasons.length → (f.seasons.getD s ⟨false, []⟩).l.length = f.many := fun s hs => by
    have := eq_of_beq (ac1 (sg s hs)); omega
  have rg : ∀ s r, s < f.seasons.length → r < f.many → recOk f.years ((f.seasons.getD s ⟨false, []⟩).l.getD r ⟨false, []⟩) = true := fun s r hs hr => by
    have : (f.seasons.getD s ⟨false, []⟩).l.getD r ⟨false, []⟩ ∈ (f.seasons.getD s ⟨false, []⟩).l := by
      have := sl s hs
      generalize f.seasons.getD s ⟨false, []⟩ = S at this ⊢
      rw [List.getD_eq_getElem?_getD, List.getElem?_eq_getElem (by omega)]
      exact List.getElem_mem _
    exact List.all_eq_true.1 (ac2 (sg s hs)) _ this
  refine ⟨by omega, by omega, by omega, fun i hi => wi_iff.1 (ac2 (h2 i hi)), by omega, by omega, fun i hi => RceOk.of (ac1 (h2 i hi)), by omega, by omega, sl, fun s r hs hr => ?_, fun s r hs hr x hx => ?_⟩
  · have := eq_of_beq (ac1 (rg s r hs hr)); show (((f.seasons.getD s ⟨false, []⟩).l.getD r ⟨false, []⟩).l).length = f.years; omega
  · exact wi_iff.1 (List.all_eq_true.1 (ac2 (rg s r hs hr)) x hx)
def Fish.b1 (f : Fish) : Bool := cond f.head ((List.range f.many).all f.raceOk) false
def takeF (q most : Int) : Int := (q * most + 99).tdiv 100
def Fish.spawns (f : Fish) (r s : Nat) (q : Int) : List Int := playF (f.race r) (f.race r).numbers (List.replicate (f.recs s r).length (takeF q (f.most.getD r 0))) (f.recs s r)
def idxF (p : Int → Bool) : Nat → List Int → Int
  | _, [] => -1
  | k, n :: l => if p n then (k : Int) else idxF p (k + 1) l
def Fish.breakY (f : Fish) (r s : Nat) (q : Int) : Int := idxF (fun n => decide (n < (f.race r).line)) 0 (f.spawns r s q)
def Fish.holds (f : Fish) (q : Int) : Bool := (List.range f.many).all fun r => (List.range f.seasons.length).all fun s => !decide (f.breakY r s q ≥ 0)
def firstS (f : Fish) (q : Int) (r : Nat) : List Nat → Int × Int × Int → Int × Int × Int
  | [], b => b
  | s :: ss, b => firstS f q r ss (if f.breakY r s q ≥ 0 ∧ (b.2.2 < 0 ∨ f.breakY r s q < b.2.2) then ((r : Int), (s : Int), f.breakY r s q) else b)
def firstR (f : Fish) (q : Int) : List Nat → Int × Int × Int → Int × Int × Int
  | [], b => b
  | r :: rs, b => firstR f q rs (firstS f q r (List.range f.seasons.length) b)
def Fish.first (f : Fish) (q : Int) : Int × Int × Int := firstR f q (List.range f.many) (0, 0, -1)
def Fish.firstR (f : Fish) (q : Int) : List A := if f.ok then (if wi q 0 10000 then (if (f.first q).2.2 < 0 then [.int 0, .int 0, .int 0, .int 4] else [.int (f.first q).1, .int (f.first q).2.1, .int (f.first q).2.2, .int 0]) else [.int 0, .int 0, .int 0, .int 7]) else [.int 0, .int 0, .int 0, .int 93]
end
end Go.AL.Q

namespace Go.AL.Q
open Go
noncomputable section
structure NS where
  n : Bool
  l : List Sp
  deriving DecidableEq
def NS.c (x : NS) : List A := [.sl x.n .any (x.l.map Sp.c)]
theorem NS.free (x : NS) : ∀ y ∈ x.c, Free y := all1 (free_map Sp.free _ _ _)
def NS.Fit (x : NS) : Prop := (x.l.length : Int) ≤ 9223372036854775806
structure Cel where
  sp : Int
  la : Int
  deriving DecidableEq
def Cel.c (s : Cel) : List A := [.int s.sp, .int s.la]
theorem Cel.free (s : Cel) : ∀ x ∈ s.c, Free x := allC (.s _) (all1 (.s _))
def celOk (s : Cel) : Bool := cond (wi s.sp 0 10000) (wi s.la 0 10000) false
def spareN (cells : List Cel) (x : Int) : Nat → Cel
  | 0 => ⟨0, 0⟩
  | k + 1 => if bitI x k then ⟨(spareN cells x k).sp + (cells.getD k ⟨0, 0⟩).sp, (spareN cells x k).la + (cells.getD k ⟨0, 0⟩).la⟩ else spareN cells x k
def spareF (cells : List Cel) (x : Int) : Cel := spareN cells x cells.length
def bitOf (c : Int) : Int := IntKind.i64.wrap (1 * 2 ^ (min c.toNat 64))
def setOf (l : List Int) : Int := l.foldl (fun x c => ior x (bitOf c)) 0
structure BSt where
  chosen : List Int
  sp : Int
  la : Int
  deriving DecidableEq
def better (n : Cel) (s : BSt) : Bool := decide (n.sp > s.sp) || (decide (n.sp = s.sp) && decide (n.la < s.la))
def fromB (l : List Int) : Nat := match l.getLast? with | none => 0 | some x => (x + 1).toNat
def bxGo (rec : List Int → Int → BSt → BSt) (sets : List Int) (l : List Int) (x : Int) : List Nat → BSt → BSt
  | [], s => s
  | i :: is, s => bxGo rec sets l x is (rec (l ++ [(i : Int)]) (ior x (sets.getD i 0)) s)
def bxF (cells : List Cel) (sets : List Int) : Nat → List Int → Int → BSt → BSt
  | 0, l, x, s => if better (spareF cells x) s then ⟨l, (spareF cells x).sp, (spareF cells x).la⟩ else s
  | f + 1, l, x, s => bxGo (bxF cells sets f) sets l x ((List.range sets.length).drop (fromB l)) s
def bxAll (cells : List Cel) (sets : List Int) : List Nat → BSt → BSt
  | [], s => s
  | many :: ms, s => bxAll cells sets ms (bxF cells sets many [] 0 s)
def setsOf (boxes : List NL) : List Int := boxes.map fun b => setOf b.l
def boxF (cells : List Cel) (boxes : List NL) (most : Int) : BSt := bxAll cells (setsOf boxes) (List.range ((min most boxes.length).toNat + 1)) ⟨[], 0, 0⟩
def boxesOk (cells : List Cel) (boxes : List NL) : Bool := cond (cond (cond (decide ((cells.length : Int) ≤ 12)) (decide ((boxes.length : Int) ≤ 8)) false) (cells.all celOk) false) (boxes.all fun b => risingF cells.length (-1) b.l) false
def boxR (cells : List Cel) (boxes : List NL) (most : Int) : List A :=
  if boxesOk cells boxes then (if wi most 0 8 then [outA (boxF cells boxes most).chosen, .int (boxF cells boxes most).sp, .int (boxF cells boxes most).la, .int 0] else [outA [], .int 0, .int 0, .int 7]) else [outA [], .int 0, .int 0, .int 94]
theorem iand_zero : iand 0 1 = 0 := by decide
theorem spare_zero (cells : List Cel) : ∀ k, spareN cells 0 k = ⟨0, 0⟩
  | 0 => rfl
  | k + 1 => by
    have h : bitI 0 k = false := by unfold bitI; rw [Int.zero_fdiv, iand_zero]; rfl
    rw [spareN, h, spare_zero cells k]; rfl
structure CelsIn (cells : List Cel) : Prop where
  n : cells.length ≤ 12
  sp : ∀ c ∈ cells, 0 ≤ c.sp ∧ c.sp ≤ 10000
  la : ∀ c ∈ cells, 0 ≤ c.la ∧ c.la ≤ 10000
theorem CelsIn.at {cells : List Cel} (h : CelsIn cells) (k : Nat) : (0 ≤ (cells.getD k ⟨0, 0⟩).sp ∧ (cells.getD k ⟨0, 0⟩).sp ≤ 10000) ∧ 0 ≤ (cells.getD k ⟨0, 0⟩).la ∧ (cells.getD k ⟨0, 0⟩).la ≤ 10000 := by
  rw [List.getD_eq_getElem?_getD]
  cases e : cells[k]? with
  | none => simp
  | some c => exact ⟨h.sp c (List.mem_of_getElem? e), h.la c (List.mem_of_getElem? e)⟩
theorem spare_bd {cells : List Cel} (h : CelsIn cells) (x : Int) : ∀ k, (0 ≤ (spareN cells x k).sp ∧ (spareN cells x k).sp ≤ 10000 * k) ∧ 0 ≤ (spareN cells x k).la ∧ (spareN cells x k).la ≤ 10000 * k
  | 0 => by simp [spareN]
  | k + 1 => by
    have h1 := spare_bd h x k
    have h2 := h.at k
    rw [spareN]
    split
    · simp only; omega
    · omega
def MemoOk (cells : List Cel) (m : List (Int × Cel)) : Prop := ∀ x c, mget m x = some c → c = spareF cells x
theorem MemoOk.put {cells : List Cel} {m : List (Int × Cel)} (h : MemoOk cells m) (x : Int) : MemoOk cells (mput m x (spareF cells x)) := fun y c hy => by
  rw [mget_put] at hy
  by_cases e : x = y
  · subst e; simp at hy; exact hy.symm
  · have : (x == y) = false := by simpa using e
    rw [this] at hy; exact h y c hy
end
end Go.AL.Q

namespace Go.AL
open Go Go.RowKit
inductive Ren (k nm : Nat) : A → A → Prop
  | free {x : A} (h : Free x) : Ren k nm x x
  | mp : Ren k nm (.mp k) (.mp nm)
  | agg {l m : List A} (hl : l.length = m.length) (h : ∀ i, i < l.length → Ren k nm (l.getD i .un) (m.getD i .un)) : Ren k nm (.agg l) (.agg m)
  | tup {l m : List A} (hl : l.length = m.length) (h : ∀ i, i < l.length → Ren k nm (l.getD i .un) (m.getD i .un)) : Ren k nm (.tup l) (.tup m)
theorem Ren.vr {k nm : Nat} {x y : A} (h : Ren k nm x y) {φ φ' : Names} {Z : Still} {w : World} {b : Nat} (h1 : φ k = some b) (h2 : φ' nm = some b) : ∀ {u : Value}, VR φ Z w x u → VR φ' Z w y u := by
  induction h with
  | free hf => intro u hv; exact hv.nms (D := fun _ => False) hf.nms fun _ _ h => h.elim
  | mp =>
    intro u hv
    obtain ⟨b', e, h3⟩ := inv_mp hv
    rw [h1] at h3; cases h3
    rw [e]; exact .mp _ _ h2
  | agg hl h ih =>
    intro u hv
    obtain ⟨us, rfl, r1, r2, r3⟩ := inv_agg hv
    exact .agg _ _ (r1.trans hl) (fun j hj => r2 j (hl ▸ hj)) fun j hj => ih j (hl ▸ hj) (r3 j (hl ▸ hj))
  | tup hl h ih =>
    intro u hv
    obtain ⟨us, rfl, r1, r3⟩ := inv_tup hv
    exact .tup _ _ (r1.trans hl) fun j hj => ih j (hl ▸ hj) (r3 j (hl ▸ hj))
inductive RenL (k nm : Nat) : List A → List A → Prop
  | nil : RenL k nm [] []
  | cons {x y : A} {l m : List A} (h : Ren k nm x y) (t : RenL k nm l m) : RenL k nm (x :: l) (y :: m)
theorem RenL.len {k nm : Nat} {l m : List A} (h : RenL k nm l m) : l.length = m.length := by
  induction h with
  | nil => rfl
  | cons _ _ ih => simp [ih]
theorem RenL.get {k nm : Nat} {l m : List A} (h : RenL k nm l m) : ∀ i, i < l.length → Ren k nm (l.getD i .un) (m.getD i .un) := by
  induction h with
  | nil => intro i hi; cases hi
  | cons h _ ih =>
    intro i hi
    cases i with
    | zero => exact h
    | succ i => exact ih i (by simpa using hi)
theorem RenL.agg {k nm : Nat} {l m : List A} (h : RenL k nm l m) : Ren k nm (.agg l) (.agg m) := .agg h.len h.get
theorem RenL.tup {k nm : Nat} {l m : List A} (h : RenL k nm l m) : Ren k nm (.tup l) (.tup m) := .tup h.len h.get
theorem RenL.app {k nm : Nat} {l m l' m' : List A} (h : RenL k nm l m) (h' : RenL k nm l' m') : RenL k nm (l ++ l') (m ++ m') := by
  induction h with
  | nil => exact h'
  | cons h _ ih => exact .cons h ih
theorem RenL.free {k nm : Nat} : ∀ {l : List A}, (∀ x ∈ l, Free x) → RenL k nm l l
  | [], _ => .nil
  | x :: l, h => .cons (.free (h x (by simp))) (RenL.free fun y hy => h y (by simp [hy]))
theorem NewMap.ren {P : Program} {g : FuncId} {args : List A} {nm k : Nat} {v v' : A} {kvs : List (A × A)} (he : Enters P g) (ha : ∀ x ∈ args, Free x) (hk : ∀ p ∈ kvs, Free p.1 ∧ Free p.2)
    (h : SCall P g args (fun _ => none) 0 fun v' H' _ => v' = v ∧ H' = ofH [(k, .map kvs)]) (hr : Ren k nm v v') (hs : ∀ u, spareOf v' u = none) : NewMap P g args nm v' kvs :=
  NewMap.of he ha hk h (fun φ φ' Z w u b h1 h2 h3 => hr.vr h1 h2 h3) hs
end Go.AL

namespace Go.AL
open Go Go.RowKit
def cutH (c : Nat) (H : Hp) : Hp := fun id => if id < c then H id else none
theorem cutH_some {c : Nat} {H : Hp} {id : Nat} (h : (cutH c H id).isSome = true) : id < c ∧ (H id).isSome = true ∧ cutH c H id = H id := by
  unfold cutH at h ⊢
  split at h
  · rename_i h1; exact ⟨h1, h, if_pos h1⟩
  · cases h
section
variable {P : Program} {φ φ' : Names} {Z Z' : Still} {H H' : Hp} {c c2 c' : Nat} {w w' : World}
theorem HRel.cut (hr : HRel P φ Z H c2 w) (low : Low c (cutH c H)) : HRel P (cutN c φ) Z (cutH c H) c w := by
  have φin : ∀ id, id < c → cutN c φ id = φ id := fun id hi => by unfold cutN; rw [if_pos hi]
  have φout : ∀ id b, cutN c φ id = some b → φ id = some b := fun id b hb => (cutN_up hb).1
  have absS : ∀ id j, id < c → absAt ⟨fun _ => .un, cutH c H, c⟩ (.box id j) = absAt ⟨fun _ => .un, H, c2⟩ (.box id j) := fun id j hi => by simp only [absAt, cutH, if_pos hi]
  have conS : ∀ id j w, id < c → conAt (cutN c φ) ⟨#[], []⟩ w (.box id j) = conAt φ ⟨#[], []⟩ w (.box id j) := fun id j w hi => by simp only [conAt, φin id hi]
  have abs_some : ∀ {id j : Nat} {v : Value} {p : Nat × Nat}, spareOf (absAt ⟨fun _ => .un, cutH c H, c⟩ (.box id j)) v = some p → id < c := fun {id j v p} hs => by
    cases e : cutH c H id with
    | some b => exact (cutH_some (by rw [e]; rfl)).1
    | none => simp [absAt, e, spareOf] at hs
  exact {
    boxes := fun id bx hb => by
      obtain ⟨h1, h2, h3⟩ := cutH_some (c := c) (H := H) (id := id) (by rw [hb]; rfl)
      obtain ⟨b, k1, k2⟩ := hr.boxes id bx (h3 ▸ hb)
      exact ⟨b, by rw [φin id h1]; exact k1, k2.under (low id bx hb).2 fun i b hi hb => by rw [φin i hi]; exact hb⟩
    inj := fun id id' b hi hi' h1 h2 => hr.inj id id' b (cutH_some hi).2.1 (cutH_some hi').2.1 (φout _ _ h1) (φout _ _ h2)
    zok := hr.zok
    zbox := fun b o id hz hi hb => hr.zbox b o id hz (cutH_some hi).2.1 (φout _ _ hb)
    own1 := fun id j b e hl => by
      have hi := abs_some hl
      rw [absS id j hi, conS id j w hi] at hl
      obtain ⟨k0, k⟩ := hr.own1 id j b e hl
      rw [conS id j w hi]
      exact ⟨fun i hi hb => k0 i (cutH_some hi).2.1 (φout _ _ hb), k⟩
    own2 := fun id j id' j' b e e' hl hl' => by
      have hi := abs_some hl
      have hi' := abs_some hl'
      rw [absS id j hi, conS id j w hi] at hl
      rw [absS id' j' hi', conS id' j' w hi'] at hl'
      exact hr.own2 id j id' j' b e e' hl hl'
    fresh := fun id hi => by unfold cutN; rw [if_neg (by omega)] }
theorem HRel.less (hr : HRel P φ Z H c w) {H2 : Hp} (hs : ∀ id bx, H2 id = some bx → H id = some bx) : HRel P φ Z H2 c w := by
  have some_of : ∀ id, (H2 id).isSome = true → (H id).isSome = true := fun id hi => by
    obtain ⟨bx, hbx⟩ := Option.isSome_iff_exists.1 hi; rw [hs id bx hbx]; rfl
  have same : ∀ {id j : Nat} {v : Value} {p : Nat × Nat}, spareOf (absAt ⟨fun _ => .un, H2, c⟩ (.box id j)) v = some p → absAt ⟨fun _ => .un, H2, c⟩ (.box id j) = absAt ⟨fun _ => .un, H, c⟩ (.box id j) := fun {id j v p} hl => by
    cases e : H2 id with
    | none => simp [absAt, e, spareOf] at hl
    | some bx => simp only [absAt, e, hs id bx e]
  exact {
    boxes := fun id bx hb => hr.boxes id bx (hs id bx hb)
    inj := fun id id' b hi hi' => hr.inj id id' b (some_of id hi) (some_of id' hi')
    zok := hr.zok
    zbox := fun b o id hz hi => hr.zbox b o id hz (some_of id hi)
    own1 := fun id j b e hl => by
      obtain ⟨k0, k⟩ := hr.own1 id j b e (by rw [← same hl]; exact hl)
      exact ⟨fun i hi => k0 i (some_of i hi), k⟩
    own2 := fun id j id' j' b e e' hl hl' => hr.own2 id j id' j' b e e' (by rw [← same hl]; exact hl) (by rw [← same hl']; exact hl')
    fresh := hr.fresh }
theorem Grew.less (g : Grew P φ φ' Z Z' H H' w w') {H2 : Hp} (hs : ∀ id bx, H2 id = some bx → H' id = some bx) : Grew P φ φ' Z Z' H H2 w w' := { g with
  mine := fun b hm => g.mine b (by
    have some_of : ∀ id, (H2 id).isSome = true → (H' id).isSome = true := fun id hi => by
      obtain ⟨bx, hbx⟩ := Option.isSome_iff_exists.1 hi; rw [hs id bx hbx]; rfl
    have same : ∀ {id j : Nat} {v : Value} {p : Nat × Nat}, spareOf (absAt ⟨fun _ => .un, H2, 0⟩ (.box id j)) v = some p → absAt ⟨fun _ => .un, H2, 0⟩ (.box id j) = absAt ⟨fun _ => .un, H', 0⟩ (.box id j) := fun {id j v p} hl => by
      cases e : H2 id with
      | none => simp [absAt, e, spareOf] at hl
      | some bx => simp only [absAt, e, hs id bx e]
    rcases hm with ⟨id, h1, h2⟩ | ⟨id, j, e, h1⟩
    · exact .inl ⟨id, some_of id h1, h2⟩
    · refine .inr ⟨id, j, e, ?_⟩
      rw [← same h1]; exact h1) }
end
section
variable {X : Ctx} {s : St} {Q : Exit → St → Prop}
end
end Go.AL

namespace Go.AL
open Go Go.RowKit
theorem inv_gs {φ : Names} {Z : Still} {w : World} {id n cap : Nat} {u : Value} (h : VR φ Z w (.gs id n cap) u) : ∃ b, u = .slice (some ⟨b, 0, none⟩) n cap ∧ φ id = some b ∧ n ≤ cap ∧ cap ≤ maxLen := by
  cases h with | gs _ _ _ b h hc hm => exact ⟨b, rfl, h, hc, hm⟩
theorem A.Le.ms (id n cap : Nat) : A.Le (.ms id 0 n) (.gs id n cap) :=
  ⟨fun φ Z w v h => by obtain ⟨b, rfl, hb, h1, h2⟩ := inv_gs h; exact .ms id 0 n b cap hb h1 h2, fun v p h => by simp [spareOf] at h⟩
theorem VRc.app {φ : Names} {Z : Still} {w : World} {l m : List A} {us vs : Array Value} (h1 : VRc φ Z w l us) (h2 : VRc φ Z w m vs) : VRc φ Z w (l ++ m) (us ++ vs) := by
  refine ⟨by rw [Array.size_append, List.length_append, h1.1, h2.1], fun i hi => ?_⟩
  rw [List.length_append] at hi
  by_cases h : i < l.length
  · have e1 : (us ++ vs).getD i undef = us.getD i undef := by
      rw [Array.getD_eq_getD_getElem?, Array.getD_eq_getD_getElem?, Array.getElem?_append_left (by rw [h1.1]; exact h)]
    have e2 : (l ++ m).getD i .un = l.getD i .un := by rw [List.getD_eq_getElem?_getD, List.getD_eq_getElem?_getD, List.getElem?_append_left h]
    rw [e1, e2]; exact h1.2 i h
  · have e1 : (us ++ vs).getD i undef = vs.getD (i - l.length) undef := by
      rw [Array.getD_eq_getD_getElem?, Array.getD_eq_getD_getElem?, Array.getElem?_append_right (by rw [h1.1]; omega), h1.1]
    have e2 : (l ++ m).getD i .un = m.getD (i - l.length) .un := by rw [List.getD_eq_getElem?_getD, List.getD_eq_getElem?_getD, List.getElem?_append_right (by omega)]
    rw [e1, e2]; exact h2.2 _ (by omega)
theorem VRc.junk {φ : Names} {Z : Still} {w : World} {t : Ty} {n : Nat} {cs : List A} {z : Value} (h : zeroFits t n cs z) (h0 : 0 < n) (k : Nat) : VRc φ Z w (List.replicate (k * n) .un) (Builtin.zeroCells z.cells k) := by
  have hz := zero_vrc (φ := φ) (Z := Z) (w := w) h
  refine ⟨by rw [size_zeroCells, List.length_replicate, h.1], fun i hi => ⟨?_, ?_⟩⟩
  · rw [List.length_replicate] at hi
    have hm : i % n < n := Nat.mod_lt _ h0
    have h5 : i % n < z.cells.size := by rw [h.1]; exact hm
    have g1 : (Builtin.zeroCells z.cells k).getD i undef = z.cells.getD (i % n) undef := by
      unfold Builtin.zeroCells
      simp [Array.getD_eq_getD_getElem?, h.1, hi, h5, getElem!_pos z.cells (i % n) h5]
      rw [Array.getElem?_eq_getElem h5]; rfl
    rw [g1]
    exact (hz.2 (i % n) (by rw [h.2.1]; exact hm)).1
  · rw [List.length_replicate] at hi
    simp [List.getD_eq_getElem?_getD, hi]
    exact .un _
theorem rows_vrc {φ : Names} {Z : Still} {w : World} {es : List (List A)} {sz : Nat} {vals : List Value} (hs : ∀ z ∈ es, z.length = sz) (hl : vals.length = es.length * sz) (h1 : ∀ x ∈ vals, x.oneCell' = true)
    (h : ∀ i j, i < es.length → j < sz → VR φ Z w ((es.getD i []).getD j .un) (vals.getD (i * sz + j) undef)) : VRc φ Z w es.flatten vals.toArray := by
  have hfl := flat_len hs
  refine ⟨by rw [List.size_toArray, hfl, hl], fun k hk => ?_⟩
  rw [hfl] at hk
  have h0 : 0 < sz := Nat.pos_of_ne_zero fun e => by subst e; simp at hk
  have hk2 : k < vals.length := by omega
  refine ⟨?_, ?_⟩
  · have := h1 (vals[k]) (List.getElem_mem hk2)
    simpa [Array.getD, hk2] using this
  · rw [flat_get hs k hk]
    have h8 := h (k / sz) (k % sz) (Nat.div_lt_of_lt_mul (by rw [Nat.mul_comm]; exact hk)) (Nat.mod_lt _ h0)
    rw [Nat.div_add_mod' k sz] at h8
    simpa [Array.getD_eq_getD_getElem?, List.getD_eq_getElem?_getD] using h8
theorem down_junk (l : List A) (k : Nat) : (l ++ List.replicate k A.un).map A.down = l.map A.down ++ List.replicate k A.un := by
  rw [List.map_append, List.map_replicate]; rfl
section
variable {X : Ctx} {T : Tab} {r : Option Nat} {s : St} {o : Oper} {K : St → Prop}
theorem DoesR.appNil (hT : T.Ok X.P) {d t e : Nat} {x y : Operand} {cap1 : Cap} {nil2 : Bool} {cap2 : Cap} {ys : List (List A)} (ho : o.op = .call { callee := .builtin .append, args := #[x, y], argTypes := #[t, t] }) (hd : o.dst = some d)
    (ht : T.ty t = .slice e) (he : T.ty e ≠ .none) (h0 : 0 < T.sz e) (hx : rd s.S x = .sl true cap1 []) (hy : rd s.S y = .sl nil2 cap2 ys)
    (hne : ys ≠ []) (hs : ∀ z ∈ ys, z.length = T.sz e) (hb : ys.length * T.by' e ≤ 140737488355328) (hm : ys.length ≤ maxLen)
    (k : ∀ cap, ys.length ≤ cap → K ⟨upd s.S d (.gs s.c ys.length cap), updH s.H s.c (some (.cells (ys.flatten.map A.down ++ List.replicate ((cap - ys.length) * T.sz e) .un))), s.c + 1⟩) : DoesR X r o s K := by
  intro hdn φ Z a w hr next Q hn
  obtain ⟨dst, op, ty, pos, aft, gd⟩ := o
  simp only at ho hd
  subst ho; subst hd
  obtain ⟨i, hi, hi1, hi2, z, hiz, hzf⟩ := hT.inf e he
  have hvx := hx ▸ hr.sees.rd x
  have hvy := hy ▸ hr.sees.rd y
  have hev : (#[x, y] : Array Operand).map a.eval = #[a.eval x, a.eval y] := by simp
  have hpos : 0 < ys.length := by cases ys with | nil => exact absurd rfl hne | cons y ys => simp
  have hn2 : nil2 = false := by
    rcases inv_sl hvy with ⟨_, h1, _⟩ | ⟨h1, _⟩ | ⟨h1, _⟩
    · exact absurd h1 hne
    · exact h1
    · exact h1
  subst hn2
  obtain ⟨by1, offy, cy, valsy, ey, ky1, ky2, ky3, ky4, ky5, ky6, ky7, ky8⟩ := sl_flat hvy hne hs
  have ex : a.eval x = .slice none 0 0 := by
    rcases inv_sl hvx with ⟨_, _, h⟩ | ⟨h, _⟩ | ⟨h, _⟩
    · exact h
    · cases h
    · cases h
  have hnews : ∀ j x, valsy[j]? = some x → w.cell? ((⟨by1, offy, none⟩ : Addr).add j) = some x := fun j x hj => by rw [add_addr]; exact ky6 j x hj
  have hsmall : ((ys.length : Nat) : Int) ≤ 9223372036854775807 := by simp only [maxLen] at hm; omega
  have hrun := run_append_nil (P := X.P) w t ty e i z (und_slice hT ht) hi hiz ⟨by1, offy, none⟩ ys.length cy valsy (by rw [ky4, hi1]) hnews hpos hsmall (by rw [hi2]; omega)
  have hge := grownCap_ge w ys.length 0 e
  have hcm := grownCap_le_maxLen w ys.length 0 e (by simpa using hm)
  generalize hcap : grownCap w ys.length 0 e = cap at *
  have hfl := flat_len hs
  have hr1 : Rel X φ Z s a w.drew := hr.drew _
  have hvc : VRc φ Z w.drew (ys.flatten ++ List.replicate ((cap - ys.length) * T.sz e) .un) (valsy.toArray ++ Builtin.zeroCells z.cells (cap - ys.length)) := by
    refine VRc.app (rows_vrc hs ky4 ky7 fun i j hi hj => ?_) (VRc.junk hzf h0 _)
    exact VR.mono (φ := φ) (φ' := φ) (Z := Z) (Z' := Z) (w := w) (w' := w.drew) (fun _ _ h => h) (fun _ _ h => h) (fun b o _ => rfl) (ky8 i j hi hj)
  have hnm := hr.fresh _ (Nat.le_refl s.c)
  have h2 := hr1.newCells (ty := e) (hdn d rfl) hnm (Nat.le_succ _) (Nat.lt_succ_self _) hvc (x := .gs s.c ys.length cap) (u := .slice (some ⟨w.heap.size, 0, none⟩) ys.length cap) (.gs _ _ _ _ (by simp) hge hcm) (fun p => by simp [spareOf])
  rw [down_junk] at h2
  refine wp_run (fun c => by simp) ?_ (hn _ _ Z _ _ (k cap hge) h2)
  rw [ex_builtin, bi_append, Sem.run_bind, hev, ex, ey, hrun]; rfl
theorem run_append_roomT (P : Program) (w : World) (t ty e ty' : TypeId) (i : TypeInfo) (ht : P.underlying t = some (.slice e)) (hi : P.info? e = some i)
    (g sLen sCap : Nat) (cur : Array Value) (hg : w.heap[g]? = some (.cells cur ty' (0, 0)))
    (a : Addr) (m c : Nat) (news : List Value) (hl : news.length = m * i.size) (hnews : ∀ j u, news[j]? = some u → w.cell? (a.add j) = some u) (h1 : ∀ u ∈ news, u.oneCell' = true)
    (hroom : sLen + m ≤ sCap) (hfit : sLen * i.size + news.length ≤ cur.size) :
    (Builtin.append_ #[t, t] ty #[.slice (some ⟨g, 0, none⟩) sLen sCap, .slice (some a) m c]).run P w =
      .ok (.slice (some ⟨g, 0, none⟩) (sLen + m) sCap) (w.setRow g (cur.toList.take (sLen * i.size) ++ news ++ cur.toList.drop (sLen * i.size + news.length)).toArray) := by
  have hf := run_firstCells_some (P := P) w i.size m a m c news hl hnews
  have hst := run_storeCells_at P g (sLen * i.size) ty' news 0 cur w hg (by simpa using hfit) h1
  simp only [Nat.add_zero] at hst
  simp [Builtin.append_, run_underlying ht, sizeOf, typeInfo, hi, Builtin.lenOf, hroom, hf, Addr.add_lit, hst]
theorem DoesR.appGs (hT : T.Ok X.P) {d t e id n cap : Nat} {x y : Operand} {nil2 : Bool} {cap2 : Cap} {ys : List (List A)} {cs : List A} (ho : o.op = .call { callee := .builtin .append, args := #[x, y], argTypes := #[t, t] }) (hd : o.dst = some d)
    (ht : T.ty t = .slice e) (he : T.ty e ≠ .none) (h0 : 0 < T.sz e) (hx : rd s.S x = .gs id n cap) (hi : s.H id = some (.cells cs)) (hcl : cs.length = cap * T.sz e) (hy : rd s.S y = .sl nil2 cap2 ys)
    (hne : ys ≠ []) (hs : ∀ z ∈ ys, z.length = T.sz e) (hb : (n + ys.length) * T.by' e ≤ 140737488355328) (hm : n + ys.length ≤ maxLen)
    (k1 : n + ys.length ≤ cap → K ⟨upd s.S d (.gs id (n + ys.length) cap), updH s.H id (some (.cells (setSeg cs (n * T.sz e) (ys.flatten.map A.down)))), s.c⟩)
    (k2 : ∀ cap', n + ys.length ≤ cap' → K ⟨upd s.S d (.gs s.c (n + ys.length) cap'), updH s.H s.c (some (.cells ((cs.take (n * T.sz e)).map A.down ++ ys.flatten.map A.down ++ List.replicate ((cap' - (n + ys.length)) * T.sz e) .un))), s.c + 1⟩) : DoesR X r o s K := by
  intro hdn φ Z a w hr next Q hn
  obtain ⟨dst, op, ty, pos, aft, gd⟩ := o
  simp only at ho hd
  subst ho; subst hd
  obtain ⟨i, hif, hi1, hi2, z, hiz, hzf⟩ := hT.inf e he
  have hvy := hy ▸ hr.sees.rd y
  obtain ⟨b, ex, hbk, hnc, hcm0⟩ := inv_gs (hx ▸ hr.sees.rd x)
  have hev : (#[x, y] : Array Operand).map a.eval = #[a.eval x, a.eval y] := by simp
  have hpos : 0 < ys.length := by cases ys with | nil => exact absurd rfl hne | cons y ys => simp
  have hn2 : nil2 = false := by
    rcases inv_sl hvy with ⟨_, h1, _⟩ | ⟨h1, _⟩ | ⟨h1, _⟩
    · exact absurd h1 hne
    · exact h1
    · exact h1
  subst hn2
  obtain ⟨by1, offy, cy, valsy, ey, ky1, ky2, ky3, ky4, ky5, ky6, ky7, ky8⟩ := sl_flat hvy hne hs
  have hnews : ∀ j x, valsy[j]? = some x → w.cell? ((⟨by1, offy, none⟩ : Addr).add j) = some x := fun j x hj => by rw [add_addr]; exact ky6 j x hj
  have hfl := flat_len hs
  have hle : n * T.sz e ≤ cs.length := by rw [hcl]; exact Nat.mul_le_mul_right _ hnc
  by_cases hroom : n + ys.length ≤ cap
  · have hfit : n * T.sz e + (ys.flatten.map A.down).length ≤ cs.length := by
      rw [List.length_map, hfl, hcl, ← Nat.add_mul]; exact Nat.mul_le_mul_right _ hroom
    have hv : VRc φ Z w (ys.flatten.map A.down) valsy.toArray := VRc.down (rows_vrc hs ky4 ky7 ky8)
    obtain ⟨c, ty', hblk, hsz, hrel⟩ := hr.setCells hi hbk hv (off := n * T.sz e) hfit (fun j b1 e hj hs => by rw [getD_map_dn, spare_down] at hs; cases hs)
    have h2 := hrel.put_down hrel.more_refl (hdn d rfl) (x := .gs id (n + ys.length) cap) (v := .slice (some ⟨b, 0, none⟩) (n + ys.length) cap) (.gs _ _ _ _ hbk hroom hcm0) (fun p => by simp [spareOf])
    have hrun := run_append_roomT X.P w t ty e ty' i (und_slice hT ht) hif b n cap c hblk ⟨by1, offy, none⟩ ys.length cy valsy (by rw [ky4, hi1]) hnews ky7 hroom (by rw [hi1]; simpa using hsz)
    rw [hi1] at hrun
    refine wp_run (fun c => by simp) ?_ (hn _ _ Z _ _ (k1 hroom) h2)
    rw [ex_builtin, bi_append, Sem.run_bind, hev, ex, ey, hrun]; rfl
  · obtain ⟨c, ty', hblk, hlen, hcell⟩ := hr.bl hi hbk
    have hsmall : ((n + ys.length : Nat) : Int) ≤ 9223372036854775807 := by simp only [maxLen] at hm; omega
    have hns : n * T.sz e ≤ c.size := by omega
    have hol : (c.toList.take (n * T.sz e)).length = n * i.size := by rw [hi1]; simp; omega
    have holds : ∀ j v, (c.toList.take (n * T.sz e))[j]? = some v → w.cell? ((⟨b, 0, none⟩ : Addr).add j) = some v := fun j v hj => by
      rw [add_addr, Nat.zero_add]
      rw [List.getElem?_take] at hj
      split at hj
      · simp only [World.cell?, hblk, Option.isSome_none, Bool.false_eq_true, if_false]; simpa using hj
      · cases hj
    have hrun := run_append_grow (P := X.P) w t ty e i z (und_slice hT ht) hif hiz ⟨b, 0, none⟩ n cap (c.toList.take (n * T.sz e)) hol holds ⟨by1, offy, none⟩ ys.length cy valsy (by rw [ky4, hi1]) hnews (by omega) hsmall (growslice_fits (by omega) (by rw [hi2]; exact hb))
    have hge := grownCap_ge w (n + ys.length) cap e
    have hcm := grownCap_le_maxLen w (n + ys.length) cap e (by simpa using hm)
    generalize hcap : grownCap w (n + ys.length) cap e = cap' at *
    have hr1 : Rel X φ Z s a w.drew := hr.drew _
    have up : ∀ {x : A} {v : Value}, VR φ Z w x v → VR φ Z w.drew x v := fun h => VR.mono (φ := φ) (φ' := φ) (Z := Z) (Z' := Z) (w := w) (w' := w.drew) (fun _ _ h => h) (fun _ _ h => h) (fun b o _ => rfl) h
    have hvo : VRc φ Z w.drew (cs.take (n * T.sz e)) (c.toList.take (n * T.sz e)).toArray := by
      refine ⟨by simp; omega, fun j hj => ?_⟩
      have hj1 : j < n * T.sz e := by rw [List.length_take] at hj; omega
      have hj2 : j < c.size := by omega
      have e1 : ((c.toList.take (n * T.sz e)).toArray).getD j undef = c.getD j undef := by
        simp [Array.getD_eq_getD_getElem?, List.getElem?_take, hj1]
      have e2 : (cs.take (n * T.sz e)).getD j .un = cs.getD j .un := by simp [List.getD_eq_getElem?_getD, List.getElem?_take, hj1]
      rw [e1, e2]
      have := hcell j (by omega)
      exact ⟨this.2, up this.1⟩
    have hvc : VRc φ Z w.drew (cs.take (n * T.sz e) ++ ys.flatten ++ List.replicate ((cap' - (n + ys.length)) * T.sz e) .un) ((c.toList.take (n * T.sz e)).toArray ++ valsy.toArray ++ Builtin.zeroCells z.cells (cap' - (n + ys.length))) :=
      VRc.app (VRc.app hvo (rows_vrc hs ky4 ky7 fun i j hi hj => up (ky8 i j hi hj))) (VRc.junk hzf h0 _)
    have hnm := hr.fresh _ (Nat.le_refl s.c)
    have h2 := hr1.newCells (ty := e) (hdn d rfl) hnm (Nat.le_succ _) (Nat.lt_succ_self _) hvc (x := .gs s.c (n + ys.length) cap') (u := .slice (some ⟨w.heap.size, 0, none⟩) (n + ys.length) cap') (.gs _ _ _ _ (by simp) hge hcm) (fun p => by simp [spareOf])
    rw [down_junk, List.map_append] at h2
    refine wp_run (fun c => by simp) ?_ (hn _ _ Z _ _ (k2 cap' hge) h2)
    rw [ex_builtin, bi_append, Sem.run_bind, hev, ex, ey, hrun]; rfl
end
section
variable {X : Ctx} {r : Option Nat} {φ : Names} {Z : Still} {s : St} {a : Act} {w : World} {Q : Exit → St → Prop}
end
end Go.AL

namespace Go.AL
open Go Go.RowKit
def cutD (D : Nat → Bool) (φ : Names) : Names := fun id => if D id = true then φ id else none
def cutHD (D : Nat → Bool) (H : Hp) : Hp := fun id => if D id = true then H id else none
def glueND (D : Nat → Bool) (φ' φ : Names) : Names := fun id => if D id = true then φ' id else φ id
def glueHD (D : Nat → Bool) (H' H : Hp) : Hp := fun id => if D id = true then H' id else H id
theorem cutD_up {D : Nat → Bool} {φ : Names} {id b : Nat} (h : cutD D φ id = some b) : φ id = some b ∧ D id = true := by
  unfold cutD at h; split at h
  · exact ⟨h, by assumption⟩
  · cases h
def InD (D : Nat → Bool) (H : Hp) : Prop := ∀ id bx, H id = some bx → D id = true ∧ NmsB (fun i => D i = true) bx
theorem cutHD_some {D : Nat → Bool} {H : Hp} {id : Nat} (h : (cutHD D H id).isSome = true) : D id = true ∧ (H id).isSome = true ∧ cutHD D H id = H id := by
  unfold cutHD at h ⊢
  split at h
  · rename_i h1; exact ⟨h1, h, if_pos h1⟩
  · cases h
section
variable {P : Program} {D : Nat → Bool} {φ φ' : Names} {Z Z' : Still} {H H' : Hp} {c c2 c3 c' : Nat} {w w' : World}
theorem HRel.cutD (hr : HRel P φ Z H c2 w) (low : InD D (cutHD D H)) (hfr : ∀ id, c ≤ id → D id = true → c2 ≤ id) : HRel P (AL.cutD D φ) Z (cutHD D H) c w := by
  have φin : ∀ id, D id = true → AL.cutD D φ id = φ id := fun id hi => by unfold AL.cutD; rw [if_pos hi]
  have φout : ∀ id b, AL.cutD D φ id = some b → φ id = some b := fun id b hb => (cutD_up hb).1
  have absS : ∀ id j, D id = true → absAt ⟨fun _ => .un, cutHD D H, c⟩ (.box id j) = absAt ⟨fun _ => .un, H, c2⟩ (.box id j) := fun id j hi => by simp only [absAt, cutHD, if_pos hi]
  have conS : ∀ id j w, D id = true → conAt (AL.cutD D φ) ⟨#[], []⟩ w (.box id j) = conAt φ ⟨#[], []⟩ w (.box id j) := fun id j w hi => by simp only [conAt, φin id hi]
  have abs_some : ∀ {id j : Nat} {v : Value} {p : Nat × Nat}, spareOf (absAt ⟨fun _ => .un, cutHD D H, c⟩ (.box id j)) v = some p → D id = true := fun {id j v p} hs => by
    cases e : cutHD D H id with
    | some b => exact (cutHD_some (by rw [e]; rfl)).1
    | none => simp [absAt, e, spareOf] at hs
  exact {
    boxes := fun id bx hb => by
      obtain ⟨h1, h2, h3⟩ := cutHD_some (D := D) (H := H) (id := id) (by rw [hb]; rfl)
      obtain ⟨b, k1, k2⟩ := hr.boxes id bx (h3 ▸ hb)
      exact ⟨b, by rw [φin id h1]; exact k1, k2.nms (low id bx hb).2 fun i b hi hb => by rw [φin i hi]; exact hb⟩
    inj := fun id id' b hi hi' h1 h2 => hr.inj id id' b (cutHD_some hi).2.1 (cutHD_some hi').2.1 (φout _ _ h1) (φout _ _ h2)
    zok := hr.zok
    zbox := fun b o id hz hi hb => hr.zbox b o id hz (cutHD_some hi).2.1 (φout _ _ hb)
    own1 := fun id j b e hl => by
      have hi := abs_some hl
      rw [absS id j hi, conS id j w hi] at hl
      obtain ⟨k0, k⟩ := hr.own1 id j b e hl
      rw [conS id j w hi]
      exact ⟨fun i hi hb => k0 i (cutHD_some hi).2.1 (φout _ _ hb), k⟩
    own2 := fun id j id' j' b e e' hl hl' => by
      have hi := abs_some hl
      have hi' := abs_some hl'
      rw [absS id j hi, conS id j w hi] at hl
      rw [absS id' j' hi', conS id' j' w hi'] at hl'
      exact hr.own2 id j id' j' b e e' hl hl'
    fresh := fun id hi => by
      unfold AL.cutD
      split
      · rename_i h1; exact hr.fresh id (hfr id hi h1)
      · rfl }
theorem HRel.glueD (hr : HRel P φ Z H c2 w) (hc : c2 ≤ c3) (hr' : HRel P φ' Z' H' c' w') (g : Grew P (AL.cutD D φ) φ' Z Z' (cutHD D H) H' w w') (low' : InD D H') (hfr : ∀ id, c3 ≤ id → D id = true → c' ≤ id) :
    HRel P (glueND D φ' φ) Z' (glueHD D H' H) c3 w' ∧ Grew P φ (glueND D φ' φ) Z Z' H (glueHD D H' H) w w' := by
  have φin : ∀ id, D id = true → AL.cutD D φ id = φ id := fun id hi => by unfold AL.cutD; rw [if_pos hi]
  have φout : ∀ id b, AL.cutD D φ id = some b → φ id = some b := fun id b hb => (cutD_up hb).1
  have gin : ∀ id, D id = true → glueND D φ' φ id = φ' id := fun id hi => by unfold glueND; rw [if_pos hi]
  have gout : ∀ id, ¬ D id = true → glueND D φ' φ id = φ id := fun id hi => by unfold glueND; rw [if_neg hi]
  have hin : ∀ id, D id = true → glueHD D H' H id = H' id := fun id hi => by unfold glueHD; rw [if_pos hi]
  have hout : ∀ id, ¬ D id = true → glueHD D H' H id = H id := fun id hi => by unfold glueHD; rw [if_neg hi]
  have cin : ∀ id, D id = true → cutHD D H id = H id := fun id hi => by unfold cutHD; rw [if_pos hi]
  have names : ∀ id b, φ id = some b → glueND D φ' φ id = some b := fun id b hb => by
    by_cases hi : D id = true
    · rw [gin id hi]; exact g.names id b (by rw [φin id hi]; exact hb)
    · rw [gout id hi]; exact hb
  have abs_some : ∀ {Hx : Hp} {k id j : Nat} {v : Value} {p : Nat × Nat}, spareOf (absAt ⟨fun _ => .un, Hx, k⟩ (.box id j)) v = some p → (Hx id).isSome = true := fun {Hx k id j v p} hs => by
    cases e : Hx id with
    | some b => rfl
    | none => simp [absAt, e, spareOf] at hs
  have mineS : ∀ b, Mine (AL.cutD D φ) (cutHD D H) w b → Mine φ H w b := fun b hm => by
    rcases hm with ⟨id, h1, h2⟩ | ⟨id, j, e, h1⟩
    · exact .inl ⟨id, (cutHD_some h1).2.1, φout _ _ h2⟩
    · have hi := (cutHD_some (abs_some h1)).1
      refine .inr ⟨id, j, e, ?_⟩
      simp only [absAt, conAt, φin id hi, cin id hi] at h1 ⊢
      exact h1
  have boxOut : ∀ id b, (H id).isSome = true → ¬ D id = true → φ id = some b → ¬ Mine (AL.cutD D φ) (cutHD D H) w b := fun id b h1 h2 h3 hm => by
    rcases hm with ⟨i, k1, k2⟩ | ⟨i, j, e, k1⟩
    · have := hr.inj id i b h1 (cutHD_some k1).2.1 h3 (φout _ _ k2)
      subst this; exact h2 (cutHD_some k1).1
    · have hi := (cutHD_some (abs_some k1)).1
      have k1' : spareOf (absAt ⟨fun _ => .un, H, c2⟩ (.box i j)) (conAt φ ⟨#[], []⟩ w (.box i j)) = some (b, e) := by
        simp only [absAt, conAt, φin i hi, cin i hi] at k1 ⊢; exact k1
      exact (hr.own1 i j b e k1').1 id h1 h3
  have spareOut : ∀ id j b e, ¬ D id = true → spareOf (absAt ⟨fun _ => .un, H, c2⟩ (.box id j)) (conAt φ ⟨#[], []⟩ w (.box id j)) = some (b, e) → ¬ Mine (AL.cutD D φ) (cutHD D H) w b := fun id j b e h1 h2 hm => by
    rcases hm with ⟨i, k1, k2⟩ | ⟨i, j', e', k1⟩
    · exact (hr.own1 id j b e h2).1 i (cutHD_some k1).2.1 (φout _ _ k2)
    · have hi := (cutHD_some (abs_some k1)).1
      have k1' : spareOf (absAt ⟨fun _ => .un, H, c2⟩ (.box i j')) (conAt φ ⟨#[], []⟩ w (.box i j')) = some (b, e') := by
        simp only [absAt, conAt, φin i hi, cin i hi] at k1 ⊢; exact k1
      have := hr.own2 id j i j' b e e' h2 k1'
      cases this; exact h1 hi
  have blt : ∀ id b, (H id).isSome = true → φ id = some b → b < w.heap.size := fun id b h1 h2 => by
    obtain ⟨bx, hbx⟩ := Option.isSome_iff_exists.1 h1
    obtain ⟨b0, h3, h4⟩ := hr.boxes id bx hbx
    rw [h2] at h3; cases h3; exact h4.lt
  have keep : ∀ b, b < w.heap.size → ¬ Mine (AL.cutD D φ) (cutHD D H) w b → w'.heap[b]? = w.heap[b]? := g.frame
  have conO : ∀ id j, (H id).isSome = true → ¬ D id = true → conAt (glueND D φ' φ) ⟨#[], []⟩ w' (.box id j) = conAt φ ⟨#[], []⟩ w (.box id j) := fun id j h1 h2 => by
    cases e : φ id with
    | none => simp only [conAt, gout id h2, e]
    | some b =>
      simp only [conAt, gout id h2, e]
      rw [World.cell?_of_block (w := w) (w' := w') (a := ⟨b, j, none⟩) (keep b (blt id b h1 e) (boxOut id b h1 h2 e))]
  have absO : ∀ id j, ¬ D id = true → absAt ⟨fun _ => .un, glueHD D H' H, c3⟩ (.box id j) = absAt ⟨fun _ => .un, H, c2⟩ (.box id j) := fun id j h2 => by simp only [absAt, hout id h2]
  have absI : ∀ id j, D id = true → absAt ⟨fun _ => .un, glueHD D H' H, c3⟩ (.box id j) = absAt ⟨fun _ => .un, H', c'⟩ (.box id j) := fun id j h2 => by simp only [absAt, hin id h2]
  have conI : ∀ id j, D id = true → conAt (glueND D φ' φ) ⟨#[], []⟩ w' (.box id j) = conAt φ' ⟨#[], []⟩ w' (.box id j) := fun id j h2 => by simp only [conAt, gin id h2]
  have domO : ∀ {id j : Nat} {v : Value} {p : Nat × Nat}, spareOf (absAt ⟨fun _ => .un, glueHD D H' H, c3⟩ (.box id j)) v = some p → ¬ D id = true → (H id).isSome = true := fun {id j v p} hs hi => by
    have := abs_some hs
    change (glueHD D H' H id).isSome = true at this
    rwa [hout id hi] at this
  have mineO : ∀ id j b e, spareOf (absAt ⟨fun _ => .un, glueHD D H' H, c3⟩ (.box id j)) (conAt (glueND D φ' φ) ⟨#[], []⟩ w' (.box id j)) = some (b, e) → ¬ D id = true →
      spareOf (absAt ⟨fun _ => .un, H, c2⟩ (.box id j)) (conAt φ ⟨#[], []⟩ w (.box id j)) = some (b, e) := fun id j b e hl hi => by
    have h1 := domO hl hi
    rw [absO id j hi, conO id j h1 hi] at hl; exact hl
  have mineI : ∀ id j b e, spareOf (absAt ⟨fun _ => .un, glueHD D H' H, c3⟩ (.box id j)) (conAt (glueND D φ' φ) ⟨#[], []⟩ w' (.box id j)) = some (b, e) → D id = true →
      spareOf (absAt ⟨fun _ => .un, H', c'⟩ (.box id j)) (conAt φ' ⟨#[], []⟩ w' (.box id j)) = some (b, e) := fun id j b e hl hi => by
    rw [absI id j hi, conI id j hi] at hl; exact hl
  have newBox : ∀ id b, (H' id).isSome = true → φ' id = some b → Mine (AL.cutD D φ) (cutHD D H) w b ∨ w.heap.size ≤ b := fun id b h1 h2 => g.mine b (.inl ⟨id, h1, h2⟩)
  have newMine : ∀ id j b e, spareOf (absAt ⟨fun _ => .un, H', c'⟩ (.box id j)) (conAt φ' ⟨#[], []⟩ w' (.box id j)) = some (b, e) → Mine (AL.cutD D φ) (cutHD D H) w b ∨ w.heap.size ≤ b := fun id j b e hl => g.mine b (.inr ⟨id, j, e, by simpa only [absAt] using hl⟩)
  have spLt : ∀ {s : St} {φ : Names} {Z : Still} {w : World} {v : Value} {b e : Nat}, SpareOk P s φ Z w v b e → b < w.heap.size := fun hk => by
    obtain ⟨_, _, _, _, _, _, _, k3, _⟩ := hk; exact lt_of_block k3
  have isI : ∀ id, D id = true → (glueHD D H' H id).isSome = true → (H' id).isSome = true := fun id hi h => by rwa [hin id hi] at h
  have isO : ∀ id, ¬ D id = true → (glueHD D H' H id).isSome = true → (H id).isSome = true := fun id hi h => by rwa [hout id hi] at h
  have apart : ∀ i o b, D i = true → (glueHD D H' H i).isSome = true → ¬ D o = true → (glueHD D H' H o).isSome = true → φ' i = some b → φ o = some b → False := fun i o b hi h1 ho h2 h3 h4 => by
    have k2 := isO o ho h2
    have hlt := blt o b k2 h4
    exact (newBox i b (isI i hi h1) h3).elim (boxOut o b k2 ho h4) (fun h5 => by omega)
  refine ⟨{
    boxes := fun id bx hb => by
      by_cases hi : D id = true
      · rw [hin id hi] at hb
        obtain ⟨b, h1, h2⟩ := hr'.boxes id bx hb
        exact ⟨b, by rw [gin id hi]; exact h1, h2.nms (low' id bx hb).2 fun i b hi hb => by rw [gin i hi]; exact hb⟩
      · rw [hout id hi] at hb
        obtain ⟨b, h1, h2⟩ := hr.boxes id bx hb
        exact ⟨b, by rw [gout id hi]; exact h1, h2.mono names (fun b o hz => (g.up b o hz).1) (fun b o hz => (g.up b o hz).2) (keep b h2.lt (boxOut id b (by rw [hb]; rfl) hi h1))⟩
    inj := fun id id' b hi hi' h1 h2 => by
      by_cases k1 : D id = true <;> by_cases k2 : D id' = true
      · rw [gin id k1] at h1; rw [gin id' k2] at h2
        exact hr'.inj id id' b (isI id k1 hi) (isI id' k2 hi') h1 h2
      · rw [gin id k1] at h1; rw [gout id' k2] at h2
        exact (apart id id' b k1 hi k2 hi' h1 h2).elim
      · rw [gout id k1] at h1; rw [gin id' k2] at h2
        exact (apart id' id b k2 hi' k1 hi h2 h1).elim
      · rw [gout id k1] at h1; rw [gout id' k2] at h2
        exact hr.inj id id' b (isO id k1 hi) (isO id' k2 hi') h1 h2
    zok := hr'.zok
    zbox := fun b o id hz hi hb => by
      by_cases h1 : D id = true
      · rw [gin id h1] at hb
        exact hr'.zbox b o id hz (isI id h1 hi) hb
      · rw [gout id h1] at hb
        have h2 := isO id h1 hi
        have hlt := blt id b h2 hb
        exact (g.back b o hz hlt).elim (fun h3 => hr.zbox b o id h3 h2 hb) (boxOut id b h2 h1 hb)
    own1 := fun id j b e hl => by
      by_cases hi : D id = true
      · have hl' := mineI id j b e hl hi
        obtain ⟨k0, k⟩ := hr'.own1 id j b e hl'
        rw [conI id j hi]
        refine ⟨fun i h1 h2 => ?_, k⟩
        change (glueHD D H' H i).isSome = true at h1
        by_cases h3 : D i = true
        · rw [gin i h3] at h2
          exact k0 i (isI i h3 h1) h2
        · rw [gout i h3] at h2
          have h4 := isO i h3 h1
          have hlt := blt i b h4 h2
          exact (newMine id j b e hl').elim (boxOut i b h4 h3 h2) (fun h5 => by omega)
      · have hl' := mineO id j b e hl hi
        have h1 := domO hl hi
        obtain ⟨k0, n', c'', i, cur, k1, k2, k3, k4, k5⟩ := hr.own1 id j b e hl'
        have hlt := lt_of_block k3
        have hnm := spareOut id j b e hi hl'
        rw [conO id j h1 hi]
        refine ⟨fun i hi' hb => ?_, n', c'', i, cur, k1, k2, (keep b hlt hnm).trans k3, k4, fun o ho hz => (g.back b o hz hlt).elim (k5 o ho) hnm⟩
        change (glueHD D H' H i).isSome = true at hi'
        by_cases h3 : D i = true
        · rw [gin i h3] at hb
          exact (newBox i b (isI i h3 hi') hb).elim hnm (fun h5 => by omega)
        · rw [gout i h3] at hb
          exact k0 i (isO i h3 hi') hb
    own2 := fun id j id' j' b e e' hl hl' => by
      by_cases hi : D id = true <;> by_cases hi' : D id' = true
      · exact hr'.own2 id j id' j' b e e' (mineI id j b e hl hi) (mineI id' j' b e' hl' hi')
      · exfalso
        have h2 := mineO id' j' b e' hl' hi'
        have hlt := spLt (hr.own1 id' j' b e' h2)
        exact (newMine id j b e (mineI id j b e hl hi)).elim (spareOut id' j' b e' hi' h2) (fun h5 => by omega)
      · exfalso
        have h2 := mineO id j b e hl hi
        have hlt := spLt (hr.own1 id j b e h2)
        exact (newMine id' j' b e' (mineI id' j' b e' hl' hi')).elim (spareOut id j b e hi h2) (fun h5 => by omega)
      · exact hr.own2 id j id' j' b e e' (mineO id j b e hl hi) (mineO id' j' b e' hl' hi')
    fresh := fun id hi => by
      by_cases h1 : D id = true
      · rw [gin id h1]; exact hr'.fresh id (hfr id hi h1)
      · rw [gout id h1]; exact hr.fresh id (by omega) }, {
    size := g.size
    frame := fun b hb hm => g.frame b hb fun h1 => hm (mineS b h1)
    os := g.os
    tape := g.tape
    output := g.output
    up := g.up
    back := fun b o hz hb => (g.back b o hz hb).elim .inl fun h1 => .inr (mineS b h1)
    names := names
    mine := fun b hm => by
      rcases hm with ⟨id, h1, h2⟩ | ⟨id, j, e, h1⟩
      · by_cases hi : D id = true
        · rw [gin id hi] at h2
          exact (newBox id b (isI id hi h1) h2).elim (fun h2 => .inl (mineS b h2)) .inr
        · rw [gout id hi] at h2
          exact .inl (.inl ⟨id, isO id hi h1, h2⟩)
      · have h1' : spareOf (absAt ⟨fun _ => .un, glueHD D H' H, c3⟩ (.box id j)) (conAt (glueND D φ' φ) ⟨#[], []⟩ w' (.box id j)) = some (b, e) := by simpa only [absAt] using h1
        by_cases hi : D id = true
        · exact (newMine id j b e (mineI id j b e h1' hi)).elim (fun h2 => .inl (mineS b h2)) .inr
        · have h2 := mineO id j b e h1' hi
          exact .inl (.inr ⟨id, j, e, by simpa only [absAt] using h2⟩) }⟩
end
structure IterD (P : Program) (D : Nat → Bool) (id : Nat) (S : Slots) (nt : Nat) (ps : Array Tmp) (asg body : Code) (L : List (List A)) (I : Nat → Hp → Prop) (cn : Nat → Nat) : Prop where
  pok : ∀ t ∈ ps.toList, t < nt
  len : ∀ as ∈ L, as.length = ps.size
  lp : ∀ k H, I k H → ∃ pend, H id = some (.lp .ready pend S nt ps asg body)
  dom : ∀ k H, I k H → InD D H
  low : ∀ k H, I k H → Low (cn k) H
  round : ∀ k as, L[k]? = some as → ∀ H, I k H → ∀ (E : En) (b : Nat), (∀ i, cn k ≤ i → E.φ0 i = none) →
    Aw (E.cx P nt) (some b) asg (fun e s1 => e = .normal ∧ ∃ p1 S1 nt1 ps1 as1 bo1, s1.H id = some (.lp .ready p1 S1 nt1 ps1 as1 bo1) ∧
      Aw (E.cx P nt) (some b) body (roundQ id fun v H' c' => v = .bool true ∧ c' = cn (k + 1) ∧ Sub H' (I (k + 1))) { s1 with H := updH s1.H id (some (.lp .busy p1 S1 nt1 ps1 as1 bo1)) })
      ⟨setPs (fun t => (S t).down) ps.toList as, H, cn k⟩
theorem IterD.yield {P : Program} {D : Nat → Bool} {id : Nat} {S : Slots} {nt : Nat} {ps : Array Tmp} {asg body : Code} {L : List (List A)} {I : Nat → Hp → Prop} {cn : Nat → Nat} (it : IterD P D id S nt ps asg body L I cn)
    {X : Ctx} (hP : X.P = P) {r : Option Nat} {s : St} {o : Oper} {K : St → Prop} {f : Operand} {args : Array Operand} {at' : Array TypeId} (ho : o.op = .call { callee := .value f, args := args, argTypes := at' }) (hf : rd s.S f = .yl id)
    {k c3 : Nat} (hcn : ∀ i, cn k ≤ i → D i = true → s.c ≤ i) (hc3 : s.c ≤ c3) (hcn3 : ∀ i, c3 ≤ i → D i = true → cn (k + 1) ≤ i) (ha : L[k]? = some (rds s.S args.toList)) (hfree : ∀ x ∈ rds s.S args.toList, Free x) (hI : I k (cutHD D s.H))
    (hK : ∀ H', I (k + 1) H' → K ⟨putO s.S o.dst (.bool true), glueHD D H' s.H, c3⟩) : DoesR X r o s K := by
  subst hP
  obtain ⟨pend, hi⟩ := it.lp k _ hI
  have low := it.dom k _ hI
  have hlen := it.len _ (List.mem_of_getElem? ha)
  intro hdn φ Z a w hr next Q hn
  obtain ⟨dst, op, ty, pos, aft, gd⟩ := o
  simp only at ho
  subst ho
  obtain ⟨b, e0, hb⟩ := inv_yl (hf ▸ hr.sees.rd f)
  have hcut := hr.hrel.cutD low hcn
  obtain ⟨b', hb', hbr⟩ := hcut.boxes id _ hi
  have hbb : b' = b := by
    have := (cutD_up hb').1
    rw [hb] at this; cases this; rfl
  subst hbb
  obtain ⟨fn, tmps, d, hl, hsz, htv⟩ := hbr
  have hargs := vrs_rds hr.slots args
  have hset := setPs_vr (φ := cutD D φ) (Z := Z) (w := w) ps.toList (rds s.S args.toList) (args.map a.eval).toList (S := fun t => (S t).down) (tmps := tmps) (fun t ht => by rw [hsz]; exact it.pok t ht) (by simpa using hargs.1) (fun i hi => by
    have := hargs.2 i hi
    have h2 := this.nms (φ' := cutD D φ) (D := fun _ => False) (hfree _ (mem_getD hi)).nms (fun _ _ h => h.elim)
    simpa [Array.getD_eq_getD_getElem?, List.getD_eq_getElem?_getD] using h2) (fun t => (htv t).down)
  have hrun : (execOp a.eval { dst := dst, op := Op.call { callee := .value f, args := args, argTypes := at' }, type := ty, pos := pos, after := aft, guard := gd }).run X.P w =
      .ok (.round b' fn ((ps.toList.zip (args.map a.eval).toList).foldl (fun tmps p => tmps.setIfInBounds p.1 p.2) tmps) asg body) w := by
    simp only [ex_call, resolve, e0, Deferred.ofValue, invoke, Sem.run_bind, Sem.run_pure, Result.andThen_ok]
    simp only [Instr.yield, Sem.run_bind, run_getLoop hl, Result.andThen_ok]
    rw [if_neg (by
      have h1 : args.size = ps.size := by simpa [rds] using hlen
      simp [h1])]
    simp only [Sem.run_pure, Array.toList_map, ← Array.foldl_toList, Array.toList_zip, Array.empty_append, Array.append_empty]
  refine ⟨fun f _ => trivial, ?_⟩
  rw [Oper.semAt_eq _ _ _ (fun c => by simp), hrun, Oper.uponIn_round]
  refine ⟨fun h0 => (by cases h0), roundIn_of_wpIn trivial ?_⟩
  have hrel0 := hcut.enter (S := setPs (fun t => (S t).down) ps.toList (rds s.S args.toList)) (nt := nt) (hset.1.trans hsz) hset.2 (setPs_own _ _ (fun v hv u => by
    obtain ⟨x, _, rfl⟩ := List.mem_map.1 hv
    exact spare_down _ _) (fun t u => spare_down _ _))
  have h := it.round k _ ha _ hI ⟨w, Mine (cutD D φ) (cutHD D s.H) w, Z, cutD D φ⟩ b' hcut.fresh
  refine wpIn_mono (h (cutD D φ) Z _ w hrel0) ?_
  rintro e a1 w1 ⟨s1, φ1, Z1, ⟨rfl, p1, S1, nt1, ps1, as1, bo1, hi1, hbody⟩, hr1⟩
  have hb1 : φ1 id = some b' := hr1.names id b' hb'
  obtain ⟨fn1, tmps1, d1, hl1, _, _, hset1⟩ := hr1.setLp hi1 hb1
  refine ⟨_, by simp only [Instr.beginRound, Sem.run_bind, run_getLoop hl1, run_setLoop hl1, Result.andThen_ok, Sem.run_pure]; rfl, ?_⟩
  refine wpIn_mono (hbody φ1 Z1 a1 _ (hset1 .busy p1)) ?_
  rintro e a2 w2 ⟨s2, φ2, Z2, hq, hr2⟩
  have hb2 : φ2 id = some b' := hr2.names id b' hb'
  cases e with
  | normal =>
    obtain ⟨st2, pend2, S2, nt2, ps2, as2, bo2, hi2, _, hcc, H2, hI2, hsub⟩ := hq
    obtain ⟨fn2, tmps2, d2, hl2, _, _, hset2⟩ := hr2.setLp hi2 hb2
    have hr3 := hset2 .ready none
    obtain ⟨k1, k2⟩ := hr3.leave
    obtain ⟨g1, g2⟩ := hr.hrel.glueD hc3 (k1.less hsub) (k2.less hsub) (it.dom _ _ hI2) (fun i h1 h2 => by have := hcn3 i h1 h2; show s2.c ≤ i; omega)
    have hr4 := hr.called g1 g2
    have hk := hK H2 hI2
    refine ⟨.bool true, _, by simp only [Instr.endRound, Sem.run_bind, run_getLoop hl2, run_setLoop hl2, Result.andThen_ok, Sem.run_pure]; rfl, ?_⟩
    cases dst with
    | none => exact hn _ _ Z2 _ _ hk hr4
    | some d => exact hn _ _ Z2 _ _ hk (hr4.put_down hr4.more_refl (hdn d rfl) (.s _) (fun p hs => by simp [spareOf] at hs))
  | ret =>
    obtain ⟨st2, pend2, S2, nt2, ps2, as2, bo2, hi2, h, _⟩ := hq
    cases h
  | exit j =>
    obtain ⟨st2, pend2, S2, nt2, ps2, as2, bo2, hi2, h, _⟩ := hq
    cases h
  | goto t => exact hq.elim
  | panic ch => exact hq.elim
  | outgrown => exact hq.elim
def RQD (lpB : LoopState → Option Code → B) (c cn : Nat) (I : Hp → Prop) : Exit → St → Prop
  | .normal, s => (∃ st p, s.H c = some (lpB st p)) ∧ s.c = cn ∧ Sub s.H I
  | _, _ => False
section
variable {X : Ctx} {s : St} {Q : Exit → St → Prop}
end
section
variable {X : Ctx} {r : Option Nat} {s : St} {Q : Exit → St → Prop}
theorem Aw.raise {x : Code} {c' : Nat} (hc : s.c ≤ c') (h : Aw X r x Q ⟨s.S, s.H, c'⟩) : Aw X r x Q s :=
  Aw.weaken (S' := s.S) (H' := s.H) (c' := c') (fun _ => .refl _) (fun _ bx hb => ⟨bx, hb, .refl _⟩) hc h
end
end Go.AL

namespace Go.AL
open Go Go.RowKit
section
variable {X : Ctx} {T : Tab} {r : Option Nat} {s : St} {o : Oper} {K : St → Prop}
end
inductive LeL : List A → List A → Prop
  | nil : LeL [] []
  | cons {a b : A} {l m : List A} (h : A.Le a b) (t : LeL l m) : LeL (a :: l) (b :: m)
inductive LeR : List (List A) → List (List A) → Prop
  | nil : LeR [] []
  | cons {a b : List A} {l m : List (List A)} (h : LeL a b) (t : LeR l m) : LeR (a :: l) (b :: m)
theorem LeL.len {l m : List A} (h : LeL l m) : l.length = m.length := by induction h with | nil => rfl | cons _ _ ih => simp [ih]
theorem LeL.get {l m : List A} (h : LeL l m) : ∀ i, A.Le (l.getD i .un) (m.getD i .un) := by
  induction h with
  | nil => intro i; exact .refl _
  | cons h _ ih => intro i; cases i with | zero => exact h | succ i => exact ih i
theorem LeR.len {l m : List (List A)} (h : LeR l m) : l.length = m.length := by induction h with | nil => rfl | cons _ _ ih => simp [ih]
theorem LeR.get {l m : List (List A)} (h : LeR l m) : ∀ i, LeL (l.getD i []) (m.getD i []) := by
  induction h with
  | nil => intro i; exact .nil
  | cons h _ ih => intro i; cases i with | zero => exact h | succ i => exact ih i
theorem LeL.refl : ∀ l : List A, LeL l l
  | [] => .nil
  | a :: l => .cons (.refl a) (LeL.refl l)
theorem A.Le.agg {l m : List A} (h : LeL l m) : A.Le (.agg l) (.agg m) := ⟨fun φ Z w v hv => by
  obtain ⟨vs, e0, e1, e2, e3⟩ := inv_agg hv
  subst e0
  exact .agg _ _ (by rw [e1, h.len]) (fun i hi => e2 i (by rw [← h.len]; exact hi)) fun i hi => (h.get i).vr _ _ _ _ (e3 i (by rw [← h.len]; exact hi)), fun v p e => by simp [spareOf] at e⟩
end Go.AL

namespace Go.AL
open Go Go.RowKit
theorem pr_pure {α : Type} {P : Program} (x : α) : pureRun P (pure x) = some x := rfl
theorem pureRun_eqArr {P : Program} {d t e n : Nat} (hu : pureRun P (underlying t) = some (.array n e)) (hsz : pureRun P (sizeOf e) = some 1) (xs ys : Array Value) (f : Nat → Bool)
    (hf : ∀ i, i < n → ∃ x y, pureRun P (part e xs (i * 1)) = some x ∧ pureRun P (part e ys (i * 1)) = some y ∧ pureRun P (Op.equalIn d e x y) = some (f i)) :
    pureRun P (Op.equalIn (d + 1) t (.agg xs) (.agg ys)) = some ((List.range n).all f) := by
  simp only [Op.equalIn, pureRun_bind, hu, Option.bind_some, hsz]
  simp only [Std.Legacy.Range.forIn_eq_forIn_range', Std.Legacy.Range.size, Nat.sub_zero, Nat.add_one_sub_one, Nat.div_one, List.range_eq_range']
  have hm : ∀ i ∈ List.range' 0 n, i < n := fun i hi => by simpa using hi
  revert hm
  generalize List.range' 0 n = is
  intro hm
  induction is with
  | nil => simp [List.forIn_nil, pr_pure]
  | cons j is ih =>
    obtain ⟨x, y, h1, h2, h3⟩ := hf j (hm j (by simp))
    have ih := ih fun i hi => hm i (by simp [hi])
    simp only [List.forIn_cons, pureRun_bind, h1, h2, h3, Option.bind_some]
    cases hj : f j with
    | false => simp [pr_pure, hj]
    | true =>
      simp only [Bool.not_true, Bool.false_eq_true, if_false, pr_pure, Option.bind_some, List.all_cons, hj, Bool.true_and]
      exact ih
theorem pureRun_eqRow {α : Type} [BEq α] [LawfulBEq α] {P : Program} {d t e n : Nat} (hu : pureRun P (underlying t) = some (.array n e)) (hsz : pureRun P (sizeOf e) = some 1) (val : α → Value)
    (hp : ∀ (xs : Array Value) (i : Nat) (x : Value), xs[i]? = some x → (∃ a, x = val a) → pureRun P (part e xs (i * 1)) = some x) (he : ∀ a b, pureRun P (Op.equalIn d e (val a) (val b)) = some (a == b)) {l m : List α} (hl : l.length = n) (hm : m.length = n) :
    pureRun P (Op.equalIn (d + 1) t (.agg (l.map val).toArray) (.agg (m.map val).toArray)) = some (l == m) := by
  rw [pureRun_eqArr hu hsz _ _ (fun i => l[i]? == m[i]?) fun i hi => ⟨val l[i], val m[i], hp _ _ _ (by simp [show i < l.length by omega]) ⟨_, rfl⟩, hp _ _ _ (by simp [show i < m.length by omega]) ⟨_, rfl⟩, by rw [he]; simp [show i < l.length by omega, show i < m.length by omega]⟩]
  congr 1
  rw [Bool.eq_iff_iff, List.all_eq_true, beq_iff_eq]
  constructor
  · intro h
    refine List.ext_getElem (by omega) fun i h1 h2 => ?_
    have := h i (by simp; omega)
    simpa [h1, h2] using this
  · rintro rfl i _; simp
theorem conc_row {α : Type} (val : α → Value) (l : List α) : concA (.agg (l.map fun a => A.s (val a))) = some (.agg (l.map val).toArray) := by
  have h : ∀ l : List α, concCells (l.map fun a => A.s (val a)) = some (l.map val) := fun l => by
    induction l with
    | nil => rfl
    | cons a l ih => simp only [List.map_cons, concCells, ih]
  simp only [concA, h]
theorem EqIs.row {T : Tab} {P : Program} (hT : T.Ok P) {α : Type} [BEq α] [LawfulBEq α] {t e n : Nat} (hu : pureRun P (underlying t) = some (.array n e)) (hsz : pureRun P (sizeOf e) = some 1) (hg : P.eqGuardType P.depth t = false) (val : α → Value)
    (hp : ∀ (xs : Array Value) (i : Nat) (x : Value), xs[i]? = some x → (∃ a, x = val a) → pureRun P (part e xs (i * 1)) = some x) (he : ∀ a b, pureRun P (Op.equalIn 9999 e (val a) (val b)) = some (a == b)) {l m : List α} (hl : l.length = n) (hm : m.length = n) (x y : Operand) :
    EqIs T .neq t x y (.agg (l.map fun a => A.s (val a))) (.agg (m.map fun a => A.s (val a))) (!(l == m)) ∧ EqIs T .eql t x y (.agg (l.map fun a => A.s (val a))) (.agg (m.map fun a => A.s (val a))) (l == m) := by
  have h9 : pureRun P (Op.equal t (.agg (l.map val).toArray) (.agg (m.map val).toArray)) = some (l == m) := pureRun_eqRow hu hsz val hp he hl hm
  have hpr : pureRun P program = some P := rfl
  have e1 : ∀ op, pureRun P (eqGuard op t x y (.agg (l.map val).toArray) (.agg (m.map val).toArray)) = some () := fun op => by
    cases op <;> simp [eqGuard, pureRun_bind, hpr, hg, pr_pure]
  constructor
  · refine ⟨_, _, conc_row val l, conc_row val m, ?_⟩
    rw [hT.eqv]; unfold pureEq
    rw [pureRun_bind, e1]
    have : binOp .neq t (.agg (l.map val).toArray) (.agg (m.map val).toArray) = (Op.equal t (.agg (l.map val).toArray) (.agg (m.map val).toArray) >>= fun b => pure (.bool (!b))) := rfl
    rw [Option.bind_some, this, pureRun_bind, h9]; rfl
  · refine ⟨_, _, conc_row val l, conc_row val m, ?_⟩
    rw [hT.eqv]; unfold pureEq
    rw [pureRun_bind, e1]
    have : binOp .eql t (.agg (l.map val).toArray) (.agg (m.map val).toArray) = (Op.equal t (.agg (l.map val).toArray) (.agg (m.map val).toArray) >>= fun b => pure (.bool b)) := rfl
    rw [Option.bind_some, this, pureRun_bind, h9]; rfl
end Go.AL

namespace Go.AL
open Go Go.RowKit
section
variable {X : Ctx} {T : Tab} {r : Option Nat} {s : St} {o : Oper} {K : St → Prop}
end
end Go.AL

namespace Go.AL
open Go Go.RowKit
section
variable {X : Ctx} {r : Option Nat} {φ : Names} {Z : Still} {s : St} {a : Act} {w : World} {Q : Exit → St → Prop}
theorem Rel.renameS (h : Rel X φ Z s a w) {id1 id2 j n cap : Nat} {cs : List A} (hi : s.H id1 = some (.cells cs)) (ht : s.S j = .gs id1 n cap) (h12 : id2 ≠ id1) (h2 : s.H id2 = none) (h0 : X.φ0 id2 = none) (hc : id2 < s.c)
    (hS : ∀ t, Nms (· ≠ id2) (s.S t)) (hH : ∀ id bx, s.H id = some bx → NmsB (· ≠ id2) bx) (hown : ∀ v ∈ cs, ∀ u, spareOf v u = none) :
    Rel X (fun id => if id = id2 then φ id1 else φ id) Z ⟨upd s.S j (.gs id2 n cap), updH (updH s.H id1 none) id2 (some (.cells cs)), s.c⟩ a w := by
  obtain ⟨b1, hb1, hbr1⟩ := h.boxes id1 _ hi
  let ψ : Names := fun id => if id = id2 then φ id1 else φ id
  have ψo : ∀ id, id ≠ id2 → ψ id = φ id := fun id h => if_neg h
  have ψ2 : ψ id2 = some b1 := (if_pos rfl).trans hb1
  have nm : ∀ id b, id ≠ id2 → φ id = some b → ψ id = some b := fun id b h1 h2 => by rw [ψo id h1]; exact h2
  let H' : Hp := updH (updH s.H id1 none) id2 (some (.cells cs))
  have H2 : H' id2 = some (.cells cs) := updH_same _ _ _
  have H1 : H' id1 = none := by show updH _ id2 _ id1 = _; rw [updH_other _ _ h12.symm]; exact updH_same _ _ _
  have Ho : ∀ id, id ≠ id1 → id ≠ id2 → H' id = s.H id := fun id e1 e2 => by show updH _ id2 _ id = _; rw [updH_other _ _ e2, updH_other _ _ e1]
  let old : Nat → Nat := fun id => if id = id2 then id1 else id
  have oldo : ∀ id, id ≠ id2 → old id = id := fun id h => if_neg h
  have old2 : old id2 = id1 := if_pos rfl
  have ψold : ∀ id, ψ id = φ (old id) := fun id => by
    by_cases e : id = id2
    · subst e; rw [old2]; exact if_pos rfl
    · rw [oldo id e, ψo id e]
  have isold : ∀ id, (H' id).isSome = true → (s.H (old id)).isSome = true ∧ id ≠ id1 := fun id hid => by
    have hne : id ≠ id1 := fun e => by subst e; rw [H1] at hid; cases hid
    refine ⟨?_, hne⟩
    by_cases e : id = id2
    · subst e; rw [old2, hi]; rfl
    · rw [oldo id e]
      rw [← Ho id hne e]; exact hid
  have oldinj : ∀ id id', id ≠ id1 → id' ≠ id1 → old id = old id' → id = id' := fun id id' e1 e2 e => by
    by_cases k1 : id = id2 <;> by_cases k2 : id' = id2
    · rw [k1, k2]
    · subst k1; rw [old2, oldo id' k2] at e; exact absurd e.symm e2
    · subst k2; rw [old2, oldo id k1] at e; exact absurd e e1
    · rwa [oldo id k1, oldo id' k2] at e
  let s' : St := ⟨upd s.S j (.gs id2 n cap), H', s.c⟩
  have no2 : ∀ j' v p, spareOf (absAt s' (.box id2 j')) v ≠ some p := fun j' v p => by
    have H2' : s'.H id2 = some (.cells cs) := H2
    simp only [absAt, H2', cellOf]
    rw [List.getD_eq_getElem?_getD]
    cases e : cs[j']? with
    | none => simp [spareOf]
    | some x => rw [Option.getD_some, hown x (List.mem_of_getElem? e)]; simp
  have con : ∀ l v p, spareOf (absAt s' l) v = some p → absAt s' l = absAt s l ∧ conAt ψ a w l = conAt φ a w l := fun l v p hl => by
    cases l with
    | slot t =>
      refine ⟨?_, rfl⟩
      show upd s.S j (.gs id2 n cap) t = s.S t
      by_cases e : t = j
      · subst e
        have hl : spareOf (upd s.S t (.gs id2 n cap) t) v = some p := hl
        rw [upd_same] at hl; simp [spareOf] at hl
      · exact upd_other _ _ e
    | box id j' =>
      have hid : (H' id).isSome = true := by
        cases e : H' id with
        | none => have e : s'.H id = none := e; simp only [absAt] at hl; rw [e] at hl; simp [spareOf] at hl
        | some bx => rfl
      have e2 : id ≠ id2 := fun e => by subst e; exact no2 _ _ _ hl
      have e1 := (isold id hid).2
      refine ⟨?_, ?_⟩
      · show (match H' id with | some (.cells cs) => cs.getD j' .un | _ => .un) = _
        rw [Ho id e1 e2]; rfl
      · simp only [conAt, ψo id e2]
  exact { h with
    slots := fun t => by
      show VR ψ Z w (upd s.S j (.gs id2 n cap) t) _
      by_cases e : t = j
      · subst e
        rw [upd_same]
        have q1 := h.slots t
        rw [ht] at q1
        obtain ⟨b', e0, hb', p1, p2⟩ := inv_gs q1
        rw [e0]
        rw [hb1] at hb'; cases hb'
        exact .gs _ _ _ _ ψ2 p1 p2
      · rw [upd_other _ _ e]; exact (h.slots t).nms (hS t) nm
    boxes := fun id bx hb => by
      have hid : (H' id).isSome = true := by rw [show H' id = some bx from hb]; rfl
      by_cases e2 : id = id2
      · subst e2
        rw [show H' id = some bx from hb] at H2
        cases H2
        exact ⟨b1, ψ2, hbr1.nms (hH id1 _ hi) nm⟩
      · have e1 := (isold id hid).2
        have hb' : s.H id = some bx := by rw [← Ho id e1 e2]; exact hb
        obtain ⟨b, k1, k2⟩ := h.boxes id bx hb'
        exact ⟨b, nm id b e2 k1, k2.nms (hH id bx hb') nm⟩
    inj := fun id id' b hid hid' k1 k2 => by
      obtain ⟨q1, q2⟩ := isold id hid
      obtain ⟨q3, q4⟩ := isold id' hid'
      have k1 : φ (old id) = some b := (ψold id).symm.trans k1
      have k2 : φ (old id') = some b := (ψold id').symm.trans k2
      exact oldinj id id' q2 q4 (h.inj _ _ b q1 q3 k1 k2)
    zbox := fun b o id hz hid hb => h.zbox b o (old id) hz (isold id hid).1 ((ψold id).symm.trans hb)
    own1 := fun l b e hl => by
      obtain ⟨c1, c2⟩ := con l _ _ hl
      have hl' : spareOf (absAt s l) (conAt φ a w l) = some (b, e) := by rw [← c1, ← c2]; exact hl
      obtain ⟨k0, k⟩ := h.own1 l b e hl'
      rw [c2]
      exact ⟨fun id hid hb => k0 (old id) (isold id hid).1 ((ψold id).symm.trans hb), k⟩
    own2 := fun l l' b e e' hl hl' => by
      obtain ⟨c1, c2⟩ := con l _ _ hl
      obtain ⟨c3, c4⟩ := con l' _ _ hl'
      exact h.own2 l l' b e e' (by rw [← c1, ← c2]; exact hl) (by rw [← c3, ← c4]; exact hl')
    mut1 := fun id b hid hb => h.mut1 (old id) b (isold id hid).1 ((ψold id).symm.trans hb)
    mut2 := fun l b e hl => by
      obtain ⟨c1, c2⟩ := con l _ _ hl
      exact h.mut2 l b e (by rw [← c1, ← c2]; exact hl)
    names := fun id b hb => by
      have e : id ≠ id2 := fun e => by subst e; rw [h0] at hb; cases hb
      exact nm id b e (h.names id b hb)
    fresh := fun id hid => by
      have e : id ≠ id2 := fun e => by subst e; exact absurd hid (by show ¬ s.c ≤ id; omega)
      show ψ id = none
      rw [ψo id e]; exact h.fresh id hid
    defs := fun d hd => by
      obtain ⟨r, k1, k2, k3, k4⟩ := h.defs d hd
      exact ⟨r, k1, k2, k3, fun id hid hb => k4 (old id) (isold id hid).1 ((ψold id).symm.trans hb)⟩ }
theorem Aw.renameS {x : Code} {id1 id2 j n cap : Nat} {cs : List A} (hi : s.H id1 = some (.cells cs)) (ht : s.S j = .gs id1 n cap) (h12 : id2 ≠ id1) (h2 : s.H id2 = none) (h0 : X.φ0 id2 = none) (hc : id2 < s.c)
    (hS : ∀ t, Nms (· ≠ id2) (s.S t)) (hH : ∀ id bx, s.H id = some bx → NmsB (· ≠ id2) bx) (hown : ∀ v ∈ cs, ∀ u, spareOf v u = none)
    (h : Aw X r x Q ⟨upd s.S j (.gs id2 n cap), updH (updH s.H id1 none) id2 (some (.cells cs)), s.c⟩) : Aw X r x Q s :=
  fun φ Z a w hr => h _ Z a w (hr.renameS hi ht h12 h2 h0 hc hS hH hown)
end
section
variable {X : Ctx} {T : Tab} {r : Option Nat} {s : St} {o : Oper} {K : St → Prop}
theorem Does.post {ops : Array Oper} {K' : St → Prop} (h : Does X r ops o s K') (hk : ∀ s1, K' s1 → ∀ φ Z a w, Rel X φ Z s1 a w → ∃ s2 φ2 Z2, K s2 ∧ Rel X φ2 Z2 s2 a w) : Does X r ops o s K :=
  fun hd φ Z a w hr next Q hn => h hd φ Z a w hr next Q fun s' φ' Z' a' w' k hr' => by
    obtain ⟨s2, φ2, Z2, h1, h2⟩ := hk s' k φ' Z' a' w' hr'
    exact hn s2 φ2 Z2 a' w' h1 h2
end
section
variable {X : Ctx} {r : Option Nat} {φ : Names} {Z : Still} {s : St} {a : Act} {w : World} {Q : Exit → St → Prop}
end
end Go.AL

namespace Go.AL
open Go Go.RowKit
section
variable {X : Ctx} {r : Option Nat} {Q : Exit → St → Prop} {ops : Array Oper}
def FireA (X : Ctx) (r : Option Nat) (ops : Array Oper) (o : Oper) (nm : Nat) (S : Slots) (H : Hp) (K : Slots → Hp → Prop) : Prop :=
  ∀ c' φ Z a w, Rel X φ Z ⟨S, H, c'⟩ a w → φ nm = none → nm < c' → ∀ next Q,
    (∀ S' H' φ' Z' a' w', K S' H' → (∀ k, k ≠ nm → φ' k = φ k) → Rel X φ' Z' ⟨S', H', c'⟩ a' w' → next a' w') → StepW X.P r ops o a w next Q
end
section
variable {X : Ctx} {T : Tab} {r : Option Nat} {mb : Nat → Bool} {ops : Array Oper} {Q : Exit → St → Prop} {s : St}
end
section
variable {X : Ctx} {T : Tab} {r : Option Nat} {ops : Array Oper} {o : Oper}
theorem FireA.appNil (hT : T.Ok X.P) {S : Slots} {H : Hp} {d t e nm : Nat} {x y : Operand} {nil1 nil2 : Bool} {cap2 : Cap} {ys : List (List A)} (hg : o.guard = none) (hdn : d < X.nt)
    (ho : o.op = .call { callee := .builtin .append, args := #[x, y], argTypes := #[t, t] }) (hd : o.dst = some d)
    (ht : T.ty t = .slice e) (he : T.ty e ≠ .none) (h0 : 0 < T.sz e) (hx : rd S x = .sl nil1 .exact []) (hy : rd S y = .sl nil2 cap2 ys)
    (hne : ys ≠ []) (hs : ∀ z ∈ ys, z.length = T.sz e) (hb : ys.length * T.by' e ≤ 140737488355328) (hm : ys.length ≤ maxLen) :
    FireA X r ops o nm S H (fun S2 H2 => ∃ cap, ys.length ≤ cap ∧ S2 = upd S d (.gs nm ys.length cap) ∧ H2 = updH H nm (some (.cells (ys.flatten.map A.down ++ List.replicate ((cap - ys.length) * T.sz e) .un)))) := by
  intro c' φ Z a w hr hnm hlt next Q hn
  unfold StepW
  rw [if_pos (wanted_none hg _)]
  obtain ⟨dst, op, ty, pos, aft, gd⟩ := o
  simp only at ho hd
  subst ho; subst hd
  obtain ⟨i, hi, hi1, hi2, z, hiz, hzf⟩ := hT.inf e he
  have hvx := hx ▸ hr.sees.rd x
  have hvy := hy ▸ hr.sees.rd y
  have hev : (#[x, y] : Array Operand).map a.eval = #[a.eval x, a.eval y] := by simp
  have hpos : 0 < ys.length := by cases ys with | nil => exact absurd rfl hne | cons y ys => simp
  have hn2 : nil2 = false := by
    rcases inv_sl hvy with ⟨_, h1, _⟩ | ⟨h1, _⟩ | ⟨h1, _⟩
    · exact absurd h1 hne
    · exact h1
    · exact h1
  subst hn2
  obtain ⟨by1, offy, cy, valsy, ey, ky1, ky2, ky3, ky4, ky5, ky6, ky7, ky8⟩ := sl_flat hvy hne hs
  have hnews : ∀ j x, valsy[j]? = some x → w.cell? ((⟨by1, offy, none⟩ : Addr).add j) = some x := fun j x hj => by rw [add_addr]; exact ky6 j x hj
  have hsmall : ((ys.length : Nat) : Int) ≤ 9223372036854775807 := by simp only [maxLen] at hm; omega
  have hrun : ∃ cap, ys.length ≤ cap ∧ cap ≤ maxLen ∧ (Builtin.append_ #[t, t] ty #[a.eval x, .slice (some ⟨by1, offy, none⟩) ys.length cy]).run X.P w =
      .ok (.slice (some ⟨w.heap.size, 0, none⟩) ys.length cap) (w.drew.alloc (.cells (valsy.toArray ++ Builtin.zeroCells z.cells (cap - ys.length)) e)) := by
    have back : ∀ a0 : Addr, a.eval x = .slice (some a0) 0 0 → ∃ cap, ys.length ≤ cap ∧ cap ≤ maxLen ∧ (Builtin.append_ #[t, t] ty #[a.eval x, .slice (some ⟨by1, offy, none⟩) ys.length cy]).run X.P w =
      .ok (.slice (some ⟨w.heap.size, 0, none⟩) ys.length cap) (w.drew.alloc (.cells (valsy.toArray ++ Builtin.zeroCells z.cells (cap - ys.length)) e)) := fun a0 e1 => by
      have hr := run_append_grow (P := X.P) w t ty e i z (und_slice hT ht) hi hiz a0 0 0 [] (by simp) (fun j x hj => by simp at hj)
        ⟨by1, offy, none⟩ ys.length cy valsy (by rw [ky4, hi1]) hnews (by omega) (by simpa using hsmall) (growslice_fits (by omega) (by rw [hi2]; simpa using hb))
      have hge := grownCap_ge w (0 + ys.length) 0 e
      have hcm := grownCap_le_maxLen w (0 + ys.length) 0 e (by simpa using hm)
      simp only [Nat.zero_add, Array.empty_append] at hge hcm hr
      exact ⟨_, hge, hcm, by rw [e1]; exact hr⟩
    rcases inv_sl hvx with ⟨_, _, e1⟩ | ⟨_, _, a0, e1⟩ | ⟨_, b0, off0, sz0, c0, val0, e1, q1, q2, _⟩
    · have hr := run_append_nil (P := X.P) w t ty e i z (und_slice hT ht) hi hiz ⟨by1, offy, none⟩ ys.length cy valsy (by rw [ky4, hi1]) hnews hpos hsmall (by rw [hi2]; omega)
      exact ⟨_, grownCap_ge w ys.length 0 e, grownCap_le_maxLen w ys.length 0 e (by simpa using hm), by rw [e1]; exact hr⟩
    · exact back a0 e1
    · have := q2 rfl
      subst this
      exact back _ e1
  obtain ⟨cap, hge, hcm, hrun⟩ := hrun
  have hr1 : Rel X φ Z ⟨S, H, c'⟩ a w.drew := hr.drew _
  have hvc : VRc φ Z w.drew (ys.flatten ++ List.replicate ((cap - ys.length) * T.sz e) .un) (valsy.toArray ++ Builtin.zeroCells z.cells (cap - ys.length)) := by
    refine VRc.app (rows_vrc hs ky4 ky7 fun i j hi hj => ?_) (VRc.junk hzf h0 _)
    exact VR.mono (φ := φ) (φ' := φ) (Z := Z) (Z' := Z) (w := w) (w' := w.drew) (fun _ _ h => h) (fun _ _ h => h) (fun b o _ => rfl) (ky8 i j hi hj)
  have h2 := hr1.newCells (ty := e) hdn hnm (Nat.le_refl _) hlt hvc (x := .gs nm ys.length cap) (u := .slice (some ⟨w.heap.size, 0, none⟩) ys.length cap) (.gs _ _ _ _ (by simp) hge hcm) (fun p => by simp [spareOf])
  rw [down_junk] at h2
  refine wp_run (fun c => by simp) ?_ (hn _ _ _ Z _ _ ⟨cap, hge, rfl, rfl⟩ (fun k hk => by simp [beq_no hk]) h2)
  rw [ex_builtin, bi_append, Sem.run_bind, hev, ey, hrun]; rfl
end
section
variable {X : Ctx} {r : Option Nat} {s : St} {φ : Names} {Z : Still} {a : Act} {w : World}
theorem DoesR.seen {o : Oper} {K K' : St → Prop} (h : DoesR X r o s K') (hk : ∀ s1, K' s1 → ∀ φ Z a w, Rel X φ Z s1 a w → ∃ s2 φ2 Z2, K s2 ∧ Rel X φ2 Z2 s2 a w) : DoesR X r o s K :=
  fun hd φ Z a w hr next Q hn => h hd φ Z a w hr next Q fun s' φ' Z' a' w' k hr' => by
    obtain ⟨s2, φ2, Z2, h1, h2⟩ := hk s' k φ' Z' a' w' hr'
    exact hn s2 φ2 Z2 a' w' h1 h2
theorem Aw.post {x : Code} {Q Q' : Exit → St → Prop} (h : Aw X r x Q' s) (hk : ∀ e s1, Q' e s1 → ∀ φ Z a w, Rel X φ Z s1 a w → ∃ s2 φ2 Z2, Q e s2 ∧ Rel X φ2 Z2 s2 a w) : Aw X r x Q s :=
  fun φ Z a w hr => wpIn_mono (h φ Z a w hr) fun e a' w' ⟨s', φ', Z', q, k⟩ => hk e s' q φ' Z' a' w' k
theorem Rel.freezeC (hrel : Rel X φ Z s a w) {id id2 j n sz : Nat} {cs cs2 : List A} (es : List (List A)) (hi : s.H id = some (.cells cs)) (hi2 : s.H id2 = some (.cells cs2)) (hne : id2 ≠ id) (hj : j < cs2.length) (hm : cs2.getD j .un = .ms id 0 n) (hr : RowsAre cs es sz) (hn : es.length = n) :
    ∃ Z', Rel X φ Z' ⟨s.S, updH (updH s.H id none) id2 (some (.cells (cs2.set j (.sl false .any es)))), s.c⟩ a w := by
  obtain ⟨b, hb, _⟩ := hrel.boxes id _ hi
  obtain ⟨Z', h1, h2, h3⟩ := hrel.freeze hi hb
  refine ⟨Z', Rel.recell (s := { s with H := updH s.H id none }) (id := id2) (j := j) (cs := cs2) h3 (by show updH s.H id none id2 = _; rw [updH_other _ _ hne]; exact hi2) hj (fun v hv => ?_) (fun v p e => by simp [spareOf] at e)⟩
  rw [hm] at hv
  exact hrel.sl_of hi hb hr hn h1 h2 hv
theorem B.Le.fronts {l j : List A} : B.Le (.cells l) (.cells (l ++ j)) := ⟨fun φ Z w b hb => by
    obtain ⟨c, T, h1, h2, h3⟩ := hb
    rw [List.length_append] at h2 h3
    refine ⟨c, T, h1, by omega, fun k hk => ?_⟩
    have h4 := h3 k (by omega)
    rw [show (l ++ j).getD k .un = l.getD k .un by simp [List.getD_eq_getElem?_getD, List.getElem?_append_left hk]] at h4
    exact h4, fun k v p hp => by
    by_cases hk : k < l.length
    · show spareOf ((l ++ j).getD k .un) v = some p
      rw [show (l ++ j).getD k .un = l.getD k .un by simp [List.getD_eq_getElem?_getD, List.getElem?_append_left hk]]; exact hp
    · have : cellOf (.cells l) k = .un := by simp [cellOf, List.getD_eq_getElem?_getD, List.getElem?_eq_none (show l.length ≤ k by omega)]
      rw [this] at hp; simp [spareOf] at hp⟩
theorem setSeg_end {l v : List A} {j : Nat} (h : v.length ≤ j) : setSeg (l ++ List.replicate j .un) l.length v = l ++ v ++ List.replicate (j - v.length) .un := by
  unfold setSeg
  rw [List.take_left, ← List.drop_drop, List.drop_left, List.drop_replicate, List.append_assoc]
theorem B.Le.cells {l m : List A} (h : LeL l m) : B.Le (.cells l) (.cells m) := ⟨fun φ Z w b hb => by
    obtain ⟨c, T, h1, h2, h3⟩ := hb
    refine ⟨c, T, h1, by rw [h.len]; exact h2, fun j hj => ?_⟩
    obtain ⟨k1, k2⟩ := h3 j (by rw [← h.len]; exact hj)
    exact ⟨(h.get j).vr _ _ _ _ k1, k2⟩, fun j v p hp => (h.get j).own v p hp⟩
end
end Go.AL

namespace Go.AL
open Go Go.RowKit
section
variable {α : Type} {c : α → List A} {sz : Nat}
theorem flat_down (hd : ∀ a, (c a).map A.down = c a) (l : List α) : (l.map c).flatten.map A.down = (l.map c).flatten := by
  rw [List.map_flatten, List.map_map]
  congr 1
  exact List.map_congr_left fun a _ => hd a
theorem rows_set (hc : ∀ a, (c a).length = sz) (hd : ∀ a, (c a).map A.down = c a) {l : List α} {k : Nat} (hk : k < l.length) (a : α) : setSeg ((l.map c).flatten.map A.down) (0 + k * sz) (c a) = ((l.set k a).map c).flatten := by
  rw [flat_down hd, Nat.zero_add]
  have e : l = l.take k ++ (l[k] :: l.drop (k + 1)) := by rw [← List.drop_eq_getElem_cons hk, List.take_append_drop]
  have e2 : l.set k a = l.take k ++ (a :: l.drop (k + 1)) := by rw [List.set_eq_take_append_cons_drop, if_pos hk]
  have h1 : ((l.take k).map c).flatten.length = k * sz := by
    rw [flat_len (sz := sz) fun y hy => by obtain ⟨b, _, rfl⟩ := List.mem_map.1 hy; exact hc b, List.length_map, List.length_take, Nat.min_eq_left (by omega)]
  have e3 : (l.map c).flatten = ((l.take k).map c).flatten ++ (c l[k] ++ ((l.drop (k + 1)).map c).flatten) := by
    conv => lhs; rw [e]
    rw [List.map_append, List.flatten_append, List.map_cons, List.flatten_cons]
  rw [e3, e2]
  unfold setSeg
  rw [← h1, List.take_left]
  have e4 : List.drop (((l.take k).map c).flatten.length + (c a).length) (((l.take k).map c).flatten ++ (c l[k] ++ ((l.drop (k + 1)).map c).flatten)) = ((l.drop (k + 1)).map c).flatten := by
    rw [hc, ← hc l[k], ← List.drop_drop, List.drop_left, List.drop_left]
  rw [e4, List.map_append, List.flatten_append, List.map_cons, List.flatten_cons]
end
end Go.AL

namespace Go.AL
open Go Go.RowKit
section
variable {P : Program} {T : Tab} {S : Slots} {H : Hp}
theorem OpX.of_run {op : Op} {ty : TypeId} {v : A} (hd : ∀ c, op ≠ .defer c) (hsp : ∀ u, spareOf v u = none)
    (h : ∀ S' H', (∀ t, t ∈ opTmps op → S' t = S t) → ∀ φ Z a w dst pos aft gd, Sees φ Z S' H' a w → ∃ u w' Z', (execOp a.eval ⟨dst, op, ty, pos, aft, gd⟩).run P w = .ok (.value u) w' ∧ More w w' Z Z' ∧ VR φ Z' w' v u) : OpX P S H op ty v := by
  intro S' H' h1 _ r φ Z a w o ho hty hs next Q hn
  obtain ⟨dst, op', ty', pos, aft, gd⟩ := o
  simp only at ho hty
  subst ho; subst hty
  obtain ⟨u, w', Z', hr, m, hv⟩ := h S' H' h1 φ Z a w dst pos aft gd hs
  exact wp_run hd hr (hn u w' Z' m hv fun b e he => by rw [hsp] at he; cases he)
theorem OpX.of_same {op : Op} {ty : TypeId} {v : A} (hd : ∀ c, op ≠ .defer c) (hsp : ∀ u, spareOf v u = none)
    (h : ∀ S' H', (∀ t, t ∈ opTmps op → S' t = S t) → ∀ φ Z a w dst pos aft gd, Sees φ Z S' H' a w → ∃ u, (execOp a.eval ⟨dst, op, ty, pos, aft, gd⟩).run P w = .ok (.value u) w ∧ VR φ Z w v u) : OpX P S H op ty v :=
  .of_run hd hsp fun S' H' h1 φ Z a w dst pos aft gd hs => by
    obtain ⟨u, h2, h3⟩ := h S' H' h1 φ Z a w dst pos aft gd hs
    exact ⟨u, w, Z, h2, ⟨.refl w, fun _ _ h => h, fun _ _ h _ => h, fun b o hb hle => by obtain ⟨v, hv⟩ := hs.zok b o hb; have := lt_of_cell hv; omega⟩, h3⟩
theorem und_str (hT : T.Ok P) {t : Nat} (h : T.ty t = .str) : P.underlying t = some .string := by have := hT.und t; rw [h] at this; exact this
theorem und_num (hT : T.Ok P) {t : Nat} {k : IntKind} (h : T.ty t = .num k) : P.underlying t = some (.int k) := by have := hT.und t; rw [h] at this; exact this
theorem OpX.strLen (hT : T.Ok P) {t ty : Nat} {x : Operand} {b : ByteArray} (ht : T.ty t = .str) (hx : rd S x = .s (.string b)) :
    OpX P S H (.call { callee := .builtin .len, args := #[x], argTypes := #[t] }) ty (.int b.size) :=
  .of_same (fun c => by simp) (fun u => by simp [spareOf]) fun S' H' h1 φ Z a w dst pos aft gd hs => by
    have hx' : rd S' x = .s (.string b) := by rw [← hx]; exact rd_congr fun t e => h1 t (mem_opTmps (e ▸ by simp [Op.operands, Call.operands]))
    have e0 : a.eval x = .string b := inv_s (hx' ▸ hs.rd x)
    exact ⟨.int .i64 b.size, by simp [ex_builtin, bi_len, e0, Builtin.len_, underlying, und_str hT ht, goInt], .s _⟩
theorem OpX.strAt (hT : T.Ok P) {t ty : Nat} {x ix : Operand} {b : ByteArray} {k : IntKind} {i : Int} (ht : T.ty t = .str) (hx : rd S x = .s (.string b)) (hi : rd S ix = .s (.int k i)) (h0 : 0 ≤ i) (h2 : i < b.size) :
    OpX P S H (.index t x ix) ty (.s (.int .u8 (b[i.toNat]'(by omega)).toNat)) :=
  .of_same (fun c => by simp) (fun u => by simp [spareOf]) fun S' H' h1 φ Z a w dst pos aft gd hs => by
    have hx' : rd S' x = .s (.string b) := by rw [← hx]; exact rd_congr fun t e => h1 t (mem_opTmps (e ▸ by simp [Op.operands]))
    have hi' : rd S' ix = .s (.int k i) := by rw [← hi]; exact rd_congr fun t e => h1 t (mem_opTmps (e ▸ by simp [Op.operands]))
    have e0 : a.eval x = .string b := inv_s (hx' ▸ hs.rd x)
    have e1 : a.eval ix = .int k i := inv_s (hi' ▸ hs.rd ix)
    refine ⟨.int .u8 (b[i.toNat]'(by omega)).toNat, ?_, .s _⟩
    have hr := run_index_string (P := P) w t b k i (und_str hT ht)
    rw [dif_pos ⟨h0, h2⟩] at hr
    rw [ex_index, e0, e1, Sem.run_bind, hr]; rfl
theorem OpX.strAtD (hT : T.Ok P) {t ty : Nat} {x ix : Operand} {b : ByteArray} {k : IntKind} {i : Int} (ht : T.ty t = .str) (hx : rd S x = .s (.string b)) (hi : rd S ix = .s (.int k i)) (h0 : 0 ≤ i) (h2 : i < b.size) :
    OpX P S H (.index t x ix) ty (.s (.int .u8 (b.data.toList.getD i.toNat 0).toNat)) := by
  have h3 : i.toNat < b.data.toList.length := by rw [Array.length_toList]; show i.toNat < b.size; omega
  have e : (b.data.toList.getD i.toNat 0) = b[i.toNat]'(by omega) := by
    rw [List.getD_eq_getElem?_getD, List.getElem?_eq_getElem h3, Option.getD_some, Array.getElem_toList]; rfl
  rw [e]; exact OpX.strAt hT ht hx hi h0 h2
theorem OpX.conv {src dst' ty : Nat} {x : Operand} {j k : IntKind} {n : Int} {d0 : TypeDesc} (hs0 : P.underlying src = some d0) (hd0 : P.underlying dst' = some (.int k)) (hx : rd S x = .s (.int j n)) {m : Int} (hw : k.wrap n = m) :
    OpX P S H (.convert src dst' x) ty (.s (.int k m)) :=
  .of_same (fun c => by simp) (fun u => by simp [spareOf]) fun S' H' h1 φ Z a w dst pos aft gd hs => by
    have hx' : rd S' x = .s (.int j n) := by rw [← hx]; exact rd_congr fun t e => h1 t (mem_opTmps (e ▸ by simp [Op.operands]))
    have e0 : a.eval x = .int j n := inv_s (hx' ▸ hs.rd x)
    subst hw
    refine ⟨.int k (k.wrap n), ?_, .s _⟩
    show (do pure (.value (← convert src dst' (a.eval x))) : Sem Next).run P w = _
    rw [e0]
    simp [convert, run_underlying hs0, run_underlying hd0, Conv.intToInt]
theorem OpX.bytes (hT : T.Ok P) {src dst' e ty : Nat} {x : Operand} {b : ByteArray} (hs0 : T.ty src = .str) (hd0 : T.ty dst' = .slice e) (he : T.ty e = .num .u8) (hx : rd S x = .s (.string b)) (h0 : 0 < b.size) (hm : b.size ≤ maxLen) :
    OpX P S H (.convert src dst' x) ty (.sl false .any (b.data.toList.map fun c => [A.s (.int .u8 c.toNat)])) :=
  .of_run (fun c => by simp) (fun u => by simp [spareOf]) fun S' H' h1 φ Z a w dst pos aft gd hs => by
    have hx' : rd S' x = .s (.string b) := by rw [← hx]; exact rd_congr fun t e => h1 t (mem_opTmps (e ▸ by simp [Op.operands]))
    have e0 : a.eval x = .string b := inv_s (hx' ▸ hs.rd x)
    have hr := Lib.run_convert_string_bytes (P := P) w src dst' e b (und_str hT hs0) (und_slice hT hd0) (und_num hT he)
    have hge := grownCap_ge w b.size 0 e
    have hcm := grownCap_le_maxLen w b.size 0 e hm
    have hlen : (b.data.toList.map fun c => [A.s (.int .u8 c.toNat)]).length = b.size := by simp
    refine ⟨.slice (some ⟨w.heap.size, 0, none⟩) b.size (grownCap w b.size 0 e), Lib.bytesWorld w e b, fun b' o => Z b' o ∨ (b' = w.heap.size ∧ o < b.size), ?_, ⟨⟨by rw [Lib.bytesWorld_size]; omega, Lib.bytesWorld_at_old w e b, ?_, ?_, ?_⟩, fun _ _ h => .inl h, fun b' o h hb => ?_, fun b' o h hb => ?_⟩, ?_⟩
    · show (do pure (.value (← convert src dst' (a.eval x))) : Sem Next).run P w = _
      rw [e0, Sem.run_bind, hr]; rfl
    · simp [Lib.bytesWorld, World.freeze]; rfl
    · simp [Lib.bytesWorld, World.freeze]; try rfl
    · simp [Lib.bytesWorld, World.freeze]; rfl
    · rcases h with h | ⟨rfl, _⟩
      · exact h
      · omega
    · rcases h with h | ⟨rfl, ho⟩
      · obtain ⟨u, hu⟩ := hs.zok b' o h; have := lt_of_cell hu; omega
      · exact ⟨_, Lib.bytesWorld_cell w e b o ho⟩
    · have key : VR φ (fun b' o => Z b' o ∨ (b' = w.heap.size ∧ o < b.size)) (Lib.bytesWorld w e b) (.sl false .any (b.data.toList.map fun c => [A.s (.int .u8 c.toNat)])) (.slice (some ⟨w.heap.size, 0, none⟩) (b.data.toList.map fun c => [A.s (.int .u8 c.toNat)]).length (grownCap w b.size 0 e)) := by
        refine .sl .any _ w.heap.size 0 1 _ (fun i j => .int .u8 (b.data.toList.getD i 0).toNat) (by rw [hlen]; exact hge) (fun h => by cases h) hcm (fun z hz => ?_) (fun i j hi hj => .inr ⟨rfl, by rw [hlen] at hi; omega⟩) (fun i j hi hj => ?_) (fun i j _ _ => rfl) (fun i j hi hj => ?_)
        · obtain ⟨c, _, rfl⟩ := List.mem_map.1 hz; rfl
        · obtain rfl : j = 0 := by omega
          rw [hlen] at hi
          rw [show 0 + i * 1 + 0 = i by omega]
          exact Lib.bytesWorld_cell w e b i hi
        · obtain rfl : j = 0 := by omega
          rw [hlen] at hi
          have hi' : i < b.data.toList.length := by rw [Array.length_toList]; exact hi
          rw [show ((b.data.toList.map fun c => [A.s (.int .u8 c.toNat)]).getD i []).getD 0 .un = .s (.int .u8 (b.data.toList.getD i 0).toNat) by
            simp only [List.getD_eq_getElem?_getD, List.getElem?_map, List.getElem?_eq_getElem hi', Option.map_some, Option.getD_some]; rfl]
          exact .s _
      rw [hlen] at key
      exact key
theorem OpX.cmpStr {ty g : Nat} {fn : Func} {f x y : Operand} {at' : Array TypeId} {b c : ByteArray} (hf : P.funcs[g]? = some fn) (hname : (fn.name == "runtime.NumGoroutine") = false) (hb : fn.body.isNone = true) (hn : Extern.findNext fn = none) (he : Extern.find fn = some Extern.BytealgCompare.compare)
    (hfn : rd S f = .fn (.func g) [] []) (hx : rd S x = .s (.string b)) (hy : rd S y = .s (.string c)) :
    OpX P S H (.call { callee := .value f, args := #[x, y], argTypes := at' }) ty (.int (Extern.BytealgCompare.cmp b c)) :=
  .of_same (fun c => by simp) (fun u => by simp [spareOf]) fun S' H' h1 φ Z a w dst pos aft gd hs => by
    have hf' : rd S' f = .fn (.func g) [] [] := by rw [← hfn]; exact rd_congr fun t e => h1 t (mem_opTmps (e ▸ by simp [Op.operands, Call.operands]))
    have hx' : rd S' x = .s (.string b) := by rw [← hx]; exact rd_congr fun t e => h1 t (mem_opTmps (e ▸ by simp [Op.operands, Call.operands]))
    have hy' : rd S' y = .s (.string c) := by rw [← hy]; exact rd_congr fun t e => h1 t (mem_opTmps (e ▸ by simp [Op.operands, Call.operands]))
    have e1 : a.eval x = .string b := inv_s (hx' ▸ hs.rd x)
    have e2 : a.eval y = .string c := inv_s (hy' ▸ hs.rd y)
    obtain ⟨fv, cv, e0, k1, k2⟩ := inv_fn (hf' ▸ hs.rd f)
    have z1 : fv = #[] := Array.eq_empty_of_size_eq_zero k1.1
    have z2 : cv = #[] := Array.eq_empty_of_size_eq_zero k2.1
    subst z1; subst z2
    refine ⟨.int .i64 (Extern.BytealgCompare.cmp b c), ?_, .s _⟩
    simp only [ex_call, resolve, e0, Deferred.ofValue, invoke, Sem.run_bind, Sem.run_pure, Result.andThen_ok]
    rw [run_callFunc_extern hf hname hb hn he]
    have e3 : (#[] ++ (#[x, y] : Array Operand).map a.eval ++ #[] : Array Value) = #[.string b, .string c] := by simp [e1, e2]
    rw [e3]; rfl
end
end Go.AL

namespace Go.AL
open Go Go.RowKit
theorem cutHD_all (H : Hp) : cutHD (fun _ => true) H = H := by funext id; simp [cutHD]
theorem glueHD_all (H' H : Hp) : glueHD (fun _ => true) H' H = H' := by funext id; simp [glueHD]
theorem Under.nmsA {n : Nat} {D : Nat → Prop} (hD : ∀ i, i < n → D i) {a : A} (h : Under n a) : Nms D a := by
  induction h with
  | un => exact .un
  | s v => exact .s v
  | sl nil cap es _ ih => exact .sl _ _ _ ih
  | pt cs _ ih => exact .pt _ ih
  | fn f fst cap _ _ ih1 ih2 => exact .fn _ _ _ ih1 ih2
  | ref id off h => exact .ref _ _ (hD _ h)
  | ms id off k h => exact .ms _ _ _ (hD _ h)
  | gs id k cap h => exact .gs _ _ _ (hD _ h)
  | mp id h => exact .mp _ (hD _ h)
  | yl id h => exact .yl _ (hD _ h)
  | agg cs _ ih => exact .agg _ ih
  | tup cs _ ih => exact .tup _ ih
  | cnd g a _ ih => exact .cnd _ _ ih
theorem UnderB.nmsA {n : Nat} {D : Nat → Prop} (hD : ∀ i, i < n → D i) {b : B} (h : UnderB n b) : NmsB D b := by
  cases h with
  | cells cs h => exact .cells _ fun x hx => (h x hx).nmsA hD
  | map kvs h => exact .map _ fun p hp => ⟨(h p hp).1.nmsA hD, (h p hp).2.nmsA hD⟩
  | lp st pend S nt ps asg body h => exact .lp _ _ _ _ _ _ _ fun t => (h t).nmsA hD
section
variable {X : Ctx} {s : St} {Q : Exit → St → Prop}
theorem Aw.iterX {ξ : Type} {g : Operand} {ps : Array Tmp} {asg body : Code} {f : Nat} {fst cap : List A} (hf : rd s.S g = .fn (.func f) fst cap) (he : Enters X.P f) (L : List (List A)) (I : ξ → Nat → Hp → Prop) (cn : Nat → Nat)
    (hps : (ps.toList.all fun t => Nat.blt t X.nt) = true) (hlen : ∀ as ∈ L, as.length = ps.size) (dom : ∀ x k H, I x k H → H s.c = none) (low : ∀ x k H, I x k H → Low (cn k) H) (hSu : ∀ t, Under s.c (s.S t)) (hcnl : ∀ k, s.c + 1 ≤ cn k)
    (iterf : ∀ lpB : B, UnderB s.c lpB → (∀ x, IterD X.P (fun _ => true) s.c (fun t => (s.S t).down) X.nt ps asg body L (fun k H => ∃ H0, I x k H0 ∧ H = updH H0 s.c (some lpB)) cn) →
      SCall X.P f ((fst ++ [.yl s.c]) ++ cap) (updH s.H s.c (some lpB)) (s.c + 1) fun v H' c' => cn L.length ≤ c' ∧ ∃ x, Sub H' fun H => ∃ H0, I x L.length H0 ∧ H = updH H0 s.c (some lpB))
    (round : ∀ (lpB : LoopState → Option Code → B), (∀ st p, UnderB s.c (lpB st p)) → ∀ x k as, L[k]? = some as → ∀ H, I x k H → ∀ (E : En) (b : Nat), (∀ i, cn k ≤ i → E.φ0 i = none) →
      Aw (E.cx X.P X.nt) (some b) asg (fun e s1 => e = .normal ∧ s1.H s.c = some (lpB .ready none) ∧ Aw (E.cx X.P X.nt) (some b) body (RQD lpB s.c (cn (k + 1)) (I x (k + 1))) { s1 with H := updH s1.H s.c (some (lpB .busy none)) })
        ⟨setPs (fun t => (s.S t).down.down) ps.toList as, updH H s.c (some (lpB .ready none)), cn k⟩)
    (k1 : ∀ x H c', cn L.length ≤ c' → Sub H (I x L.length) → Q .normal ⟨s.S, H, c'⟩) : Aw X none (.rangeFunc g ps asg body) Q s := by
  let lpB : LoopState → Option Code → B := fun st p => .lp st p (fun t => (s.S t).down) X.nt ps asg body
  have ulq : ∀ st p, UnderB s.c (lpB st p) := fun st p => .lp _ _ _ _ _ _ _ fun t => (hSu t).down
  let I' : ξ → Nat → Hp → Prop := fun x k H => ∃ H0, I x k H0 ∧ H = updH H0 s.c (some (lpB .ready none))
  have sub_ne : ∀ {H : Hp} {J : Hp → Prop} {b : B}, Sub H J → Sub (updH H s.c (some b)) fun H => ∃ H0, J H0 ∧ H = updH H0 s.c (some b) := by
    rintro H J b ⟨H0, h1, h2⟩
    refine ⟨_, ⟨H0, h1, rfl⟩, fun i bx hb => ?_⟩
    rw [updH_apply] at hb ⊢
    split
    · rename_i e; rw [if_pos e] at hb; exact hb
    · rename_i e; rw [if_neg e] at hb; exact h2 i bx hb
  have lowI : ∀ x k H, I' x k H → Low (cn k) H := by
    rintro x k H ⟨H0, h0, rfl⟩ id bx hb
    have hk := hcnl k
    rw [updH_apply] at hb
    split at hb
    · rename_i e; cases hb; exact ⟨by omega, (ulq _ _).mono (by omega)⟩
    · exact low x k H0 h0 id bx hb
  have it : ∀ x, IterD X.P (fun _ => true) s.c (fun t => (s.S t).down) X.nt ps asg body L (I' x) cn := fun x => {
    pok := fun t ht => by have := List.all_eq_true.1 hps t ht; simpa [Nat.blt_eq] using this
    len := hlen
    lp := by
      rintro k H ⟨H0, _, rfl⟩
      exact ⟨none, updH_same _ _ _⟩
    dom := fun k H h id bx hb => ⟨rfl, (lowI x k H h id bx hb).2.nmsA fun _ _ => rfl⟩
    low := lowI x
    round := by
      rintro k as ha H ⟨H0, h0, rfl⟩ E b hE
      refine (round lpB ulq x k as ha H0 h0 E b hE).mono ?_
      rintro e s1 ⟨rfl, h1, h2⟩
      refine ⟨rfl, none, _, _, _, _, _, h1, h2.mono fun e2 s2 h3 => ?_⟩
      cases e2 with
      | normal =>
        obtain ⟨⟨st, p, hl⟩, hc, hsub⟩ := h3
        exact ⟨st, p, _, _, _, _, _, hl, rfl, hc, sub_ne hsub⟩
      | ret => exact h3.elim
      | exit j => exact h3.elim
      | goto t => exact h3.elim
      | panic ch => exact h3.elim
      | outgrown => exact h3.elim }
  refine Aw.rangeFunc hf he (iterf (lpB .ready none) (ulq _ _) it) ?_
  rintro v H' c' ⟨hc, x, hs⟩
  obtain ⟨H1, ⟨H0, h0, rfl⟩, hs⟩ := hs
  refine ⟨_, none, _, _, _, _, _, hs s.c _ (updH_same _ _ _), by decide, k1 x _ _ hc ⟨H0, h0, fun i bx hb => ?_⟩⟩
  have hne : i ≠ s.c := fun e => by subst e; rw [dom _ _ _ h0] at hb; cases hb
  rw [updH_other _ _ hne]
  exact hs i bx (by rw [updH_other _ _ hne]; exact hb)
end
section
variable {P : Program} {T : Tab} {S : Slots} {H : Hp}
theorem OpX.geqN {t ty yt : TypeId} {x y : Operand} {k : IntKind} {a b : Int} (hx : rd S x = .s (.int k a)) (hy : rd S y = .s (.int k b)) :
    OpX P S H (.binOp .geq t x y yt) ty (.bool (decide (a ≥ b))) :=
  .of_same (fun c => by simp) (fun u => by simp [spareOf]) fun S' H' h1 φ Z c w dst pos aft gd hs => by
    have hx' : rd S' x = .s (.int k a) := by rw [← hx]; exact rd_congr fun t e => h1 t (mem_opTmps (e ▸ by simp [Op.operands]))
    have hy' : rd S' y = .s (.int k b) := by rw [← hy]; exact rd_congr fun t e => h1 t (mem_opTmps (e ▸ by simp [Op.operands]))
    have e0 : c.eval x = .int k a := inv_s (hx' ▸ hs.rd x)
    have e1 : c.eval y = .int k b := inv_s (hy' ▸ hs.rd y)
    refine ⟨.bool (decide (a ≥ b)), ?_, .s _⟩
    rw [ex_bin, e0, e1, binOp_geq]
    simp [eqGuard]
theorem OpX.lssN {t ty yt : TypeId} {x y : Operand} {k : IntKind} {a b : Int} {r : Bool} (hx : rd S x = .s (.int k a)) (hy : rd S y = .s (.int k b)) (hr : decide (a < b) = r) :
    OpX P S H (.binOp .lss t x y yt) ty (.bool r) :=
  .of_same (fun c => by simp) (fun u => by simp [spareOf]) fun S' H' h1 φ Z c w dst pos aft gd hs => by
    have hx' : rd S' x = .s (.int k a) := by rw [← hx]; exact rd_congr fun t e => h1 t (mem_opTmps (e ▸ by simp [Op.operands]))
    have hy' : rd S' y = .s (.int k b) := by rw [← hy]; exact rd_congr fun t e => h1 t (mem_opTmps (e ▸ by simp [Op.operands]))
    have e0 : c.eval x = .int k a := inv_s (hx' ▸ hs.rd x)
    have e1 : c.eval y = .int k b := inv_s (hy' ▸ hs.rd y)
    subst hr
    refine ⟨.bool (decide (a < b)), ?_, .s _⟩
    rw [ex_bin, e0, e1, binOp_lss]
    simp [eqGuard]
end
end Go.AL

namespace Go.AL.Sh
open Go Go.AL Go.AL.Q
def chOk (c : UInt8) : Bool := !(cond (cond (!wi c.toNat 97 122) (!wi c.toNat 48 57) false) ((c.toNat : Int) != 45) false)
def nameB (b : ByteArray) : Bool := cond (wi b.size 1 16) (cond (decide (((b.data.toList.getD 0 0).toNat : Int) < 97)) false (b.data.toList.all chOk)) false
structure Stk where
  n : ByteArray
  w : Int
  deriving DecidableEq
def Stk.c (s : Stk) : List A := [.s (.string s.n), .int s.w]
theorem Stk.free (s : Stk) : ∀ x ∈ s.c, Free x := allC (.s _) (all1 (.s _))
def sameN (a b : Stk) : Bool := a.n.toList == b.n.toList
def idxS (p : Stk → Bool) : Nat → List Stk → Int
  | _, [] => -1
  | k, n :: l => if p n then (k : Int) else idxS p (k + 1) l
theorem idxS_any {p : Stk → Bool} : ∀ (l : List Stk) (k : Nat), decide (idxS p k l ≥ 0) = l.any p
  | [], _ => rfl
  | n :: l, k => by
    rw [idxS, List.any_cons, ← idxS_any l (k + 1)]
    cases p n <;> simp
def stk0 : Stk := ⟨.empty, 0⟩
def stkOk (l : List Stk) (k : Nat) : Bool := cond (cond (nameB (l.getD k stk0).n) (wi (l.getD k stk0).w 0 1000) false) (!((l.take k).any fun o => sameN o (l.getD k stk0))) false
def areK (l : List Stk) (k : Nat) : Bool := cond (decide ((l.length : Int) ≤ 10)) ((List.range k).all (stkOk l)) false
def areB (l : List Stk) : Bool := areK l l.length
theorem areK_step (l : List Stk) (k : Nat) : areK l (k + 1) = cond (areK l k) (stkOk l k) false := by
  unfold areK
  rw [List.range_succ, List.all_append]
  cases decide ((l.length : Int) ≤ 10) <;> cases (List.range k).all (stkOk l) <;> simp
def wts (l : List Stk) : List Int := l.map Stk.w
theorem stk_at {l : List Stk} {k : Nat} (h : k < l.length) : (l.map Stk.c)[k]? = some (l.getD k stk0).c := by
  rw [List.getElem?_map, List.getElem?_eq_getElem h, List.getD_eq_getElem?_getD, List.getElem?_eq_getElem h]; rfl
structure Shr where
  n : ByteArray
  w : Int
  gets : Int
  rest : Int
  place : Int
  deriving DecidableEq
def Shr.c (s : Shr) : List A := [.s (.string s.n), .int s.w, .int s.gets, .int s.rest, .int s.place]
theorem Shr.free (s : Shr) : ∀ x ∈ s.c, Free x := allC (.s _) (allC (.s _) (allC (.s _) (allC (.s _) (all1 (.s _)))))
def cmpI (a b : Int) : Int := if a < b then -1 else if a > b then 1 else 0
def orI (a b : Int) : Int := if a = 0 then b else a
def cmpSh (a b : Shr) : Int := orI (cmpI b.rest a.rest) (Extern.BytealgCompare.cmp a.n b.n)
end Go.AL.Sh

namespace Go.AL.Sh
open Go Go.AL Go.AL.Q
def shr0 : Shr := ⟨.empty, 0, 0, 0, 0⟩
def swp (l : List Shr) (j : Nat) : List Shr := (l.set (j + 1) (l.getD j shr0)).set j (l.getD (j + 1) shr0)
def insI : Nat → List Shr → List Shr
  | 0, l => l
  | j + 1, l => if cmpSh (l.getD (j + 1) shr0) (l.getD j shr0) < 0 then insI j (swp l j) else l
def sortF : Nat → Nat → List Shr → List Shr
  | 0, _, l => l
  | f + 1, i, l => sortF f (i + 1) (insI i l)
def sortS (l : List Shr) : List Shr := sortF (l.length - 1) 1 l
theorem swp_len (l : List Shr) (j : Nat) : (swp l j).length = l.length := by simp [swp]
theorem insI_len : ∀ (j : Nat) (l : List Shr), (insI j l).length = l.length
  | 0, l => rfl
  | j + 1, l => by
    unfold insI
    split
    · rw [insI_len j, swp_len]
    · rfl
theorem sortF_len : ∀ (f i : Nat) (l : List Shr), (sortF f i l).length = l.length
  | 0, _, _ => rfl
  | f + 1, i, l => by rw [sortF, sortF_len f, insI_len]
def shB (l : List Shr) : B := .cells (l.map Shr.c).flatten
theorem shr_get {l : List Shr} {k : Nat} (hk : k < l.length) : l.getD k shr0 = l[k] := by rw [List.getD_eq_getElem?_getD, List.getElem?_eq_getElem hk]; rfl
theorem shr_at {l : List Shr} {k : Nat} (hk : k < l.length) : (((l.map Shr.c).flatten.drop (0 + k * 5)).take 5).map A.down = (l.getD k shr0).c := by
  rw [shr_get hk, Nat.zero_add]
  have e : l = l.take k ++ (l[k] :: l.drop (k + 1)) := by rw [← List.drop_eq_getElem_cons hk, List.take_append_drop]
  have h1 : ((l.take k).map Shr.c).flatten.length = k * 5 := by
    rw [flat_len (sz := 5) fun y hy => by obtain ⟨b, _, rfl⟩ := List.mem_map.1 hy; rfl, List.length_map, List.length_take, Nat.min_eq_left (by omega)]
  have e3 : (l.map Shr.c).flatten = ((l.take k).map Shr.c).flatten ++ ((l[k]).c ++ ((l.drop (k + 1)).map Shr.c).flatten) := by
    conv => lhs; rw [e]
    rw [List.map_append, List.flatten_append, List.map_cons, List.flatten_cons]
  rw [e3, ← h1, List.drop_left, List.take_append_of_le_length (by show 5 ≤ 5; omega)]
  rfl
theorem shr_set {l : List Shr} {k : Nat} (hk : k < l.length) (s : Shr) : setSeg (l.map Shr.c).flatten (0 + k * 5) s.c = ((l.set k s).map Shr.c).flatten := by
  have h := rows_set (c := Shr.c) (sz := 5) (fun _ => rfl) (fun _ => rfl) hk s
  rwa [flat_down (fun _ => rfl)] at h
theorem shr_len (l : List Shr) : (l.map Shr.c).flatten.length = l.length * 5 := by
  rw [flat_len (sz := 5) fun y hy => by obtain ⟨b, _, rfl⟩ := List.mem_map.1 hy; rfl, List.length_map]
end Go.AL.Sh

namespace Go.AL.Sh
open Go Go.AL Go.AL.Q
theorem swp_perm {l : List Shr} {j : Nat} (h : j + 1 < l.length) : (swp l j).Perm l := by
  unfold swp
  rw [shr_get (show j < l.length by omega), shr_get h]
  exact List.set_set_perm h (by omega)
theorem insI_perm : ∀ (j : Nat) (l : List Shr), j < l.length → (insI j l).Perm l
  | 0, l, _ => .refl _
  | j + 1, l, h => by
    unfold insI
    split
    · exact (insI_perm j (swp l j) (by rw [swp_len]; omega)).trans (swp_perm h)
    · exact .refl _
theorem sortF_perm : ∀ (f i : Nat) (l : List Shr), f + i ≤ l.length → (sortF f i l).Perm l
  | 0, _, _, _ => .refl _
  | f + 1, i, l, h => by
    rw [sortF]
    exact (sortF_perm f (i + 1) (insI i l) (by rw [insI_len]; omega)).trans (insI_perm i l (by omega))
theorem sortS_perm (l : List Shr) : (sortS l).Perm l := by
  cases l with
  | nil => exact .refl _
  | cons a l => exact sortF_perm _ _ _ (by simp)
theorem sortS_len (l : List Shr) : (sortS l).length = l.length := sortF_len _ _ _
end Go.AL.Sh

namespace Go.AL.Sh
open Go Go.AL Go.AL.Q
def shrOf (all by' : Int) (l : List Stk) (k : Nat) : Shr := ⟨(l.getD k stk0).n, (l.getD k stk0).w, (all * (l.getD k stk0).w).tdiv by', (all * (l.getD k stk0).w).tmod by', k⟩
def shrs (all by' : Int) (l : List Stk) : List Shr := (List.range l.length).map (shrOf all by' l)
def bump (o : List Int) (s : Shr) : List Int := o.set s.place.toNat (o.getD s.place.toNat 0 + 1)
def getsL (all by' : Int) (l : List Stk) : List Int := (shrs all by' l).map Shr.gets
def leftI (all by' : Int) (l : List Stk) : Int := all - (getsL all by' l).sum
def lucky (all by' : Int) (l : List Stk) : List Shr := (sortS (shrs all by' l)).take (leftI all by' l).toNat
def divB (all by' : Int) (l : List Stk) : List Int := (lucky all by' l).foldl bump (getsL all by' l)
def divF (all : Int) (l : List Stk) : List Int := divB all (wts l).sum l
theorem shrs_len (all by' : Int) (l : List Stk) : (shrs all by' l).length = l.length := by simp [shrs]
theorem getsL_len (all by' : Int) (l : List Stk) : (getsL all by' l).length = l.length := by simp [getsL, shrs_len]
theorem shrs_at {all by' : Int} {l : List Stk} {k : Nat} (h : k < l.length) : (shrs all by' l)[k]? = some (shrOf all by' l k) := by simp [shrs, h]
theorem shrs_take {all by' : Int} {l : List Stk} {k : Nat} (h : k < l.length) : (shrs all by' l).take (k + 1) = (shrs all by' l).take k ++ [shrOf all by' l k] := by
  have h' : k < (shrs all by' l).length := by rw [shrs_len]; exact h
  rw [List.take_succ_eq_append_getElem h']
  have := shrs_at (all := all) (by' := by') h
  rw [List.getElem?_eq_getElem h'] at this
  rw [Option.some.inj this]
theorem bump_len (o : List Int) (s : Shr) : (bump o s).length = o.length := by simp [bump]
theorem bumps_len : ∀ (L : List Shr) (o : List Int), (L.foldl bump o).length = o.length
  | [], _ => rfl
  | s :: L, o => by rw [List.foldl_cons, bumps_len L, bump_len]
theorem divB_len (all by' : Int) (l : List Stk) : (divB all by' l).length = l.length := by rw [divB, bumps_len, getsL_len]
theorem bump_bd {o : List Int} {s : Shr} {m : Int} (h : ∀ x ∈ o, 0 ≤ x ∧ x ≤ m) (hm : 0 ≤ m) : ∀ x ∈ bump o s, 0 ≤ x ∧ x ≤ m + 1 := fun x hx => by
  have hg : 0 ≤ o.getD s.place.toNat 0 ∧ o.getD s.place.toNat 0 ≤ m := by
    by_cases hl : s.place.toNat < o.length
    · rw [List.getD_eq_getElem?_getD, List.getElem?_eq_getElem hl]; exact h _ (List.getElem_mem _)
    · rw [List.getD_eq_getElem?_getD, List.getElem?_eq_none (by omega)]; exact ⟨Int.le_refl _, hm⟩
  rcases List.mem_or_eq_of_mem_set hx with h1 | h1
  · have := h x h1; omega
  · omega
theorem bumps_bd : ∀ (L : List Shr) {o : List Int} {m : Int}, (∀ x ∈ o, 0 ≤ x ∧ x ≤ m) → 0 ≤ m → ∀ x ∈ L.foldl bump o, 0 ≤ x ∧ x ≤ m + L.length
  | [], o, m, h, _ => fun x hx => by have := h x hx; simpa using this
  | s :: L, o, m, h, hm => fun x hx => by
    have := bumps_bd L (bump_bd (s := s) h hm) (by omega) x hx
    rw [List.length_cons]; push_cast; omega
structure Rights (l : List Stk) : Prop where
  n : l.length ≤ 10
  w : ∀ s ∈ l, 0 ≤ s.w ∧ s.w ≤ 1000
  nm : ∀ s ∈ l, 0 < s.n.size
theorem Rights.at {l : List Stk} (h : Rights l) (k : Nat) : 0 ≤ (l.getD k stk0).w ∧ (l.getD k stk0).w ≤ 1000 := by
  by_cases hl : k < l.length
  · rw [List.getD_eq_getElem?_getD, List.getElem?_eq_getElem hl]; exact h.w _ (List.getElem_mem _)
  · rw [List.getD_eq_getElem?_getD, List.getElem?_eq_none (by omega)]; exact ⟨by decide, by decide⟩
theorem are_rights {l : List Stk} (h : areB l = true) : Rights l := by
  unfold areB areK at h
  have h1 := ac1 h
  have h2 := ac2 h
  rw [List.all_eq_true] at h2
  have key : ∀ s ∈ l, nameB s.n = true ∧ wi s.w 0 1000 = true := fun s hs => by
    obtain ⟨i, hi, rfl⟩ := List.getElem_of_mem hs
    have := h2 i (List.mem_range.2 hi)
    unfold stkOk at this
    have h3 := ac1 this
    have e : l.getD i stk0 = l[i] := by simp [List.getD_eq_getElem?_getD, hi]
    rw [e] at h3
    exact ⟨ac1 h3, ac2 h3⟩
  refine ⟨by have := of_decide_eq_true h1; omega, fun s hs => wi_iff.1 (key s hs).2, fun s hs => ?_⟩
  have := ac1 (key s hs).1
  have := wi_iff.1 this
  omega
theorem wts_bd {l : List Stk} (h : Rights l) : 0 ≤ (wts l).sum ∧ (wts l).sum ≤ 10000 := by
  have h1 := sum_bd (l := wts l) (b := 1000) fun x hx => by
    obtain ⟨s, hs, rfl⟩ := List.mem_map.1 hx
    exact h.w s hs
  have h2 : (wts l).length ≤ 10 := by simpa [wts] using h.n
  omega
theorem tdiv_nn {a b : Int} (ha : 0 ≤ a) : a.tdiv b = a / b := Int.tdiv_eq_ediv_of_nonneg ha
theorem tmod_nn {a b : Int} (ha : 0 ≤ a) : a.tmod b = a % b := Int.tmod_eq_emod_of_nonneg ha
theorem shrOf_bd {all by' : Int} {l : List Stk} (h : Rights l) (h0 : 0 ≤ all) (h1 : all ≤ 10000000) (hb : 0 < by') (k : Nat) :
    0 ≤ all * (l.getD k stk0).w ∧ all * (l.getD k stk0).w ≤ 10000000000 ∧ 0 ≤ (shrOf all by' l k).gets ∧ (shrOf all by' l k).gets ≤ 10000000000 ∧ 0 ≤ (shrOf all by' l k).rest ∧ (shrOf all by' l k).rest < by' ∧ (shrOf all by' l k).gets * by' + (shrOf all by' l k).rest = all * (l.getD k stk0).w := by
  obtain ⟨w0, w1⟩ := h.at k
  have p0 := Int.mul_nonneg h0 w0
  have p1 : all * (l.getD k stk0).w ≤ 10000000 * 1000 := Int.le_trans (Int.mul_le_mul_of_nonneg_left w1 h0) (Int.mul_le_mul_of_nonneg_right h1 (by decide))
  have e1 : (shrOf all by' l k).gets = all * (l.getD k stk0).w / by' := tdiv_nn p0
  have e2 : (shrOf all by' l k).rest = all * (l.getD k stk0).w % by' := tmod_nn p0
  have d0 := Int.ediv_nonneg p0 (Int.le_of_lt hb)
  have d1 := Int.ediv_le_self by' p0
  have m0 := Int.emod_nonneg (all * (l.getD k stk0).w) (show by' ≠ 0 by omega)
  have m1 := Int.emod_lt_of_pos (all * (l.getD k stk0).w) hb
  have dm := Int.mul_ediv_add_emod (all * (l.getD k stk0).w) by'
  refine ⟨p0, by omega, by omega, by omega, by omega, by omega, ?_⟩
  rw [e1, e2, Int.mul_comm (all * (l.getD k stk0).w / by') by']
  exact dm
end Go.AL.Sh

namespace Go.AL.Sh
open Go Go.AL Go.AL.Q
theorem sum_snoc (l : List Int) (x : Int) : (l ++ [x]).sum = l.sum + x := by simp
theorem wts_take {l : List Stk} {k : Nat} (h : k < l.length) : (wts l).take (k + 1) = (wts l).take k ++ [(l.getD k stk0).w] := by
  have h' : k < (wts l).length := by simpa [wts] using h
  rw [List.take_succ_eq_append_getElem h']
  simp [wts, List.getD_eq_getElem?_getD, h]
theorem part_eq {all by' : Int} {l : List Stk} (h : Rights l) (h0 : 0 ≤ all) (h1 : all ≤ 10000000) (hb : 0 < by') : ∀ k, k ≤ l.length →
    (((shrs all by' l).take k).map Shr.gets).sum * by' + (((shrs all by' l).take k).map Shr.rest).sum = all * ((wts l).take k).sum ∧
    0 ≤ (((shrs all by' l).take k).map Shr.rest).sum ∧ (((shrs all by' l).take k).map Shr.rest).sum ≤ (k : Int) * by' - k ∧ 0 ≤ (((shrs all by' l).take k).map Shr.gets).sum
  | 0, _ => by simp
  | k + 1, hk => by
    obtain ⟨i1, i2, i3, i4⟩ := part_eq h h0 h1 hb k (by omega)
    obtain ⟨-, -, g0, -, r0, r1, e⟩ := shrOf_bd h h0 h1 hb k
    rw [shrs_take (show k < l.length by omega), wts_take (show k < l.length by omega), List.map_append, List.map_append, List.map_cons, List.map_nil, List.map_cons, List.map_nil, sum_snoc, sum_snoc, sum_snoc, Int.add_mul, Int.mul_add, ← e]
    have e2 : ((k + 1 : Nat) : Int) * by' = (k : Int) * by' + by' := by push_cast; rw [Int.add_mul, Int.one_mul]
    rw [e2]
    push_cast
    exact ⟨by omega, by omega, by omega, by omega⟩
theorem left_eq {all : Int} {l : List Stk} (h : Rights l) (h0 : 0 ≤ all) (h1 : all ≤ 10000000) (hb : 0 < (wts l).sum) :
    leftI all (wts l).sum l * (wts l).sum = ((shrs all (wts l).sum l).map Shr.rest).sum ∧ 0 ≤ leftI all (wts l).sum l ∧ leftI all (wts l).sum l < l.length := by
  obtain ⟨e, r0, r1, g0⟩ := part_eq h h0 h1 hb l.length (Nat.le_refl _)
  have t1 : (shrs all (wts l).sum l).take l.length = shrs all (wts l).sum l := by rw [← shrs_len all (wts l).sum l]; exact List.take_length ..
  have t2 : (wts l).take l.length = wts l := by rw [show l.length = (wts l).length by simp [wts]]; exact List.take_length ..
  rw [t1, t2] at e
  rw [t1] at r0 r1
  have hl : 0 < l.length := by
    cases l with
    | nil => simp [wts] at hb
    | cons a l => simp
  have e3 : leftI all (wts l).sum l * (wts l).sum = ((shrs all (wts l).sum l).map Shr.rest).sum := by
    unfold leftI getsL
    rw [Int.sub_mul]; omega
  refine ⟨e3, ?_, ?_⟩
  · rcases Int.lt_or_le (leftI all (wts l).sum l) 0 with hn | hn
    · have := Int.mul_neg_of_neg_of_pos hn hb
      omega
    · exact hn
  · rcases Int.lt_or_le (leftI all (wts l).sum l) l.length with hn | hn
    · exact hn
    · have := Int.mul_le_mul_of_nonneg_right hn (Int.le_of_lt hb)
      omega
theorem getsL_bd {all by' : Int} {l : List Stk} (h : Rights l) (h0 : 0 ≤ all) (h1 : all ≤ 10000000) (hb : 0 < by') : ∀ x ∈ getsL all by' l, 0 ≤ x ∧ x ≤ 10000000000 := fun x hx => by
  obtain ⟨s, hs, rfl⟩ := List.mem_map.1 hx
  obtain ⟨k, _, rfl⟩ := List.mem_map.1 hs
  obtain ⟨-, -, g0, g1, -, -, -⟩ := shrOf_bd h h0 h1 hb k
  exact ⟨g0, g1⟩
def fillO (all by' : Int) (l : List Stk) (k : Nat) : List Int := (getsL all by' l).take k ++ List.replicate (l.length - k) 0
theorem fillO_len {all by' : Int} {l : List Stk} {k : Nat} (h : k ≤ l.length) : (fillO all by' l k).length = l.length := by
  unfold fillO
  rw [List.length_append, List.length_take, getsL_len, List.length_replicate]; omega
theorem getsL_at {all by' : Int} {l : List Stk} {k : Nat} (h : k < l.length) : (getsL all by' l).take (k + 1) = (getsL all by' l).take k ++ [(shrOf all by' l k).gets] := by
  unfold getsL
  rw [← List.map_take, shrs_take h, List.map_append, List.map_take]; rfl
theorem fillO_set {all by' : Int} {l : List Stk} {k : Nat} (h : k < l.length) : (fillO all by' l k).set k (shrOf all by' l k).gets = fillO all by' l (k + 1) := by
  unfold fillO
  have hl : ((getsL all by' l).take k).length = k := by rw [List.length_take, getsL_len]; omega
  rw [getsL_at h, List.set_append_right _ _ (by omega), hl, Nat.sub_self]
  obtain ⟨q, hq⟩ : ∃ q, l.length - k = q + 1 := ⟨l.length - k - 1, by omega⟩
  rw [hq, show l.length - (k + 1) = q by omega, List.append_assoc]; rfl
theorem fillO_zero (all by' : Int) (l : List Stk) : fillO all by' l 0 = List.replicate l.length 0 := by simp [fillO]
theorem fillO_full (all by' : Int) (l : List Stk) : fillO all by' l l.length = getsL all by' l := by
  unfold fillO
  rw [Nat.sub_self, List.take_of_length_le (by rw [getsL_len]; exact Nat.le_refl _)]; simp
theorem lucky_place {all by' : Int} {l : List Stk} : ∀ s ∈ lucky all by' l, ∃ k, k < l.length ∧ s = shrOf all by' l k := fun s hs => by
  have h1 := (sortS_perm _).mem_iff.1 (List.mem_of_mem_take hs)
  obtain ⟨k, hk, rfl⟩ := List.mem_map.1 h1
  exact ⟨k, List.mem_range.1 hk, rfl⟩
theorem shrs_nm {all by' : Int} {l : List Stk} (h : Rights l) : ∀ s ∈ shrs all by' l, 0 < s.n.size := fun s hs => by
  obtain ⟨k, hk, rfl⟩ := List.mem_map.1 hs
  have hk := List.mem_range.1 hk
  refine h.nm _ ?_
  rw [List.getD_eq_getElem?_getD, List.getElem?_eq_getElem hk]; exact List.getElem_mem _
end Go.AL.Sh

namespace Go.AL.Sh
open Go Go.AL Go.AL.Q
def atL (r : List Int) (lv : Int) : List Int := r.map fun x => min x lv
def halfF (p : Int → Bool) : Nat → Int → Int → Int
  | 0, lo, _ => lo
  | f + 1, lo, hi => if hi - lo > 1 then (if p ((lo + hi).tdiv 2) then halfF p f ((lo + hi).tdiv 2) hi else halfF p f lo ((lo + hi).tdiv 2)) else lo
def fits (q : Int) (r : List Int) (lv : Int) : Bool := decide ((atL r lv).sum ≤ q)
def lvF (q : Int) (r : List Int) : Int := halfF (fits q r) 17 0 100001
def giveS (r : List Int) (low : Int) (st : List Int × Int) (k : Nat) : List Int × Int := if 0 < st.2 ∧ low < r.getD k 0 then (st.1.set k (st.1.getD k 0 + 1), st.2 - 1) else st
def giveK (q : Int) (r : List Int) (k : Nat) : List Int × Int := (List.range k).foldl (giveS r (lvF q r)) (atL r (lvF q r), q - (atL r (lvF q r)).sum)
structure Cl (q : Int) (r : List Int) : Prop where
  n1 : 1 ≤ r.length
  n8 : r.length ≤ 8
  r : ∀ x ∈ r, 0 ≤ x ∧ x ≤ 10000
  q : 0 ≤ q ∧ q ≤ 10000
def wants (low : Int) (r : List Int) : Int := (r.map fun x => if low < x then (1 : Int) else 0).sum
structure GiveOk (q : Int) (r : List Int) (k : Nat) : Prop where
  len : (giveK q r k).1.length = r.length
  sum : (giveK q r k).1.sum + (giveK q r k).2 = q
  left : 0 ≤ (giveK q r k).2 ∧ (giveK q r k).2 ≤ q - (atL r (lvF q r)).sum
  bd : ∀ x ∈ (giveK q r k).1, 0 ≤ x ∧ x ≤ 10000 + k
  cnt : (giveK q r k).2 = 0 ∨ (giveK q r k).2 = q - (atL r (lvF q r)).sum - wants (lvF q r) (r.take k)
end Go.AL.Sh

namespace Go.AL.Sh
open Go Go.AL Go.AL.Q
end Go.AL.Sh

namespace Go.AL.Sh
open Go Go.AL Go.AL.Q
structure Sea where
  wide : Int
  high : Int
  ln : Bool
  land : List Int
  hours : Int
  dn : Bool
  drift : List Sp
  speed : Int
structure Rep where
  hour : Int
  cell : Int
  far : Int
  there : Bool
  deriving DecidableEq
def Rep.c (r : Rep) : List A := [.int r.hour, .int r.cell, .int r.far, .bool r.there]
theorem Rep.free (r : Rep) : ∀ x ∈ r.c, Free x := allC (.s _) (allC (.s _) (allC (.s _) (all1 (.s _))))
def Sea.c (s : Sea) : List A := [.int s.wide, .int s.high, .sl s.ln .any (ints s.land), .int s.hours, .sl s.dn .any (s.drift.map Sp.c), .int s.speed]
theorem Sea.free (s : Sea) : ∀ x ∈ s.c, Free x := allC (.s _) (allC (.s _) (allC (free_ints _ _ _) (allC (.s _) (allC (free_map Sp.free _ _ _) (all1 (.s _))))))
def absI (n : Int) : Int := if n > -n then n else -n
theorem absI_eq (n : Int) : absI n = max n (-n) := by unfold absI; rw [Int.max_def]; split <;> split <;> omega
def gmax (x y : Int) : Int := if y > x then y else x
theorem gmax_eq (x y : Int) : gmax x y = max x y := by unfold gmax; rw [Int.max_def]; split <;> split <;> omega
def gmin (x y : Int) : Int := if y < x then y else x
theorem gmin_eq (x y : Int) : gmin x y = min x y := by unfold gmin; rw [Int.min_def]; split <;> split <;> omega
def farF (p o : Sp) : Int := gmax (gmax (gmax (p.lo - o.lo) (o.lo - p.lo)) (p.hi - o.hi)) (o.hi - p.hi)
theorem farF_eq (p o : Sp) : farF p o = max (max (p.lo - o.lo) (o.lo - p.lo)) (max (p.hi - o.hi) (o.hi - p.hi)) := by
  unfold farF; rw [gmax_eq, gmax_eq, gmax_eq]; omega
structure Near (p : Sp) : Prop where
  l0 : -1000000 ≤ p.lo
  l1 : p.lo ≤ 1000000
  h0 : -1000000 ≤ p.hi
  h1 : p.hi ≤ 1000000
def placeP (w cell : Int) : Sp := ⟨cell.tmod w, cell.tdiv w⟩
theorem placeP_near {w cell : Int} (hw : 1 ≤ w ∧ w ≤ 10) (hc : -1000 ≤ cell ∧ cell ≤ 1000) : Near (placeP w cell) := by
  have h1 : (cell.tmod w).natAbs < w.natAbs := by rw [Int.natAbs_tmod]; exact Nat.mod_lt _ (by omega)
  have h2 : (cell.tdiv w).natAbs ≤ cell.natAbs := by rw [Int.natAbs_tdiv]; exact Nat.div_le_self _ _
  exact ⟨by show -1000000 ≤ cell.tmod w; omega, by show cell.tmod w ≤ 1000000; omega, by show -1000000 ≤ cell.tdiv w; omega, by show cell.tdiv w ≤ 1000000; omega⟩
def Sea.stepOk (d : Sp) : Bool := cond (wi d.lo (-2) 2) (wi d.hi (-2) 2) false
def Sea.b0 (s : Sea) : Bool := cond (cond (cond (cond (wi s.wide 1 10) (wi s.high 1 8) false) (wi s.speed 0 2) false) (wi s.hours 1 12) false) ((s.drift.length : Int) == s.hours - 1) false
def Sea.b1 (s : Sea) : Bool := cond s.b0 (risingF (s.wide * s.high) (-1) s.land) false
def Sea.ok (s : Sea) : Bool := cond s.b1 (s.drift.all Sea.stepOk) false
def Sea.chk (s : Sea) : Int := if s.ok then 0 else 10
def Sea.many (s : Sea) : Int := s.wide * s.high
structure Sea.Ok (s : Sea) : Prop where
  w : 1 ≤ s.wide ∧ s.wide ≤ 10
  h : 1 ≤ s.high ∧ s.high ≤ 8
  sp : 0 ≤ s.speed ∧ s.speed ≤ 2
  hr : 1 ≤ s.hours ∧ s.hours ≤ 12
  dl : (s.drift.length : Int) = s.hours - 1
  ri : risingF (s.wide * s.high) (-1) s.land = true
  st : ∀ d ∈ s.drift, (-2 ≤ d.lo ∧ d.lo ≤ 2) ∧ -2 ≤ d.hi ∧ d.hi ≤ 2
theorem Sea.b0_ok {s : Sea} (h : s.b0 = true) : (1 ≤ s.wide ∧ s.wide ≤ 10) ∧ (1 ≤ s.high ∧ s.high ≤ 8) ∧ (0 ≤ s.speed ∧ s.speed ≤ 2) ∧ (1 ≤ s.hours ∧ s.hours ≤ 12) ∧ (s.drift.length : Int) = s.hours - 1 := by
  unfold Sea.b0 at h
  exact ⟨wi_iff.1 (ac1 (ac1 (ac1 (ac1 h)))), wi_iff.1 (ac2 (ac1 (ac1 (ac1 h)))), wi_iff.1 (ac2 (ac1 (ac1 h))), wi_iff.1 (ac2 (ac1 h)), eq_of_beq (ac2 h)⟩
theorem Sea.ok_of {s : Sea} (h : s.ok = true) : s.Ok := by
  unfold Sea.ok at h
  have h1 := ac1 h
  unfold Sea.b1 at h1
  obtain ⟨a, b, c, d, e⟩ := Sea.b0_ok (ac1 h1)
  refine ⟨a, b, c, d, e, ac2 h1, fun x hx => ?_⟩
  have := List.all_eq_true.1 (ac2 h) x hx
  unfold Sea.stepOk at this
  exact ⟨wi_iff.1 (ac1 this), wi_iff.1 (ac2 this)⟩
theorem Sea.Ok.many {s : Sea} (h : s.Ok) : 1 ≤ s.many ∧ s.many ≤ 80 := by
  unfold Sea.many
  obtain ⟨w1, w2⟩ := h.w
  obtain ⟨h1, h2⟩ := h.h
  constructor
  · have := Int.mul_le_mul w1 h1 (by omega) (by omega); omega
  · have := Int.mul_le_mul w2 h2 (by omega) (by omega); omega
def Sea.step (s : Sea) (hour : Int) : Sp := s.drift.getD hour.toNat ⟨0, 0⟩
def Sea.steps (s : Sea) (hour : Int) (p q : Sp) : Bool :=
  cond ((⟨p.lo + (s.step hour).lo, p.hi + (s.step hour).hi⟩ : Sp) == q) true (decide (farF ⟨p.lo + (s.step hour).lo, p.hi + (s.step hour).hi⟩ q ≤ s.speed))
def Sea.repOk (s : Sea) (r : Rep) : Bool := cond (cond (wi r.hour 0 (s.hours - 1)) (wi r.cell 0 (s.many - 1)) false) (wi r.far 0 9) false
def Sea.repsOk (s : Sea) (l : List Rep) : Bool := cond (decide ((l.length : Int) ≤ 24)) (l.all s.repOk) false
def repC (w : Int) (r : Rep) : List A := r.c ++ (placeP w r.cell).c
theorem repC_free (w : Int) (r : Rep) : ∀ x ∈ repC w r, Free x := fun x hx => (List.mem_append.1 hx).elim (r.free x) ((placeP w r.cell).free x)
def isTrueF (w : Int) (r : Rep) (p : Sp) : Bool := r.there == decide (farF (placeP w r.cell) p ≤ r.far)
def falseAt (w : Int) (hour : Int) (p : Sp) (r : Rep) : Bool := cond (r.hour == hour) (!isTrueF w r p) false
def untrueF (w : Int) (l : List Rep) (hour : Int) (p : Sp) : Int := (l.countP (falseAt w hour p) : Nat)
theorem cnt_take {α : Type} {p : α → Bool} {l : List α} {k : Nat} (h : k < l.length) : ((l.take (k + 1)).countP p : Int) = (l.take k).countP p + if p l[k] then 1 else 0 := by
  rw [List.take_succ_eq_append_getElem h, List.countP_append]
  simp only [List.countP_cons, List.countP_nil]
  split <;> simp
def seaA (s : Sea) (m : A) : List A := s.c ++ [m]
def logA (s : Sea) (m : A) (l : List Rep) : List A := seaA s m ++ [.sl (l.isEmpty) .any (l.map (repC s.wide))]
theorem seaA_free (s : Sea) : ∀ x ∈ seaA s .un, Free x := fun x hx => (List.mem_append.1 hx).elim (s.free x) (all1 .un x)
theorem logA_free (s : Sea) (l : List Rep) : ∀ x ∈ logA s .un l, Free x := fun x hx => (List.mem_append.1 hx).elim (seaA_free s x) (all1 (free_map (repC_free _) _ _ _) x)
theorem ris_app {n x : Int} : ∀ {l : List Int} {p : Int}, risingF n p (l ++ [x]) = cond (risingF n p l) (wi x (l.getLast?.getD p + 1) (n - 1)) false
  | [], p => by
    show cond (wi x (p + 1) (n - 1)) true false = wi x (p + 1) (n - 1)
    cases wi x (p + 1) (n - 1) <;> rfl
  | i :: is, p => by
    have e : (i :: is).getLast?.getD p = is.getLast?.getD i := by rw [List.getLast?_cons]; rfl
    rw [List.cons_append, risingF, ris_app, e, risingF, cond_assoc]
def risK (b : Bool) (n : Int) (l : List Int) (k : Nat) : Bool := cond b (risingF n (-1) (l.take k)) false
theorem risK_zero (b : Bool) (n : Int) (l : List Int) : risK b n l 0 = b := by cases b <;> rfl
theorem last_take {l : List Int} {k : Nat} (hk : k ≤ l.length) : (l.take k).getLast?.getD (-1) = prevI l k := by
  cases k with
  | zero => rfl
  | succ j =>
    rw [List.take_succ_eq_append_getElem (by omega), List.getLast?_concat]
    simp [prevI, List.getD_eq_getElem?_getD, show j < l.length by omega]
theorem risK_step {b : Bool} {n : Int} {l : List Int} {k : Nat} (h : k < l.length) : risK b n l (k + 1) = cond (risK b n l k) (wi l[k] (prevI l k + 1) (n - 1)) false := by
  unfold risK
  rw [List.take_succ_eq_append_getElem h, ris_app, last_take (by omega), cond_assoc]
theorem risK_prev {b : Bool} {n : Int} {l : List Int} {k : Nat} (hk : k ≤ l.length) (hn : 0 ≤ n) (h : risK b n l k = true) : -1 ≤ prevI l k ∧ prevI l k ≤ n := by
  cases k with
  | zero => show -1 ≤ (-1 : Int) ∧ (-1 : Int) ≤ n; omega
  | succ j =>
    rw [risK_step hk] at h
    have h1 := wi_iff.1 (ac2 h)
    have h0 := risK_prev (by omega) hn (ac1 h)
    have e : prevI l (j + 1) = l[j] := by simp [prevI, List.getD_eq_getElem?_getD, show j < l.length from hk]
    rw [e]; omega
theorem risK_b {b : Bool} {n : Int} {l : List Int} {k : Nat} (h : risK b n l k = true) : b = true := by unfold risK at h; exact ac1 h
theorem risK_full {b : Bool} {n : Int} {l : List Int} : risK b n l l.length = cond b (risingF n (-1) l) false := by unfold risK; rw [List.take_length]
theorem _root_.Go.AL.A.Le.tupL {l m : List A} (h : LeL l m) : A.Le (.tup l) (.tup m) := ⟨fun φ Z w v hv => by
  obtain ⟨vs, e0, e1, e3⟩ := inv_tup hv
  subst e0
  exact .tup _ _ (by rw [e1, h.len]) fun i hi => (h.get i).vr _ _ _ _ (e3 i (by rw [← h.len]; exact hi)), fun v p e => by simp [spareOf] at e⟩
theorem _root_.Go.AL.LeL.appL {l m l' m' : List A} (h : LeL l m) (h' : LeL l' m') : LeL (l ++ l') (m ++ m') := by
  induction h with
  | nil => exact h'
  | cons h _ ih => exact .cons h ih
end Go.AL.Sh

namespace Go.AL.Sh
open Go Go.AL Go.AL.Q
def nevK (k : Nat) : List Int := List.replicate k 1048576 ++ List.replicate (80 - k) 0
theorem nevK_len {k : Nat} (h : k ≤ 80) : (nevK k).length = 80 := by unfold nevK; simp; omega
theorem nevK_step {k : Nat} (h : k < 80) : (nevK k).set k 1048576 = nevK (k + 1) := by
  unfold nevK
  rw [List.set_append_right _ _ (by simp), List.length_replicate, Nat.sub_self, show 80 - k = (80 - (k + 1)) + 1 by omega, List.replicate_succ, List.set_cons_zero, List.replicate_succ' (n := k), List.append_assoc]
  rfl
def setK (val : Nat → Int) (l : List Nat) : List Int := l.foldl (fun a p => a.set p (val p)) (List.replicate 80 1048576)
theorem setK_len (val : Nat → Int) : ∀ l, (setK val l).length = 80 := by
  have : ∀ (l : List Nat) (a : List Int), (l.foldl (fun a p => a.set p (val p)) a).length = a.length := by
    intro l
    induction l with
    | nil => intro a; rfl
    | cons x l ih => intro a; rw [List.foldl_cons, ih, List.length_set]
  intro l
  unfold setK; rw [this]; simp
theorem setK_succ (val : Nat → Int) {l : List Nat} {j p : Nat} (h : l[j]? = some p) : setK val (l.take (j + 1)) = (setK val (l.take j)).set p (val p) := by
  obtain ⟨hj, e⟩ := List.getElem?_eq_some_iff.1 h
  unfold setK
  rw [List.take_succ_eq_append_getElem hj, List.foldl_append, e]; rfl
theorem setK_get (val : Nat → Int) (q : Nat) : ∀ (l : List Nat) (hq : q < 80), (setK val l).getD q 0 = if q ∈ l then val q else 1048576 := by
  have key : ∀ (l : List Nat) (a : List Int), q < a.length → (l.foldl (fun a p => a.set p (val p)) a).getD q 0 = if q ∈ l then val q else a.getD q 0 := by
    intro l
    induction l with
    | nil => intro a _; simp
    | cons x l ih =>
      intro a ha
      rw [List.foldl_cons, ih _ (by rw [List.length_set]; exact ha)]
      by_cases h1 : q ∈ l
      · simp [h1]
      · by_cases h2 : x = q
        · subst h2; simp [h1, List.getD_eq_getElem?_getD, ha]
        · simp [h1, Ne.symm h2, List.getD_eq_getElem?_getD, List.getElem?_set, h2]
  intro l hq
  unfold setK
  rw [key l _ (by simpa using hq)]
  split
  · rfl
  · rw [List.getD_eq_getElem?_getD, List.getElem?_replicate, if_pos hq]; rfl
end Go.AL.Sh

namespace Go.AL.Sh
open Go Go.AL Go.AL.Q
def blk (row : Nat → List Int) (n : Nat) : List Int := ((List.range n).map row).flatten
def updR (row : Nat → List Int) (k : Nat) (r : List Int) : Nat → List Int := fun i => if i = k then r else row i
theorem blk_congr {row row' : Nat → List Int} {n : Nat} (h : ∀ i, i < n → row i = row' i) : blk row n = blk row' n := by
  unfold blk
  rw [List.map_congr_left fun i hi => h i (List.mem_range.1 hi)]
theorem blk_succ (row : Nat → List Int) (n : Nat) : blk row (n + 1) = blk row n ++ row n := by unfold blk; simp [List.range_succ]
theorem blk_len {row : Nat → List Int} : ∀ {n : Nat}, (∀ i, i < n → (row i).length = 80) → (blk row n).length = n * 80
  | 0, _ => rfl
  | n + 1, h => by rw [blk_succ, List.length_append, blk_len fun i hi => h i (by omega), h n (by omega)]; omega
theorem blk_get {row : Nat → List Int} : ∀ {n : Nat}, (∀ i, i < n → (row i).length = 80) → ∀ {i j : Nat}, i < n → j < 80 → (blk row n)[i * 80 + j]? = (row i)[j]?
  | n + 1, h, i, j, hi, hj => by
    have hl := blk_len (n := n) (row := row) fun i hi => h i (by omega)
    rw [blk_succ]
    by_cases e : i = n
    · subst e
      rw [List.getElem?_append_right (by omega), hl]; congr 1; omega
    · rw [List.getElem?_append_left (by omega)]
      exact blk_get (fun i hi => h i (by omega)) (by omega) hj
theorem blk_getD {row : Nat → List Int} {n : Nat} (h : ∀ i, i < n → (row i).length = 80) {i j : Nat} (hi : i < n) (hj : j < 80) : (blk row n).getD (i * 80 + j) 0 = (row i).getD j 0 := by
  rw [List.getD_eq_getElem?_getD, List.getD_eq_getElem?_getD, blk_get h hi hj]
theorem blk_ext {a : List Int} {row : Nat → List Int} {n : Nat} (h : ∀ i, i < n → (row i).length = 80) (hl : a.length = n * 80) (hg : ∀ i j, i < n → j < 80 → a[i * 80 + j]? = (row i)[j]?) : a = blk row n := by
  refine List.ext_getElem? fun m => ?_
  by_cases hm : m < n * 80
  · have e : m = m / 80 * 80 + m % 80 := by omega
    rw [e, hg _ _ (by omega) (by omega), blk_get h (by omega) (by omega)]
  · rw [List.getElem?_eq_none (by omega), List.getElem?_eq_none (by rw [blk_len h]; omega)]
theorem updR_len {row : Nat → List Int} {n k : Nat} {r : List Int} (h : ∀ i, i < n → (row i).length = 80) (hr : r.length = 80) : ∀ i, i < n → (updR row k r i).length = 80 := fun i hi => by
  unfold updR; split
  · exact hr
  · exact h i hi
theorem blk_row {row : Nat → List Int} {n k : Nat} {r : List Int} (h : ∀ i, i < n → (row i).length = 80) (hr : r.length = 80) (hk : k < n) : setSeg ((blk row n).map A.int) (0 + k * 80) ((r.map A.int).map A.down) = (blk (updR row k r) n).map A.int := by
  have e0 : (r.map A.int).map A.down = r.map A.int := by rw [List.map_map]; rfl
  have hl := blk_len h
  rw [Nat.zero_add, e0]
  have e1 : setSeg ((blk row n).map A.int) (k * 80) (r.map A.int) = ((blk row n).take (k * 80) ++ (r ++ (blk row n).drop (k * 80 + 80))).map A.int := by
    unfold setSeg
    simp [hr, List.map_take, List.map_drop]
  rw [e1]
  congr 1
  refine blk_ext (updR_len h hr) ?_ fun i j hi hj => ?_
  · simp [hl, hr]; omega
  · unfold updR
    by_cases e : i = k
    · subst e
      rw [if_pos rfl, List.getElem?_append_right (by simp; omega), List.length_take, hl, Nat.min_eq_left (by omega), List.getElem?_append_left (by omega)]
      congr 1; omega
    · rw [if_neg e, ← blk_get h hi hj]
      by_cases e2 : i < k
      · rw [List.getElem?_append_left (by simp; omega), List.getElem?_take_of_lt (by omega)]
      · rw [List.getElem?_append_right (by simp; omega), List.length_take, hl, Nat.min_eq_left (by omega), List.getElem?_append_right (by omega), List.getElem?_drop, hr]
        congr 1; omega
theorem blk_set {row : Nat → List Int} {n k c : Nat} {v : Int} (h : ∀ i, i < n → (row i).length = 80) (hk : k < n) (hc : c < 80) : (blk row n).set (k * 80 + c) v = blk (updR row k ((row k).set c v)) n := by
  have hl := blk_len h
  refine blk_ext (updR_len h (by rw [List.length_set]; exact h k hk)) (by rw [List.length_set, hl]) fun i j hi hj => ?_
  unfold updR
  by_cases e : i = k
  · subst e
    rw [if_pos rfl, List.getElem?_set, List.getElem?_set, blk_get h hi hj, hl, h i hi]
    by_cases e2 : c = j
    · subst e2; rw [if_pos rfl, if_pos (by omega), if_pos rfl, if_pos hc]
    · rw [if_neg (by omega), if_neg e2]
  · rw [if_neg e, List.getElem?_set, if_neg (by omega), blk_get h hi hj]
theorem blk_cell {row : Nat → List Int} {n k c : Nat} {v : Int} (h : ∀ i, i < n → (row i).length = 80) (hk : k < n) (hc : c < 80) : setSeg ((blk row n).map A.int) (0 + k * 80 + c * 1) [A.int v] = (blk (updR row k ((row k).set c v)) n).map A.int := by
  have hl := blk_len h
  rw [Nat.zero_add, Nat.mul_one, setSeg_set (by omega), blk_set h hk hc]
theorem blk_rows {row : Nat → List Int} {n : Nat} (h : ∀ i, i < n → (row i).length = 80) : RowsAre ((blk row n).map A.int) ((List.range n).map fun i => (row i).map A.int) 80 := by
  have hl := blk_len h
  refine ⟨fun e he => ?_, by simp [hl], fun i j hi hj => ?_⟩
  · obtain ⟨i, hi, rfl⟩ := List.mem_map.1 he
    rw [List.length_map]; exact h i (List.mem_range.1 hi)
  · have hi' : i < n := by simpa using hi
    have e1 : ((List.range n).map fun i => (row i).map A.int).getD i [] = (row i).map A.int := by simp [List.getD_eq_getElem?_getD, hi']
    have e2 := blk_get h hi' hj
    have hj' : j < (row i).length := by rw [h i hi']; exact hj
    rw [e1]
    rw [List.getElem?_eq_getElem hj'] at e2
    simp only [List.getD_eq_getElem?_getD, List.getElem?_map, e2, List.getElem?_eq_getElem hj', Option.map_some, Option.getD_some]
    rfl
def zer80 : List Int := List.replicate 80 0
theorem blk_zero (n : Nat) : ((List.range (n * 80)).map fun j => (List.replicate 80 (A.int 0)).getD (j % 80) .un).map A.down = (blk (fun _ => zer80) n).map A.int := by
  have e : blk (fun _ => zer80) n = List.replicate (n * 80) 0 := by
    symm
    refine blk_ext (fun i _ => rfl) (by simp) fun i j hi hj => ?_
    unfold zer80
    rw [List.getElem?_replicate, List.getElem?_replicate, if_pos hj, if_pos (by omega)]
  rw [e, List.map_replicate]
  refine List.ext_getElem (by simp) fun i h1 h2 => ?_
  have : i % 80 < 80 := Nat.mod_lt _ (by decide)
  simp only [List.getElem_map, List.getElem_range, List.getElem_replicate, List.getD_eq_getElem?_getD, List.getElem?_replicate, if_pos this, Option.getD_some]
  rfl
end Go.AL.Sh

