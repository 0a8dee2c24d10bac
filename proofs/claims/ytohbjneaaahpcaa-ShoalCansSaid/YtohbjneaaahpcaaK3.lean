/- What the proof leans on, part 3: N5 X1 X4 Q0 X9 X10 A17 N7 N9 N10 N11 N12 N13 N14 Y0 N8 N4d N9b Y1 RW Y3 N15. -/
import Derived.Test.YtohbjneaaahpcaaK2
import Derived.ChangeArms
import Derived.ChangeSame
import Derived.Laws.IdiomArrays
import Derived.Lib.SmallJoins
import Derived.ProofKit
set_option linter.all false
namespace Go.AL
open Go Go.RowKit
def wstM (all : Array Oper) (o : Oper) : List Nat := wst o ++ (match o.op with
  | .store _ _ (.tmp t) => [t]
  | .move (.tmp t) => (match o.dst with | some d => cond (feeds all.toList d) [t] [] | none => [])
  | _ => [])
def only (H : Hp) (id : Nat) : Hp := fun j => cond (Nat.beq j id) (H j) none
section
variable (P : Program) (T : Tab) (mb : Nat → Bool)
def effM (H : Hp) (hr : List Nat) (o : Oper) (d : Nat) (S : Slots) (ht : Option (List A)) : Option (Eff × List Nat × List Ob) := match evM P T S H ht o.op o.type with
  | some (v, p) => some (⟨[(d, v)], []⟩, hr, p)
  | none => none
def readsH (H : Hp) (S : Slots) : Op → Hp × List Nat
  | .load _ x => match rd S x with
    | .ref id _ => (only H id, [id])
    | _ => (fun _ => none, [])
  | .lookup _ x _ _ => match rd S x with
    | .mp id => (only H id, [id])
    | _ => (fun _ => none, [])
  | .call { callee := .value _, args, .. } => match (rds S args.toList).filterMap (fun | .ms id _ _ => some id | _ => none) with
    | [id] => (only H id, [id])
    | _ => (fun _ => none, [])
  | _ => (fun _ => none, [])
def valD (o : Oper) (d : Nat) (S : Slots) (H : Hp) (ht : Option (List A)) : Option (Eff × List Nat × List Ob) := match readsH H S o.op with
  | (H', hr) => effM P T H' hr o d S ht
def dM (all : Array Oper) (nm : Nat) (o : Oper) (S : Slots) (H : Hp) (ht : Option (List A)) : Option (Eff × List Nat × List Ob) := match o.op, o.dst with
  | .alloc t, some d => match T.ty t with
    | .none => none
    | _ => some (⟨[(d, .ref nm 0)], [(nm, .cells ((T.zr t).map A.down))]⟩, [], [])
  | .box t x, some d => match mb d with
    | true => match okPart (rd S x) with
      | true => some (⟨[(d, .ref nm 0)], [(nm, .cells ((cellsA (rd S x)).map A.down))]⟩, [], [])
      | false => none
    | false => valD P T o d S H ht
  | .load t x, some d => match ht with
    | some [] => match rd S x with
      | .ref id off => match H id with
        | some (.cells cs) => match T.ty t, (T.ty t).isAgg with
          | .none, _ => none
          | _, false => some (⟨[(d, cs.getD off .un)], [(id, .cells (setSeg cs off [(cs.getD off .un).down]))]⟩, [id], [.of (off < cs.length)])
          | _, _ => none
        | _ => none
      | _ => none
    | _ => valD P T o d S H ht
  | .store t x v, none => match rd S x with
    | .ref id off => match H id, T.ty t with
      | _, .none => none
      | some (.cells cs), _ => match v, isOwn (rd S v) with
        | .tmp tv, true => some (⟨[(tv, (S tv).down)], [(id, .cells (setSeg cs off [S tv]))]⟩, [id], [.of (T.sz t = 1), .of (off < cs.length)])
        | _, _ => match okPart (rd S v) with
          | true => some (⟨[], [(id, .cells (setSeg cs off ((cellsA (rd S v)).map A.down)))]⟩, [id], [.of ((cellsA (rd S v)).length = T.sz t), .of (off + T.sz t ≤ cs.length)])
          | false => none
      | _, _ => none
    | _ => none
  | .makeSlice t x y, some d => match rd S x, rd S y, T.ty t with
    | .s (.int .i64 n), .s (.int .i64 m), .slice el => match T.ty el with
      | .none => none
      | _ => some (⟨[(d, .ms nm 0 n.toNat)], [(nm, .cells (((List.range (n.toNat * T.sz el)).map fun j => (T.zr el).getD (j % T.sz el) .un).map A.down))]⟩, [], [.of (m = n), .of (0 ≤ n), .of (n ≤ maxLen), .of ((T.by' el : Int) * n ≤ 140737488355328)])
    | _, _, _ => none
  | .buildSlice t n parts, some d => match ht with
    | some [.ms _ _ _] => match litW T S t n parts with
      | some (cs, p) => some (⟨[(d, .ms nm 0 n)], [(nm, .cells cs)]⟩, [], p)
      | none => none
    | _ => valD P T o d S H ht
  | .assign (.tmp t), some d => match isOwn (S t) && !Nat.beq t d with
    | true => some (⟨[(t, (S t).down), (d, S t)], []⟩, [], [])
    | false => valD P T o d S H ht
  | .move (.tmp t), some d => match feeds all.toList d && (isOwn (S t) && !Nat.beq t d) with
    | true => some (⟨[(t, (S t).down), (d, S t)], []⟩, [], [])
    | false => valD P T o d S H ht
  | .call { callee := .builtin .append, args, argTypes }, some d => match args.toList, argTypes.toList with
    | [.tmp tx, y], [t, t'] => match ht with
      | some [.un] => match S tx, rd S y, T.ty t with
        | .sl false (.own el) es, .sl _ _ ys, .slice el' => match T.ty el, T.sz el, Nat.beq t t', Nat.beq el el', Nat.beq tx d with
          | .none, _, _, _, _ => none
          | _, 0, _, _, _ => none
          | _, _, true, true, false => some (⟨[(tx, (S tx).down), (d, .sl false (.own el) (es ++ ys))], []⟩, [], [.of (∀ z ∈ ys, z.length = T.sz el), .of (∀ z ∈ es, z.length = T.sz el), .of ((es.length + ys.length + (es.length + ys.length) / 4 + 192) * T.by' el ≤ 281474976710656), .of (es.length + ys.length ≤ maxLen)])
          | _, _, _, _, _ => none
        | _, _, _ => valD P T o d S H ht
      | _ => match S tx, rd S y, T.ty t with
        | .sl false (.own el) es, .sl _ _ ys, .slice el' => match T.ty el, T.sz el, Nat.beq t t', Nat.beq el el', Nat.beq tx d with
          | .none, _, _, _, _ => none
          | _, 0, _, _, _ => none
          | _, _, true, true, false => some (⟨[(tx, (S tx).down), (d, .sl false (.own el) (es ++ ys))], []⟩, [], [.of (∀ z ∈ ys, z.length = T.sz el), .of (∀ z ∈ es, z.length = T.sz el), .of ((es.length + ys.length) * T.by' el ≤ 140737488355328), .of (es.length + ys.length ≤ maxLen)])
          | _, _, _, _, _ => none
        | _, _, _ => valD P T o d S H ht
    | _, _ => valD P T o d S H ht
  | .call { callee := .value f, args, argTypes }, some d => match ht, rd S f with
    | some [v, .sl false .any kl], .fn (.func g) fst cap => some (⟨[(d, v)], [(nm, .map (kvsOf kl))]⟩, [], [obP (NewMap P g (fst ++ rds S args.toList ++ cap) nm v (kvsOf kl))])
    | some [v, .tup ns], .fn (.func g) fst cap => some (⟨[(d, v)], []⟩, idsOf ns, [obP (RCall P g (fst ++ rds S args.toList ++ cap) (onlyL H (idsOf ns)) v)])
    | _, _ => valD P T o d S H ht
  | .makeMap t none, some d => some (⟨[(d, .mp nm)], [(nm, .map [])]⟩, [], [])
  | .mapUpdate t x k v, none => match T.ty t, rd S x with
    | .map kt et, .mp id => match H id with
      | some (.map kvs) => forceK (rd S k) fun k => some (⟨[], [(id, .map (upKV kvs k (rd S v).down (ixOf P kt kvs k)))]⟩, [id], [obP (∃ j, KeyAt P kt kvs k j)])
      | _ => none
    | _, _ => none
  | .mapEntry t x k, some d => match T.ty t, rd S x, ht with
    | .map kt et, .mp id, some [v] => match H id, T.ty et with
      | _, .none => none
      | some (.map kvs), _ => forceK (rd S k) fun k => some (⟨[(d, .tup [v, .int (match ixOf P kt kvs k with | some j => j | none => kvs.length)])], [(id, .map (upKV kvs k v (ixOf P kt kvs k)))]⟩, [id], [obP (∃ j, KeyAt P kt kvs k j), obP (v = lkA T et kvs (ixOf P kt kvs k))])
      | _, _ => none
    | _, _, _ => none
  | .entryStore t x st v, none => match rd S x, rd S st with
    | .mp id, .s (.int .i64 n) => match H id with
      | some (.map kvs) => some (⟨[], [(id, .map (kvs.set n.toNat ((kvs.getD n.toNat (.un, .un)).1, (rd S v).down)))]⟩, [id], [obP (0 ≤ n), obP (n.toNat < kvs.length)])
      | _ => none
    | _, _ => none
  | _, some d => valD P T o d S H ht
  | _, none => none
def gM (all : Array Oper) (nm : Nat) (o : Oper) (S : Slots) (H : Hp) (ht : Option (List A)) : Option (Eff × List Nat × List Ob) := match o.guard with
  | none => dM P T mb all nm o S H ht
  | some (j, want) => match (all[j]?).bind (·.dst), o.dst with
    | some t, some d => match gv (S t) want with
      | some q => match readsH H (gS o.op S) o.op with
        | (H', hr) => match evM P T (gS o.op S) H' ht o.op o.type with
          | some (v, p) => some (⟨[(d, .cnd q v)], []⟩, hr, under q (owed S ((opTmps o.op).filter (gset o.op))) ++ under q p)
          | none => none
      | none => none
    | _, _ => none
end
section
variable {X : Ctx} {T : Tab} {r : Option Nat} {mb : Nat → Bool} {o : Oper} {S : Slots} {H : Hp} {all : Array Oper}
theorem reads_ok {S : Slots} {op : Op} {H' : Hp} {hr : List Nat} (h : readsH H S op = (H', hr)) : ∀ H1 : Hp, (∀ id, id ∈ hr → H1 id = H id) → ∀ id bx, H' id = some bx → H1 id = some bx := by
  have one : ∀ i, H' = only H i → hr = [i] → ∀ H1 : Hp, (∀ id, id ∈ hr → H1 id = H id) → ∀ id bx, H' id = some bx → H1 id = some bx := by
    rintro i rfl rfl H1 h1 id bx hb
    by_cases e : id = i
    · subst e; rw [h1 id (by simp)]; simpa [only] using hb
    · simp [only, beq_no e] at hb
  have non : H' = (fun _ => none) → ∀ H1 : Hp, (∀ id, id ∈ hr → H1 id = H id) → ∀ id bx, H' id = some bx → H1 id = some bx := by
    rintro rfl H1 h1 id bx hb; cases hb
  unfold readsH at h
  split at h
  · split at h <;> (simp only [Prod.mk.injEq] at h; obtain ⟨rfl, rfl⟩ := h)
    · exact one _ rfl rfl
    · exact non rfl
  · split at h <;> (simp only [Prod.mk.injEq] at h; obtain ⟨rfl, rfl⟩ := h)
    · exact one _ rfl rfl
    · exact non rfl
  · split at h <;> (simp only [Prod.mk.injEq] at h; obtain ⟨rfl, rfl⟩ := h)
    · exact one _ rfl rfl
    · exact non rfl
  · simp only [Prod.mk.injEq] at h; obtain ⟨rfl, rfl⟩ := h; exact non rfl
theorem valD_fire (hT : T.Ok X.P) {d nm : Nat} {f : Eff} {hr : List Nat} {ht : Option (List A)} {p : List Ob} (hd : o.dst = some d) (h : valD X.P T o d S H ht = some (f, hr, p)) (hp : AllP p) : FireR X r o (opTmps o.op) hr S H f nm := by
  unfold valD at h
  split at h
  rename_i H' hr' hrd
  unfold effM at h
  split at h
  · rename_i v p' hev
    simp only [Option.some.injEq, Prod.mk.injEq] at h
    obtain ⟨rfl, rfl, rfl⟩ := h
    exact .of_P fun S' H1 c' h1 h2 => DoesP.valM hT hd ((evM_sound hev hp).congr h1 (reads_ok hrd H1 h2)) rfl
  · cases h
set_option maxHeartbeats 2000000 in
theorem dM_fire (hT : T.Ok X.P) {nm : Nat} {f : Eff} {hr : List Nat} {ht : Option (List A)} {p : List Ob} (h : dM X.P T mb all nm o S H ht = some (f, hr, p)) (hp : AllP p) : FireR X r o (opTmps o.op) hr S H f nm := by
  have plain : ∀ d, o.dst = some d → valD X.P T o d S H ht = some (f, hr, p) → FireR X r o (opTmps o.op) hr S H f nm := fun d hd h => valD_fire hT hd h hp
  have tm : ∀ {S' : Slots} {x : Operand}, x ∈ o.op.operands.toList → (∀ t, t ∈ opTmps o.op → S' t = S t) → rd S' x = rd S x := fun hx h => tmp_mem hx h
  unfold dM at h
  split at h
  · rename_i t d ho hd
    split at h
    · cases h
    · rename_i ht
      simp only [Option.some.injEq, Prod.mk.injEq] at h
      obtain ⟨rfl, rfl, rfl⟩ := h
      intro hdn S' H' c' φ Z a w hr h1 h2 hnm hlt next Q hn
      obtain ⟨dst, op, ty, pos, aft, gd⟩ := o
      simp only at ho hd; subst ho; subst hd
      obtain ⟨z, hz1, hz2⟩ := run_zero hT (w := w) ht
      exact wp_run (fun c => by simp) (by rw [ex_alloc, Sem.run_bind, run_alloc hz1]; rfl) (hn _ Z _ _ (fun k hk => by simp [beq_no hk])
        (hr.newCells (ty := t) (hdn d rfl) hnm (Nat.le_refl _) hlt (zero_vrc hz2) (.ref _ _ _ (by simp)) (fun p => by simp [spareOf])))
  · rename_i t x d ho hd
    split at h
    · split at h
      · rename_i hpk
        simp only [Option.some.injEq, Prod.mk.injEq] at h
        obtain ⟨rfl, rfl, rfl⟩ := h
        intro hdn S' H' c' φ Z a w hr h1 h2 hnm hlt next Q hn
        have hx : rd S' x = rd S x := tm (by rw [ho]; simp [Op.operands]) h1
        rw [← hx] at hpk hn
        obtain ⟨dst, op, ty, pos, aft, gd⟩ := o
        simp only at ho hd; subst ho; subst hd
        exact wp_run (v := .pointer (some ⟨w.heap.size, 0, none⟩)) (w' := w.alloc (.cells (a.eval x).cells t)) (fun c => by simp) (by rw [ex_box]; rfl)
          (hn _ Z _ _ (fun k hk => by simp [beq_no hk]) (hr.newCells (ty := t) (hdn d rfl) hnm (Nat.le_refl _) hlt (cells_vr (hr.sees.rd x) hpk) (.ref _ _ _ (by simp)) (fun p => by simp [spareOf])))
      · cases h
    · exact plain d hd h
  · rename_i t x d ho hd
    split at h
    · split at h
      · rename_i id off hx
        split at h
        · rename_i cs hl
          split at h
          · cases h
          · rename_i h2 h3
            simp only [Option.some.injEq, Prod.mk.injEq] at h
            obtain ⟨rfl, rfl, rfl⟩ := h
            refine .of_P fun S' H' c' k1 k2 => ?_
            have ex : rd S' x = rd S x := tm (by rw [ho]; simp [Op.operands]) k1
            exact DoesP.loadTake hT ho hd (by show rd S' x = _; rw [ex]; exact hx) (by show H' id = _; rw [k2 id (by simp)]; exact hl) (by assumption) (by assumption) hp.1 rfl
          · cases h
        · cases h
      · cases h
    · exact plain d hd h
  · rename_i t x v ho hd
    split at h
    · rename_i id off hx
      split at h
      · cases h
      · rename_i cs hl ht
        split at h
        · rename_i tv how
          simp only [Option.some.injEq, Prod.mk.injEq] at h
          obtain ⟨rfl, rfl, rfl⟩ := h
          refine .of_P fun S' H' c' k1 k2 => ?_
          have ex : rd S' x = rd S x := tm (by rw [ho]; simp [Op.operands]) k1
          have et : S' tv = S tv := k1 tv (by rw [ho]; exact mem_opTmps (by simp [Op.operands]))
          have how : isOwn (S tv) = true := how
          refine DoesP.storeOwn hT ho hd (by show rd S' x = _; rw [ex]; exact hx) (by show H' id = _; rw [k2 id (by simp)]; exact hl) ht (own_one (by show isOwn (S' tv) = _; rw [et]; exact how)) hp.1 hp.2.1 ?_
          show (⟨upd S' tv (S' tv).down, updH H' id (some (.cells (setSeg cs off [S' tv]))), c'⟩ : St) = _
          rw [et]; rfl
        split at h
        · rename_i v v' bb hne b2 h1
          simp only [Option.some.injEq, Prod.mk.injEq] at h
          obtain ⟨rfl, rfl, rfl⟩ := h
          refine .of_P fun S' H' c' k1 k2 => ?_
          have ex : rd S' x = rd S x := tm (by rw [ho]; simp [Op.operands]) k1
          have ev : rd S' v = rd S v := tm (by rw [ho]; simp [Op.operands]) k1
          refine DoesP.store hT ho hd (by show rd S' x = _; rw [ex]; exact hx) (by show H' id = _; rw [k2 id (by simp)]; exact hl) ht (by show okPart (rd S' v) = _; rw [ev]; exact h1) (by show (cellsA (rd S' v)).length = _; rw [ev]; exact hp.1) hp.2.1 ?_
          show (⟨S', updH H' id (some (.cells (setSeg cs off ((cellsA (rd S' v)).map A.down)))), c'⟩ : St) = _
          rw [ev]; rfl
        · cases h
      · cases h
    · cases h
  · rename_i t x y d ho hd
    split at h
    · rename_i n m el h1 h2 h3
      split at h
      · cases h
      · rename_i h4
        simp only [Option.some.injEq, Prod.mk.injEq] at h
        obtain ⟨rfl, rfl, rfl⟩ := h
        obtain ⟨k0, k1, k2, k3, _⟩ := hp
        have k0 : m = n := k0
        subst k0
        intro hdn S' H' c' φ Z a w hr q1 q2 hnm hlt next Q hn
        have ex : rd S' x = rd S x := tm (by rw [ho]; simp [Op.operands]) q1
        have ey : rd S' y = rd S y := tm (by rw [ho]; simp [Op.operands]) q1
        rw [← ex] at h1; rw [← ey] at h2
        obtain ⟨dst, op, ty, pos, aft, gd⟩ := o
        simp only at ho hd; subst ho; subst hd
        obtain ⟨i, hi, hi1, hi2, z, hiz, hzf⟩ := hT.inf el h4
        have e1 := inv_s (h1 ▸ hr.sees.rd x)
        have e2 := inv_s (h2 ▸ hr.sees.rd y)
        have k2' : m ≤ maxLen := k2
        have k3' : (T.by' el : Int) * m ≤ 140737488355328 := k3
        have hrun := run_make (P := X.P) w t el i z (und_slice hT h3) hi hiz .i64 .i64 m m k1 (Int.le_refl _) (by rw [hi2]; omega) (by simp only [maxLen] at k2'; omega)
        have hv : VRc φ Z w ((List.range (m.toNat * T.sz el)).map fun j => (T.zr el).getD (j % T.sz el) .un) (madeCells z.cells (m.toNat * i.size)) := by
          have hz := zero_vrc (φ := φ) (Z := Z) (w := w) hzf
          refine ⟨by rw [size_madeCells, hi1]; simp, fun j hj => ?_⟩
          have hj' : j < m.toNat * T.sz el := by simpa using hj
          have hpos : 0 < T.sz el := Nat.pos_of_ne_zero fun h => by rw [h] at hj'; simp at hj'
          have hmod : j % T.sz el < T.sz el := Nat.mod_lt _ hpos
          have h3 := hz.2 (j % T.sz el) (by rw [hzf.2.1]; exact hmod)
          have g1 : (madeCells z.cells (m.toNat * i.size)).getD j undef = z.cells.getD (j % T.sz el) undef := by
            have h5 : j % T.sz el < z.cells.size := by rw [hzf.1]; exact hmod
            simp [madeCells, Array.getD_eq_getD_getElem?, hi1, hj', hzf.1, h5, getElem!_pos z.cells (j % T.sz el) h5]
            rw [Array.getElem?_eq_getElem h5]; rfl
          have g2 : ((List.range (m.toNat * T.sz el)).map fun j => (T.zr el).getD (j % T.sz el) .un).getD j .un = (T.zr el).getD (j % T.sz el) .un := by
            simp [List.getD_eq_getElem?_getD, hj']
          rw [g1, g2]
          exact h3
        refine wp_run (fun c => by simp) (by rw [ex_makeSlice, Sem.run_bind, e1, e2, hrun]; rfl) (hn _ Z _ _ (fun k hk => by simp [beq_no hk]) (hr.newCells (ty := el) (hdn d rfl) hnm (Nat.le_refl _) hlt hv ?_ (fun p => by simp [spareOf])))
        exact .ms _ _ _ _ _ (by simp) (Nat.le_refl _) (by omega)
    · cases h
  · rename_i t n parts d ho hd
    split at h
    · split at h
      · rename_i cs p' hl
        simp only [Option.some.injEq, Prod.mk.injEq] at h
        obtain ⟨rfl, rfl, rfl⟩ := h
        intro hdn S' H' c' φ Z a w hr q1 q2 hnm hlt next Q hn
        have hlS : litW T S' t n parts = some (cs, p') := by
          have e1 : ∀ p ∈ parts.toList, rd S' p.2 = rd S p.2 := fun p hp => tm (by rw [ho]; simp only [Op.operands]; exact (by simpa using ⟨p.1, by simpa using hp⟩)) q1
          have e2 : (parts.toList.map fun p => rd S' p.2) = parts.toList.map fun p => rd S p.2 := List.map_congr_left e1
          unfold litW at hl ⊢
          rw [e2]; exact hl
        obtain ⟨dst, op, ty, pos, aft, gd⟩ := o
        simp only at ho hd
        subst ho; subst hd
        obtain ⟨e, cs0, cells', rfl, k1, k2, k3⟩ := litW_run hT hr.sees hlS hp
        exact wp_run (fun c => by simp) (by rw [ex_lit, Sem.run_bind, k2]; rfl) (hn _ Z _ _ (fun k hk => by simp [beq_no hk]) (hr.newCells (ty := e) (hdn d rfl) hnm (Nat.le_refl _) hlt k1 (.ms _ _ _ _ _ (by simp) (Nat.le_refl _) k3) (fun p => by simp [spareOf])))
      · cases h
    · exact plain d hd h
  · rename_i t d ho hd
    split at h
    · rename_i h1
      simp only [Bool.and_eq_true, Bool.not_eq_true'] at h1
      simp only [Option.some.injEq, Prod.mk.injEq] at h
      obtain ⟨rfl, rfl, rfl⟩ := h
      refine .of_P fun S' H' c' k1 k2 => ?_
      have et : S' t = S t := k1 t (by rw [ho]; simp [opTmps, Op.operands])
      refine DoesP.take (.inr ho) hd (fun e1 => by subst e1; simp at h1) ?_
      show (⟨upd (upd S' t (S' t).down) d (S' t), H', c'⟩ : St) = _
      rw [et]; rfl
    · exact plain d hd h
  · rename_i t d ho hd
    split at h
    · rename_i h1
      simp only [Bool.and_eq_true, Bool.not_eq_true'] at h1
      simp only [Option.some.injEq, Prod.mk.injEq] at h
      obtain ⟨rfl, rfl, rfl⟩ := h
      refine .of_P fun S' H' c' k1 k2 => ?_
      have et : S' t = S t := k1 t (by rw [ho]; simp [opTmps, Op.operands])
      refine DoesP.take (.inl ho) hd (fun e1 => by subst e1; simp at h1) ?_
      show (⟨upd (upd S' t (S' t).down) d (S' t), H', c'⟩ : St) = _
      rw [et]; rfl
    · exact plain d hd h
  · rename_i args at' d ho hd
    split at h
    · rename_i tx y t t' ha ht
      obtain rfl := two_arg ha
      obtain rfl := two_arg ht
      split at h
      · split at h
        · rename_i el es nil2 cap2 ys el' h1 h2 h3
          split at h
          · cases h
          · cases h
          · rename_i h4 h5 h6 h7 h8
            obtain rfl := Nat.eq_of_beq_eq_true h4
            obtain rfl := Nat.eq_of_beq_eq_true h5
            simp only [Option.some.injEq, Prod.mk.injEq] at h
            obtain ⟨rfl, rfl, rfl⟩ := h
            refine .of_P fun S' H' c' j1 j2 => ?_
            have et : S' tx = S tx := j1 tx (by rw [ho]; simp [opTmps, Op.operands, Call.operands])
            have ey : rd S' y = rd S y := tm (by rw [ho]; simp [Op.operands, Call.operands]) j1
            refine DoesP.appOwnW hT ho hd h3 (by assumption) (Nat.pos_of_ne_zero (by assumption)) (by show S' tx = _; rw [et]; exact h1) (by show rd S' y = _; rw [ey]; exact h2) (fun e => by subst e; simp at h6) (fun z hz => (List.mem_append.1 hz).elim (hp.2.1 z) (hp.1 z)) (.inr hp.2.2.1) hp.2.2.2.1 ?_
            show (⟨upd (upd S' tx (S' tx).down) d _, H', c'⟩ : St) = _
            rw [et]; rfl
          · cases h
        · exact plain d hd h
      · split at h
        · rename_i el es nil2 cap2 ys el' h1 h2 h3
          split at h
          · cases h
          · cases h
          · rename_i h4 h5 h6 h7 h8
            obtain rfl := Nat.eq_of_beq_eq_true h4
            obtain rfl := Nat.eq_of_beq_eq_true h5
            simp only [Option.some.injEq, Prod.mk.injEq] at h
            obtain ⟨rfl, rfl, rfl⟩ := h
            refine .of_P fun S' H' c' j1 j2 => ?_
            have et : S' tx = S tx := j1 tx (by rw [ho]; simp [opTmps, Op.operands, Call.operands])
            have ey : rd S' y = rd S y := tm (by rw [ho]; simp [Op.operands, Call.operands]) j1
            refine DoesP.appOwn hT ho hd h3 (by assumption) (Nat.pos_of_ne_zero (by assumption)) (by show S' tx = _; rw [et]; exact h1) (by show rd S' y = _; rw [ey]; exact h2) (fun e => by subst e; simp at h6) (fun z hz => (List.mem_append.1 hz).elim (hp.2.1 z) (hp.1 z)) hp.2.2.1 hp.2.2.2.1 ?_
            show (⟨upd (upd S' tx (S' tx).down) d _, H', c'⟩ : St) = _
            rw [et]; rfl
          · cases h
        · exact plain d hd h
    · exact plain d hd h
  · rename_i f args at' d ho hd
    split at h
    · rename_i hf
      simp only [Option.some.injEq, Prod.mk.injEq] at h
      obtain ⟨rfl, rfl, rfl⟩ := h
      exact NewMap.fire ho hd hf hp.1
    · rename_i hf
      simp only [Option.some.injEq, Prod.mk.injEq] at h
      obtain ⟨rfl, rfl, rfl⟩ := h
      exact RCall.fire ho hd hf hp.1
    · exact plain d hd h
  · rename_i t d ho hd
    simp only [Option.some.injEq, Prod.mk.injEq] at h
    obtain ⟨rfl, rfl, rfl⟩ := h
    intro hdn S' H' c' φ Z a w hr h1 h2 hnm hlt next Q hn
    obtain ⟨dst, op, ty, pos, aft, gd⟩ := o
    simp only at ho hd; subst ho; subst hd
    have m : More w (w.alloc (.map #[] 0)) Z Z := ⟨Quiet.alloc _ _, fun _ _ h => h, fun _ _ h _ => h, fun b o hz hb => by have := hr.zlt hz; omega⟩
    have h1 := hr.newBox (bx := .map []) (b := w.heap.size) (nm := nm) (c' := c') m hnm (Nat.le_refl _) hlt (Nat.le_refl _) (fun o hz => by have := hr.zlt hz; omega)
      ⟨#[], heap_alloc_new w _, rfl, fun i hi => by simp at hi⟩ (fun j v p => by simp [cellOf, spareOf])
    have h2 := h1.put_down h1.more_refl (hdn d rfl) (x := .mp nm) (v := .map (some w.heap.size)) (.mp _ _ (by simp)) (fun p => by simp [spareOf])
    exact wp_run (v := .map (some w.heap.size)) (w' := w.alloc (.map #[] 0)) (fun c => by simp) (by rw [ex_makeMap]; rfl) (hn _ Z _ _ (fun k hk => by simp [beq_no hk]) h2)
  · rename_i t x k v ho hd
    split at h
    · rename_i kt et id ht hx
      split at h
      · rename_i kvs hl
        simp only [forceK_eq, Option.some.injEq, Prod.mk.injEq] at h
        obtain ⟨rfl, rfl, rfl⟩ := h
        obtain ⟨⟨j, hj⟩, _⟩ := hp
        rw [hj.ix]
        obtain ⟨ks, kv, k1, k2, k3, k4, k5, k6⟩ := hj.ex
        refine .of_P fun S' H' c' q1 q2 => ?_
        have ex : rd S' x = rd S x := tm (by rw [ho]; simp [Op.operands]) q1
        have ek : rd S' k = rd S k := tm (by rw [ho]; simp [Op.operands]) q1
        have ev : rd S' v = rd S v := tm (by rw [ho]; simp [Op.operands]) q1
        refine DoesP.mapUpdate hT ho hd ht (by show rd S' x = _; rw [ex]; exact hx) (by show H' id = _; rw [q2 id (by simp)]; exact hl) (by show concA (rd S' k) = _; rw [ek]; exact k1) k2 k4 k5 k6 ?_
        show (⟨S', updH H' id (some (.map (upKV kvs (rd S' k) (rd S' v).down j))), c'⟩ : St) = _
        rw [ek, ev]; rfl
      · cases h
    · cases h
  · rename_i t x k d ho hd
    split at h
    · rename_i kt et id v ht hx
      split at h
      · cases h
      · rename_i kvs hl he
        simp only [forceK_eq, Option.some.injEq, Prod.mk.injEq] at h
        obtain ⟨rfl, rfl, rfl⟩ := h
        obtain ⟨⟨j, hj⟩, hv, _⟩ := hp
        have hv : v = _ := hv
        rw [hj.ix] at hv ⊢
        subst hv
        obtain ⟨ks, kv, k1, k2, k3, k4, k5, k6⟩ := hj.ex
        refine .of_P fun S' H' c' q1 q2 => ?_
        have ex : rd S' x = rd S x := tm (by rw [ho]; simp [Op.operands]) q1
        have ek : rd S' k = rd S k := tm (by rw [ho]; simp [Op.operands]) q1
        refine DoesP.mapEntry hT ho hd ht (by assumption) (by show rd S' x = _; rw [ex]; assumption) (by show H' id = _; rw [q2 id (by simp)]; assumption) (by show concA (rd S' k) = _; rw [ek]; exact k1) k2 k4 k5 k6 ?_
        show (⟨upd S' d _, updH H' id (some (.map (upKV kvs (rd S' k) (lkA T et kvs j) j))), c'⟩ : St) = _
        rw [ek]; cases j <;> rfl
      · cases h
    · cases h
  · rename_i t x st v ho hd
    split at h
    · rename_i id n hx hst
      split at h
      · rename_i kvs hl
        simp only [Option.some.injEq, Prod.mk.injEq] at h
        obtain ⟨rfl, rfl, rfl⟩ := h
        obtain ⟨h0, h1, _⟩ := hp
        have h0 : 0 ≤ n := h0
        refine .of_P fun S' H' c' q1 q2 => ?_
        have ex : rd S' x = rd S x := tm (by rw [ho]; simp [Op.operands]) q1
        have es : rd S' st = rd S st := tm (by rw [ho]; simp [Op.operands]) q1
        have ev : rd S' v = rd S v := tm (by rw [ho]; simp [Op.operands]) q1
        refine DoesP.entryStore hT ho hd (by show rd S' x = _; rw [ex]; exact hx) (by show H' id = _; rw [q2 id (by simp)]; exact hl) (by show rd S' st = _; rw [es, Int.toNat_of_nonneg h0]; exact hst) h1 ?_
        show (⟨S', updH H' id (some (.map (kvs.set n.toNat ((kvs.getD n.toNat (.un, .un)).1, (rd S' v).down)))), c'⟩ : St) = _
        rw [ev]; rfl
      · cases h
    · cases h
  · exact plain _ (by assumption) h
  · cases h
theorem gM_fire (hT : T.Ok X.P) {nm : Nat} {f : Eff} {hr : List Nat} {ht : Option (List A)} {p : List Ob} (h : gM X.P T mb all nm o S H ht = some (f, hr, p)) (hp : AllP p) : FireOk X r all o (rst all o) hr S H f nm := by
  unfold gM at h
  split at h
  · rename_i hg
    intro hd S' H' c' φ Z a w hr' h1 h2 h3 h4 next Q hn
    unfold StepW
    rw [if_pos (wanted_none hg _)]
    exact dM_fire hT h hp hd S' H' c' φ Z a w hr' (fun t ht => h1 t (List.mem_append_left _ ht)) h2 h3 h4 next Q hn
  · rename_i j want hg
    split at h
    · rename_i t d hj hd
      split at h
      · rename_i q hS
        split at h
        rename_i H1 hr1 hrd
        split at h
        · rename_i v p' hev
          simp only [Option.some.injEq, Prod.mk.injEq] at h
          obtain ⟨rfl, rfl, rfl⟩ := h
          rw [AllP.append] at hp
          intro hdn S' H' c' φ Z a w hr' h1 h2 h3 h4 next Q hn
          have ht' : gv (S' t) want = some q := by rw [h1 t (List.mem_append_right _ (by simp [guardTmps, hg, hj])), hS]
          have hop : ∀ t', t' ∈ opTmps o.op → S' t' = S t' := fun t' ht' => h1 t' (List.mem_append_left _ ht')
          exact step_valgM (s := ⟨S', H', c'⟩) hT hg hj ht' hd (fun hq t' ht' hg' => by show guardOf (S' t') = true; rw [hop t' ht']; exact owed_ok (under_ok hp.1 hq) t' (List.mem_filter.2 ⟨ht', hg'⟩))
            (fun hq => (evM_sound hev (under_ok hp.2 hq)).congr (fun t' ht' => by show gS o.op S' t' = gS o.op S t'; unfold gS; rw [hop t' ht']) (reads_ok hrd H' h2)) hdn hr'
            fun Z' a' w' hr2 => hn φ Z' a' w' (fun _ _ => rfl) hr2
        · cases h
      · cases h
    · cases h
end
def runMD (P : Program) (T : Tab) (mb : Nat → Bool) (all : Array Oper) (c0 : Nat) (hs : List (Nat × List A)) : List Oper → Nat → Slots → Hp → List Ob → Option (Slots × Hp × List (Eff × List Nat) × List Ob)
  | [], _, S, H, ob => some (S, H, [], ob)
  | o :: l, i, S, H, ob => match gM P T mb all (c0 + i) o S H (lkHint hs i) with
    | some (f, hr, p) => match f.ws.all fun q => (wstM all o).any (Nat.beq q.1) with
      | true => forceO p ob fun ob => match runMD P T mb all c0 hs l (i + 1) (apS S f.ws) (apH H f.hs) ob with
        | some (S', H', fs, ob') => some (S', H', (f, hr) :: fs, ob')
        | none => none
      | false => none
    | none => none
theorem runMD_ok {X : Ctx} {T : Tab} {r : Option Nat} {mb : Nat → Bool} {all : Array Oper} {c0 : Nat} {hs : List (Nat × List A)} (hT : T.Ok X.P) : ∀ (l : List Oper) (i : Nat) {S S' : Slots} {H H' : Hp} {fs : List (Eff × List Nat)} {ob ob' : List Ob},
    runMD X.P T mb all c0 hs l i S H ob = some (S', H', fs, ob') → AllP ob' →
    AllP ob ∧ fs.length = l.length ∧ S' = apAll S (fs.map (·.1)) ∧ H' = apAllH H (fs.map (·.1)) ∧
    ∀ k o f hr, l[k]? = some o → fs[k]? = some (f, hr) → FireOk X r all o (rst all o) hr (apAll S ((fs.map (·.1)).take k)) (apAllH H ((fs.map (·.1)).take k)) f (c0 + (i + k)) ∧ ∀ t, t ∈ f.ws.map (·.1) → t ∈ wstM all o
  | [], i, S, S', H, H', fs, ob, ob', h, ho => by
    simp only [runMD, Option.some.injEq, Prod.mk.injEq] at h
    obtain ⟨rfl, rfl, rfl, rfl⟩ := h
    exact ⟨ho, rfl, rfl, rfl, fun k o f hr h => by simp at h⟩
  | o :: l, i, S, S', H, H', fs, ob, ob', h, ho => by
    unfold runMD at h
    split at h
    · rename_i f hr p hst
      split at h
      · rename_i hws
        rw [forceO_eq] at h
        split at h
        · rename_i S1 H1 fs1 ob1 hrun
          simp only [Option.some.injEq, Prod.mk.injEq] at h
          obtain ⟨rfl, rfl, rfl, rfl⟩ := h
          obtain ⟨k0, k1, k2, k3, k4⟩ := runMD_ok (r := r) hT l (i + 1) hrun ho
          rw [AllP.append] at k0
          refine ⟨k0.2, by simp [k1], k2, k3, fun k o' f' hr' ho' hf => ?_⟩
          cases k with
          | zero =>
            simp only [List.getElem?_cons_zero, Option.some.injEq] at ho' hf
            subst ho'; cases hf
            refine ⟨gM_fire hT hst k0.1, fun t ht => ?_⟩
            obtain ⟨p, hp, rfl⟩ := List.mem_map.1 ht
            have := List.all_eq_true.1 hws p hp
            obtain ⟨y, hy, hy2⟩ := List.any_eq_true.1 this
            rw [Nat.eq_of_beq_eq_true hy2]; exact hy
          | succ k =>
            have := k4 k o' f' hr' (by simpa using ho') (by simpa using hf)
            rw [show i + 1 + k = i + (k + 1) by omega] at this
            exact this
        · cases h
      · cases h
    · cases h
def confB (ms : List Nat) (b m : Nat) (W R : Nat → List Nat) : Bool := (List.range m).all fun i => match W i with
  | [] => true
  | _ => (List.range m).all fun j => Nat.beq i j || (cond (Nat.blt i j) ((ms.getD (b + j) 0).testBit (b + i)) ((ms.getD (b + i) 0).testBit (b + j)) || (disj (W i) (W j) && disj (W i) (R j)))
theorem confB_at {ms : List Nat} {b m : Nat} {W R : Nat → List Nat} (h : confB ms b m W R = true) {i j : Nat} (hi : i < m) (hj : j < m) (hne : i ≠ j) (hb : cond (Nat.blt i j) ((ms.getD (b + j) 0).testBit (b + i)) ((ms.getD (b + i) 0).testBit (b + j)) = false) :
    ∀ t, t ∈ W i → t ∉ W j ∧ t ∉ R j := fun t ht => by
  have h1 := List.all_eq_true.1 h i (List.mem_range.2 hi)
  split at h1
  · rename_i e; rw [e] at ht; cases ht
  · have h2 := List.all_eq_true.1 h1 j (List.mem_range.2 hj)
    rw [beq_no hne, hb] at h2
    simp only [Bool.false_or, Bool.and_eq_true] at h2
    exact ⟨disj_ok h2.1 t ht, disj_ok h2.2 t ht⟩
theorem confB_ok {ms : List Nat} {b m : Nat} {W R : Nat → List Nat} (h : confB ms b m W R = true) {i j : Nat} (hij : i < j) (hj : j < m) (hb : (ms.getD (b + j) 0).testBit (b + i) = false) :
    (∀ t, t ∈ W i → t ∉ R j ∧ t ∉ W j) ∧ ∀ t, t ∈ R i → t ∉ W j := by
  refine ⟨fun t ht => ?_, fun t ht hw => ?_⟩
  · have := confB_at h (show i < m by omega) hj (by omega) (by rw [blt_of hij]; exact hb) t ht
    exact ⟨this.2, this.1⟩
  · exact (confB_at h hj (show i < m by omega) (by omega) (by rw [blt_no (by omega)]; exact hb) t hw).2 ht
def barB (ms : List Nat) (b m n : Nat) : Bool := (List.range n).all fun i => Nat.blt i (b + m) || (List.range m).all fun k => (ms.getD i 0).testBit (b + k)
theorem barB_ok {ms : List Nat} {b m n : Nat} (h : barB ms b m n = true) : ∀ i k, b + m ≤ i → i < n → b ≤ k → k < b + m → (ms.getD i 0).testBit k = true := fun i k h1 h2 h3 h4 => by
  have := List.all_eq_true.1 h i (List.mem_range.2 h2)
  rw [blt_no (by omega), Bool.false_or] at this
  have := List.all_eq_true.1 this (k - b) (List.mem_range.2 (by omega))
  rwa [show b + (k - b) = k by omega] at this
def opsW (all : Array Oper) (b : Nat) (i : Nat) : List Nat := match all.toList[b + i]? with | some o => wstM all o | none => []
def opsR (all : Array Oper) (b : Nat) (i : Nat) : List Nat := match all.toList[b + i]? with | some o => rst all o | none => []
def namesW (fs : List (Eff × List Nat)) (i : Nat) : List Nat := match fs[i]? with | some p => p.1.hs.map (·.1) | none => []
def namesR (fs : List (Eff × List Nat)) (i : Nat) : List Nat := match fs[i]? with | some p => p.2 | none => []
def pieceOk (ops : Array Oper) (b m : Nat) : Bool := edgesOk ops.toList 0 && (Nat.ble (b + m) ops.size && (barB (masks ops.toList []) b m ops.size && confB (masks ops.toList []) b m (opsW ops b) (opsR ops b)))
section
variable {X : Ctx} {T : Tab} {r : Option Nat} {mb : Nat → Bool} {ops : Array Oper} {Q : Exit → St → Prop} {s : St}
theorem SegW.run (hT : T.Ok X.P) (mb : Nat → Bool) {b : Nat} (m : Nat) (hs : List (Nat × List A)) (hd : dstsOk X.nt ops = true) (hp : pieceOk ops b m = true) {S' : Slots} {H' : Hp} {fs : List (Eff × List Nat)} {ob : List Ob}
    (h : runMD X.P T mb ops s.c hs ((ops.toList.drop b).take m) 0 s.S s.H [] = some (S', H', fs, ob)) (hc : confB (masks ops.toList []) b m (namesW fs) (namesR fs) = true) (ho : AllP ob)
    (k : SegW X r ops Q (b + m) ⟨S', H', s.c + m⟩) : SegW X r ops Q b s := by
  simp only [pieceOk, Bool.and_eq_true] at hp
  obtain ⟨he, hle, hbar, hcs⟩ := hp
  have hle := Nat.le_of_ble_eq_true hle
  obtain ⟨_, k1, k2, k3, k4⟩ := runMD_ok (X := X) (r := r) hT _ _ h ho
  have hlen : fs.length = m := by rw [k1, List.length_take, List.length_drop]; simp; omega
  have hlen2 : (fs.map (·.1)).length = m := by simpa using hlen
  have at0 : ∀ i o, i < m → ops.toList[b + i]? = some o → ((ops.toList.drop b).take m)[i]? = some o := fun i o hi ho => by
    rw [List.getElem?_take, if_pos hi, List.getElem?_drop]; exact ho
  have at1 : ∀ i f, (fs.map (·.1))[i]? = some f → ∃ hr o, fs[i]? = some (f, hr) ∧ ops.toList[b + i]? = some o ∧ i < m := fun i f hf => by
    have hi : i < m := by rw [← hlen2]; exact (List.getElem?_eq_some_iff.1 hf).1
    obtain ⟨p, hp, rfl⟩ : ∃ p, fs[i]? = some p ∧ p.1 = f := by simpa [List.getElem?_map] using hf
    exact ⟨p.2, ops.toList[b + i]'(by simp; omega), hp, by simp [show b + i < ops.size by omega], hi⟩
  refine SegW.draw (fs.map (·.1)) ((List.range m).map (opsR ops b)) (fs.map (·.2)) hd he (by omega) ?_ ?_ ?_ ?_
  · intro i j fi fj hij hi hj hb
    obtain ⟨hri, oi, a1, a2, a3⟩ := at1 i fi hi
    obtain ⟨hrj, oj, b1, b2, b3⟩ := at1 j fj hj
    have s1 := confB_ok hcs hij b3 hb
    have s2 := confB_ok hc hij b3 hb
    simp only [opsW, opsR, a2, b2] at s1
    simp only [namesW, namesR, a1, b1] at s2
    have wi := (k4 i oi fi hri (at0 i oi a3 a2) a1).2
    have wj := (k4 j oj fj hrj (at0 j oj b3 b2) b1).2
    have gi : ((List.range m).map (opsR ops b)).getD i [] = rst ops oi := by simp [List.getD_eq_getElem?_getD, List.getElem?_map, a3, opsR, a2, show (ops.toList[b + i]?) = some oi from a2]
    have gj : ((List.range m).map (opsR ops b)).getD j [] = rst ops oj := by simp [List.getD_eq_getElem?_getD, List.getElem?_map, b3, opsR, b2, show (ops.toList[b + j]?) = some oj from b2]
    have hi' : (fs.map (·.2)).getD i [] = hri := by simp [List.getD_eq_getElem?_getD, List.getElem?_map, a1]
    have hj' : (fs.map (·.2)).getD j [] = hrj := by simp [List.getD_eq_getElem?_getD, List.getElem?_map, b1]
    rw [gi, gj, hi', hj']
    exact ⟨⟨fun t ht => ⟨(s1.1 t (wi t ht)).1, fun ht' => (s1.1 t (wi t ht)).2 (wj t ht')⟩, fun t ht ht' => s1.2 t ht (wj t ht')⟩, s2⟩
  · intro i k hi hi2 hk hk2
    rw [hlen2] at hi hk2
    exact barB_ok hbar i k hi hi2 hk hk2
  · intro i o f ho hf L _
    refine FireOk.g ?_
    obtain ⟨hr, o', a1, a2, a3⟩ := at1 i f hf
    have : o' = o := by rw [Array.getElem?_toList, ho] at a2; cases a2; rfl
    subst this
    have := (k4 i o' f hr (at0 i o' a3 a2) a1).1
    have gi : ((List.range m).map (opsR ops b)).getD i [] = rst ops o' := by simp [List.getD_eq_getElem?_getD, List.getElem?_map, a3, opsR, a2, show (ops.toList[b + i]?) = some o' from a2]
    have hi' : (fs.map (·.2)).getD i [] = hr := by simp [List.getD_eq_getElem?_getD, List.getElem?_map, a1]
    have p1 := LS_prefix (fs.map (·.1)) 0 i s.S
    have p2 := LH_prefix (fs.map (·.1)) 0 i s.H
    rw [Nat.zero_add] at p1 p2
    rw [gi, hi', p1, p2]
    simpa using this
  · have p1 := LS_prefix (fs.map (·.1)) 0 (fs.map (·.1)).length s.S
    have p2 := LH_prefix (fs.map (·.1)) 0 (fs.map (·.1)).length s.H
    rw [Nat.zero_add, List.take_length] at p1 p2
    rw [p1, p2, hlen2, ← k2, ← k3]
    exact k
def relax (i0 : Nat) (f : Nat → List Nat) : Nat → List Nat := fun i => cond (Nat.beq i i0) [] (f i)
theorem SegW.runS (i0 : Nat) (hT : T.Ok X.P) (mb : Nat → Bool) {b : Nat} (m : Nat) (hs : List (Nat × List A)) (hd : dstsOk X.nt ops = true) (hp : pieceOk ops b m = true) {S' : Slots} {H' : Hp} {fs : List (Eff × List Nat)} {ob : List Ob}
    (h : runMD X.P T mb ops s.c hs ((ops.toList.drop b).take m) 0 s.S s.H [] = some (S', H', fs, ob)) (hc : confB (masks ops.toList []) b m (namesW fs) (relax i0 (namesR fs)) = true)
    (soft : ∀ o f (L : Nat → Bool), ops[b + i0]? = some o → (fs.map (·.1))[i0]? = some f → (∀ j, j < m → i0 < j → ((masks ops.toList []).getD (b + j) 0).testBit (b + i0) = true → L j = false) →
      FireG X r ops o (rst ops o) [] (LS (fun k => Nat.blt k i0) (fs.map (·.1)) 0 s.S) (LH (fun k => Nat.blt k i0) (fs.map (·.1)) 0 s.H) f (s.c + i0) (fun H' => H' = LH L (fs.map (·.1)) 0 s.H)) (ho : AllP ob)
    (k : SegW X r ops Q (b + m) ⟨S', H', s.c + m⟩) : SegW X r ops Q b s := by
  simp only [pieceOk, Bool.and_eq_true] at hp
  obtain ⟨he, hle, hbar, hcs⟩ := hp
  have hle := Nat.le_of_ble_eq_true hle
  obtain ⟨_, k1, k2, k3, k4⟩ := runMD_ok (X := X) (r := r) hT _ _ h ho
  have hlen : fs.length = m := by rw [k1, List.length_take, List.length_drop]; simp; omega
  have hlen2 : (fs.map (·.1)).length = m := by simpa using hlen
  have at0 : ∀ i o, i < m → ops.toList[b + i]? = some o → ((ops.toList.drop b).take m)[i]? = some o := fun i o hi ho => by
    rw [List.getElem?_take, if_pos hi, List.getElem?_drop]; exact ho
  have at1 : ∀ i f, (fs.map (·.1))[i]? = some f → ∃ hr o, fs[i]? = some (f, hr) ∧ ops.toList[b + i]? = some o ∧ i < m := fun i f hf => by
    have hi : i < m := by rw [← hlen2]; exact (List.getElem?_eq_some_iff.1 hf).1
    obtain ⟨p, hp, rfl⟩ : ∃ p, fs[i]? = some p ∧ p.1 = f := by simpa [List.getElem?_map] using hf
    exact ⟨p.2, ops.toList[b + i]'(by simp; omega), hp, by simp [show b + i < ops.size by omega], hi⟩
  refine SegW.draw (fs.map (·.1)) ((List.range m).map (opsR ops b)) ((List.range m).map (relax i0 (namesR fs))) hd he (by omega) ?_ ?_ ?_ ?_
  · intro i j fi fj hij hi hj hb
    obtain ⟨hri, oi, a1, a2, a3⟩ := at1 i fi hi
    obtain ⟨hrj, oj, b1, b2, b3⟩ := at1 j fj hj
    have s1 := confB_ok hcs hij b3 hb
    have s2 := confB_ok hc hij b3 hb
    simp only [opsW, opsR, a2, b2] at s1
    simp only [namesW, namesR, a1, b1] at s2
    have wi := (k4 i oi fi hri (at0 i oi a3 a2) a1).2
    have wj := (k4 j oj fj hrj (at0 j oj b3 b2) b1).2
    have gi : ((List.range m).map (opsR ops b)).getD i [] = rst ops oi := by simp [List.getD_eq_getElem?_getD, List.getElem?_map, a3, opsR, a2, show (ops.toList[b + i]?) = some oi from a2]
    have gj : ((List.range m).map (opsR ops b)).getD j [] = rst ops oj := by simp [List.getD_eq_getElem?_getD, List.getElem?_map, b3, opsR, b2, show (ops.toList[b + j]?) = some oj from b2]
    have hi' : ((List.range m).map (relax i0 (namesR fs))).getD i [] = relax i0 (namesR fs) i := by simp [List.getD_eq_getElem?_getD, List.getElem?_map, a3]
    have hj' : ((List.range m).map (relax i0 (namesR fs))).getD j [] = relax i0 (namesR fs) j := by simp [List.getD_eq_getElem?_getD, List.getElem?_map, b3]
    rw [gi, gj, hi', hj']
    exact ⟨⟨fun t ht => ⟨(s1.1 t (wi t ht)).1, fun ht' => (s1.1 t (wi t ht)).2 (wj t ht')⟩, fun t ht ht' => s1.2 t ht (wj t ht')⟩, s2⟩
  · intro i k hi hi2 hk hk2
    rw [hlen2] at hi hk2
    exact barB_ok hbar i k hi hi2 hk hk2
  · intro i o f ho hf L hL
    obtain ⟨hr, o', a1, a2, a3⟩ := at1 i f hf
    have : o' = o := by rw [Array.getElem?_toList, ho] at a2; cases a2; rfl
    subst this
    have gi : ((List.range m).map (opsR ops b)).getD i [] = rst ops o' := by simp [List.getD_eq_getElem?_getD, List.getElem?_map, a3, opsR, a2, show (ops.toList[b + i]?) = some o' from a2]
    have hi' : ((List.range m).map (relax i0 (namesR fs))).getD i [] = relax i0 (namesR fs) i := by simp [List.getD_eq_getElem?_getD, List.getElem?_map, a3]
    by_cases e0 : i = i0
    · subst e0
      have : relax i (namesR fs) i = [] := by simp [relax]
      rw [gi, hi', this]
      exact soft o' f L ho hf fun j hj hij hb => hL j (by rw [hlen2]; exact hj) hij hb
    · refine FireOk.g ?_
      have := (k4 i o' f hr (at0 i o' a3 a2) a1).1
      have hr' : relax i0 (namesR fs) i = hr := by simp [relax, beq_no e0, namesR, a1]
      have p1 := LS_prefix (fs.map (·.1)) 0 i s.S
      have p2 := LH_prefix (fs.map (·.1)) 0 i s.H
      rw [Nat.zero_add] at p1 p2
      rw [gi, hi', hr', p1, p2]
      simpa using this
  · have p1 := LS_prefix (fs.map (·.1)) 0 (fs.map (·.1)).length s.S
    have p2 := LH_prefix (fs.map (·.1)) 0 (fs.map (·.1)).length s.H
    rw [Nat.zero_add, List.take_length] at p1 p2
    rw [p1, p2, hlen2, ← k2, ← k3]
    exact k
theorem Aw.sd (hT : T.Ok X.P) (hm : X.P.follows .mixedOrders = true) (mb : Nat → Bool) {id : Nat} {y : Code} (hs : List (Nat × List A)) (hd : dstsOk X.nt ops = true) (hp : pieceOk ops 0 ops.size = true) {S' : Slots} {H' : Hp} {fs : List (Eff × List Nat)} {ob : List Ob}
    (h : runMD X.P T mb ops s.c hs ops.toList 0 s.S s.H [] = some (S', H', fs, ob)) (hc : confB (masks ops.toList []) 0 ops.size (namesW fs) (namesR fs) = true) (ho : AllP ob)
    (k : Aw X r y Q ⟨S', H', s.c + ops.size⟩) : Aw X r (.seq (.region id ops true) y) Q s := by
  refine Aw.seq (SegW.start hm (SegW.run (b := 0) hT mb ops.size hs hd hp (by rw [List.drop_zero, List.take_of_length_le (by simp)]; exact h) hc ho ?_))
  have he : edgesOk ops.toList 0 = true := by simp only [pieceOk, Bool.and_eq_true] at hp; exact hp.1
  exact SegW.done he (by omega) k
theorem Aw.ed (hT : T.Ok X.P) (hm : X.P.follows .mixedOrders = true) (mb : Nat → Bool) {id : Nat} (hs : List (Nat × List A)) (hd : dstsOk X.nt ops = true) (hp : pieceOk ops 0 ops.size = true) {S' : Slots} {H' : Hp} {fs : List (Eff × List Nat)} {ob : List Ob}
    (h : runMD X.P T mb ops s.c hs ops.toList 0 s.S s.H [] = some (S', H', fs, ob)) (hc : confB (masks ops.toList []) 0 ops.size (namesW fs) (namesR fs) = true) (ho : AllP ob)
    (k : Q .normal ⟨S', H', s.c + ops.size⟩) : Aw X r (.region id ops true) Q s := by
  refine SegW.start hm (SegW.run (b := 0) hT mb ops.size hs hd hp (by rw [List.drop_zero, List.take_of_length_le (by simp)]; exact h) hc ho ?_)
  have he : edgesOk ops.toList 0 = true := by simp only [pieceOk, Bool.and_eq_true] at hp; exact hp.1
  exact SegW.done he (by omega) k
end
theorem resC {P : Program} {T : Tab} {s : St} {t ty id off : Nat} {cs : List A} {v : A} (h1 : s.S t = .ref id off) (h2 : s.H id = some (.cells cs)) (hty : (T.ty ty).isAgg = true) (hl : Nat.ble (off + T.sz ty) cs.length = true)
    (hv : A.agg (((cs.drop off).take (T.sz ty)).map A.down) = v) : ResV P T s (.cell t ty) v :=
  hv ▸ .cell (ty' := ty) (.loadRefAgg h1 h2 (fun h => by rw [h] at hty; cases hty) hty (Nat.le_of_ble_eq_true hl))
theorem resO {P : Program} {T : Tab} {s : St} {t ty id off : Nat} {cs : List A} {v : A} (h1 : s.S t = .ref id off) (h2 : s.H id = some (.cells cs)) (hn : T.ty ty ≠ .none) (hty : (T.ty ty).isAgg = false) (hl : Nat.blt off cs.length = true)
    (hv : (cs.getD off .un).down = v) : ResV P T s (.cell t ty) v :=
  hv ▸ .cell (ty' := ty) (.loadRefOne h1 h2 hn hty (by simpa [Nat.blt_eq] using hl))
end Go.AL

namespace Go.AL
open Go Go.RowKit
def allZ (w : World) : Still := fun b o => ∃ u, w.cell? ⟨b, o, none⟩ = some u
section
variable {H : Type} {enc : TypeId × Value → H} {P : Program} {w : World} {base : Nat} {spare : Nat → Bool} {held : Bool} {φ : Names}
theorem cells_at {a : Addr} {n : Nat} {cs : List Value} (h : w.cells? base a n = some cs) : cs.length = n ∧ ∀ j, j < n → w.cell? (a.add j) = cs[j]? := by
  unfold World.cells? at h
  split at h
  · exact ⟨by simpa using mapM_some_length h, fun j hj => mapM_some_get h j j (by simp [hj])⟩
  · cases h
theorem add_plain (b off k : Nat) : (⟨b, off, none⟩ : Addr).add k = ⟨b, off + k, none⟩ := by
  unfold Addr.add; split
  · rename_i h; subst h; rfl
  · rfl
end
end Go.AL

namespace Go.AL
open Go Go.RowKit Go.ChangeShapes Go.WideShapes
theorem Quiet.below {w w' : World} (h : Quiet w w') : Below w.heap.size w w' := ⟨h.os, h.tape, h.output, h.size, h.block⟩
section
variable {H : Type} {enc : TypeId × Value → H} {P : Program}
theorem trodAll_below (hl : laidOutB P = true) {W W' : World} (hb : Below W.heap.size W W') {sp : Nat → Bool} (hsp : ∀ b, b < W.heap.size → sp b = true) : ∀ {ts : List TypeId} {vs : List Value} {ds : List (DataW H)} {ps : List MemPlace},
    (∀ t ∈ ts, P.readableRec t = true ∧ t < P.types.size) → DataW.TrodAll enc P W 0 (fun _ => true) true ts vs ds ps → (∀ x ∈ ps, x.block < W.heap.size) → DataW.TrodAll enc P W' 0 sp true ts vs ds ps
  | [], vs, ds, ps, _, h, _ => by
    obtain ⟨rfl, rfl, rfl⟩ := trodAll_nil h
    exact rfl
  | t :: ts, vs, ds, ps, ht, h, hlt => by
    obtain ⟨v, vs1, d, ds1, a, b, rfl, rfl, rfl, h1, h2⟩ := trodAll_cons h
    refine ⟨a, b, ?_, trodAll_below hl hb hsp (fun t ht' => ht t (List.mem_cons_of_mem _ ht')) h2 (fun x hx => hlt x (List.mem_append.2 (.inr hx))), rfl⟩
    have hlt1 : ∀ x ∈ a, x.block < W.heap.size := fun x hx => hlt x (List.mem_append.2 (.inl hx))
    exact WideElems.Trod_stays hl (ht t (List.mem_cons_self ..)).1 (ht t (List.mem_cons_self ..)).2 h1 (fun x hx => hb.same (hlt1 x hx)) (fun x hx => hsp _ (hlt1 x hx))
theorem post_below {f : Func} {s : ChangeSpec} {apart fresh handsOn again : Bool} {W W' : World} {args : Array Value} {v : Value} {ds : List (DataW H)} {before : List MemPlace}
    (hl : laidOutB P = true) (hts : ∀ t ∈ f.params.toList, P.readableRec t = true ∧ t < P.types.size) (hv : s.vars = [])
    (hW : DataW.Whole enc P f.params.toList s.vars apart W args.toList ds [] before) (hb : Below W.heap.size W W')
    (hsa : (s.fn H (ds ++ [])).args = ds) (hsv : (s.fn H (ds ++ [])).vars = [])
    (hres : ∀ (b : Nat) (sp : Nat → Bool) (hd : Bool), DataW.TrodAll enc P W' b sp hd f.resultTypes.toList (v.resultList f.resultTypes.size) (s.fn H (ds ++ [])).results [])
    (hok : ∀ (j : Nat) (t : TypeId) (r : Value), f.resultTypes[j]? = some t → (v.resultList f.resultTypes.size)[j]? = some r → Value.okWide P W' .any 0 t r) :
    s.post enc P f apart fresh handsOn again W args v W' := by
  have hlt := hW.lt
  have hW2 := hW
  obtain ⟨p, q, hA, hV, hpq, hz, hn⟩ := hW2
  rw [hv] at hV
  have hq : q = [] := by
    revert hV; unfold DataW.TrodVars; simp
  subst hq
  rw [List.append_nil] at hpq
  subst hpq
  have hvars : ∀ sp : Nat → Bool, DataW.TrodVars enc P W' sp s.vars (s.fn H (ds ++ [])).vars [] := fun sp => by rw [hv, hsv]; exact rfl
  have hargs : ∀ sp : Nat → Bool, (∀ b, b < W.heap.size → sp b = true) → DataW.TrodAll enc P W' 0 sp true f.params.toList args.toList (s.fn H (ds ++ [])).args before := fun sp hsp => by
    rw [hsa]; exact trodAll_below hl hb hsp hts hA hlt
  refine ⟨ds, [], before, [], before, [], hW, hres _ _ _, hargs _ (fun b hb => by simpa using hb), hvars _, hb.frame _, fun _ => ⟨hok, _, _, ([] ++ before) ++ [], ⟨[] ++ before, [], trodAll_append (hargs _ (fun _ _ => rfl)) (hres _ _ _), hvars _, rfl, ?_, ?_⟩, ?_⟩⟩
  · intro b off hp
    have hp' : MemPlace.cell b off ∈ before := by simpa using hp
    rw [hb.frozen (p := ⟨b, off, none⟩) (hlt _ hp')]
    exact hz b off hp'
  · intro ha
    simpa using hn ha
  · intro p hp _
    simpa using hp
theorem law_row {f : FuncId} {fn : Func} {s : ChangeSpec} {apart fresh handsOn again : Bool} {W : World} {args : Array Value} {ds : List (DataW H)} {before : List MemPlace} {as : List A} {φ : Names} {tb : TypeId}
    (hl : laidOutB P = true) (hts : ∀ t ∈ fn.params.toList, P.readableRec t = true ∧ t < P.types.size) (hv : s.vars = [])
    (hW : DataW.Whole enc P fn.params.toList s.vars apart W args.toList ds [] before)
    (hsa : (s.fn H (ds ++ [])).args = ds) (hsv : (s.fn H (ds ++ [])).vars = []) (hsr : (s.fn H (ds ++ [])).results = [.lit (.bool true)])
    (hr : fn.resultTypes = #[tb]) (htb : P.underlying tb = some .bool)
    (hvs : VRs φ (allZ W) W as args) (h : Ans P f as (.bool true)) :
    Calls P f args W fun e W' => ∃ v, e = .returned v ∧ s.post enc P fn apart fresh handsOn again W args v W' := by
  refine (h.pure φ (allZ W) W args (fun b o hb => hb) hvs).mono fun e W' hR => ?_
  obtain ⟨u, Z', rfl, hm, hu, _⟩ := hR
  cases inv_s hu
  refine ⟨_, rfl, post_below hl hts hv hW hm.quiet.below hsa hsv (fun _ _ _ => ?_) ?_⟩
  · rw [hr, hsr]; exact trodAll_mk1 (shut_bool htb true)
  · exact ok_one hr rfl (okWide_bool_mk htb true)
end
end Go.AL

namespace Go.AL
open Go
structure Sp where
  lo : Int
  hi : Int
  deriving DecidableEq
def Sp.c (s : Sp) : List A := [.int s.lo, .int s.hi]
theorem Sp.free (s : Sp) : ∀ x ∈ s.c, Free x := allC (.s _) (all1 (.s _))
namespace Q
theorem free_map {α : Type} {f : α → List A} (hf : ∀ a, ∀ x ∈ f a, Free x) (n : Bool) (c : Cap) (l : List α) : Free (.sl n c (l.map f)) := .sl _ _ _ fun e he x hx => by
  obtain ⟨a, _, rfl⟩ := List.mem_map.1 he
  exact hf a x hx
theorem under_map {α : Type} {f : α → List A} {n : Nat} (hf : ∀ a, ∀ x ∈ f a, Free x) (l : List α) : ∀ e ∈ l.map f, ∀ x ∈ e, Under n x := fun e he x hx => by
  obtain ⟨a, _, rfl⟩ := List.mem_map.1 he
  exact (hf a x hx).under
theorem get_map {α : Type} {f : α → List A} {l : List α} {k : Nat} (h : k < l.length) : (l.map f)[k]? = some (f l[k]) := by simp [h]
def ints (l : List Int) : List (List A) := l.map fun n => [.int n]
theorem ints_get {l : List Int} {k : Nat} (h : k < l.length) : (ints l)[k]? = some [.int l[k]] := by simp [ints, h]
theorem ints_len (l : List Int) : (ints l).length = l.length := by simp [ints]
theorem ints_lenI (l : List Int) : ((ints l).length : Int) = l.length := by simp [ints]
theorem ints_one (l : List Int) : ∀ z ∈ ints l, z.length = 1 := fun z hz => by obtain ⟨i, _, rfl⟩ := List.mem_map.1 hz; rfl
theorem free_ints (b : Bool) (c : Cap) (l : List Int) : Free (.sl b c (ints l)) := .sl _ _ _ fun e he x hx => by
  simp only [ints, List.mem_map] at he
  obtain ⟨n, _, rfl⟩ := he
  simp at hx; subst hx; exact .s _
theorem ints_under {n : Nat} (l : List Int) : ∀ x ∈ ints l, ∀ y ∈ x, Under n y := fun x hx y hy => by
  obtain ⟨i, _, rfl⟩ := List.mem_map.1 hx
  simp at hy; subst hy; exact .s _
def wi (n a b : Int) : Bool := cond (decide (a ≤ n)) (decide (n ≤ b)) false
theorem wi_iff {n a b : Int} : wi n a b = true ↔ a ≤ n ∧ n ≤ b := by
  unfold wi
  by_cases h : a ≤ n <;> by_cases h' : n ≤ b <;> simp [h, h']
theorem ac1 {a b : Bool} (h : cond a b false = true) : a = true := by cases a <;> simp_all
theorem ac2 {a b : Bool} (h : cond a b false = true) : b = true := by cases a <;> simp_all
theorem cond_assoc (a b c : Bool) : cond (cond a b false) c false = cond a (cond b c false) false := by cases a <;> rfl
theorem all_take_succ {α : Type} {p : α → Bool} {l : List α} {k : Nat} (h : k < l.length) : (l.take (k + 1)).all p = ((l.take k).all p && p l[k]) := by
  rw [List.take_succ_eq_append_getElem h, List.all_append]; simp
def andAll {α : Type} (b : Bool) (p : α → Bool) (l : List α) (k : Nat) : Bool := cond b ((l.take k).all p) false
theorem andAll_zero {α : Type} (b : Bool) (p : α → Bool) (l : List α) : andAll b p l 0 = b := by cases b <;> rfl
theorem andAll_succ {α : Type} {b : Bool} {p : α → Bool} {l : List α} {k : Nat} (h : k < l.length) (hb : andAll b p l k = true) : andAll b p l (k + 1) = p l[k] := by
  unfold andAll at *
  rw [all_take_succ h]
  cases b with
  | false => cases hb
  | true => have hb : (l.take k).all p = true := hb; show ((l.take k).all p && p l[k]) = _; rw [hb]; rfl
theorem andAll_step {α : Type} {b : Bool} {p : α → Bool} {l : List α} {k : Nat} (h : k < l.length) : andAll b p l (k + 1) = cond (andAll b p l k) (p l[k]) false := by
  unfold andAll
  rw [all_take_succ h]
  cases b <;> cases (l.take k).all p <;> rfl
theorem andAll_full {α : Type} {b : Bool} {p : α → Bool} {l : List α} : andAll b p l l.length = cond b (l.all p) false := by unfold andAll; rw [List.take_length]
theorem andAll_end {α : Type} {b : Bool} {p : α → Bool} {l : List α} {k : Nat} (h : andAll b p l k = false ∨ k = l.length) (hk : k ≤ l.length) : andAll b p l k = cond b (l.all p) false := by
  rcases h with h | h
  · rw [h]
    unfold andAll at h
    cases b with
    | false => rfl
    | true =>
      have h : (l.take k).all p = false := h
      show false = l.all p
      cases e : l.all p with
      | false => rfl
      | true =>
        have : (l.take k).all p = true := List.all_eq_true.2 fun x hx => List.all_eq_true.1 e x (List.mem_of_mem_take hx)
        rw [h] at this; cases this
  · subst h; unfold andAll; rw [List.take_length]
theorem inrk (k : Nat) (h : (k : Int) ≤ 9223372036854775806) : inR ((k : Int) + 1) := by simp only [inR]; omega
theorem setSeg_app {l r : List A} {v : A} {i : Nat} (h : i < r.length) : setSeg (l ++ r) (l.length + i) [v] = l ++ r.set i v := by
  unfold setSeg
  have h1 : (l ++ r).take (l.length + i) = l ++ r.take i := by rw [List.take_append, List.take_of_length_le (by omega)]; simp
  have h2 : (l ++ r).drop (l.length + i + [v].length) = r.drop (i + 1) := by rw [List.drop_append]; simp [show l.length + i + 1 - l.length = i + 1 by omega, List.drop_eq_nil_of_le (show l.length ≤ l.length + i + 1 by omega)]
  rw [h1, h2, List.append_assoc, List.set_eq_take_append_cons_drop, if_pos h]; rfl
theorem setSeg_set {r : List Int} {v : Int} {i : Nat} (h : i < r.length) : setSeg (r.map A.int) i [A.int v] = (r.set i v).map A.int := by
  have := setSeg_app (l := []) (r := r.map A.int) (v := A.int v) (i := i) (by simpa using h)
  simp only [List.length_nil, Nat.zero_add, List.nil_append] at this
  rw [this, List.map_set]
def outA : List Int → A
  | [] => .sl true .exact []
  | x :: l => .sl false .any (ints (x :: l))
theorem outA_free : ∀ l : List Int, Free (outA l)
  | [] => .sl _ _ _ (fun _ h => by cases h)
  | x :: l => free_ints _ _ _
def grL (e : Nat) : List Int → A
  | [] => .sl true .exact []
  | x :: l => .sl false (.own e) (ints (x :: l))
theorem grL_under {e n : Nat} : ∀ l : List Int, Under n (grL e l)
  | [] => .sl _ _ _ (fun _ h => by cases h)
  | x :: l => .sl _ _ _ (ints_under _)
def pickF (l : List Int) (n : Int) : Int := if l.length = 0 then 0 else l.getD (n % l.length).toNat 0
def bitI (s : Int) (k : Nat) : Bool := iand (s.fdiv (2 ^ (min k 64))) 1 == 1
def memL (s : Int) (n : Nat) : List Int := ((List.range n).filter (bitI s)).map Int.ofNat
def risingF (n : Int) : Int → List Int → Bool
  | _, [] => true
  | last, i :: is => cond (wi i (last + 1) (n - 1)) (risingF n i is) false
theorem rising_in {n : Int} : ∀ {l : List Int} {last : Int}, risingF n last l = true → -1 ≤ last → last < n → (∀ i ∈ l, last < i ∧ i < n) ∧ (l.length : Int) ≤ n - 1 - last
  | [], last, _, h1, h2 => ⟨fun _ h => (by cases h), by simp; omega⟩
  | i :: is, last, h, h1, h2 => by
    unfold risingF at h
    have h3 := wi_iff.1 (ac1 h)
    have h := ac2 h
    obtain ⟨k1, k2⟩ := rising_in (l := is) h (by omega) (by omega)
    refine ⟨fun j hj => ?_, by simp only [List.length_cons]; omega⟩
    rcases List.mem_cons.1 hj with rfl | hj
    · omega
    · have := k1 j hj; omega
def prevI (l : List Int) : Nat → Int
  | 0 => -1
  | k + 1 => l.getD k 0
def befF : List Int → List Int → Bool
  | [], [] => false
  | [], _ :: _ => true
  | _ :: _, [] => false
  | x :: xs, y :: ys => if x = y then befF xs ys else decide (x < y)
def placeF (n : Int) : Int → List Int → Int
  | _, [] => -1
  | k, x :: l => if x = n then k else placeF n (k + 1) l
end Q
end Go.AL

namespace Go.AL
open Go Go.RowKit Go.ChangeShapes Go.WideShapes Go.ChangeAt
section
variable {H : Type} {enc : TypeId × Value → H} {P : Program} {w : World} {base : Nat} {spare : Nat → Bool} {held : Bool} {φ : Names}
theorem lifted2 {C : Checked} {os : Os} {f : FuncId} {fn : Func} {s : ChangeSpec} {apart fresh handsOn again : Bool} {tb : TypeId}
    (own : ownKnob C.prog.godebug = none) (started : os.Started) (noInit : C.prog.inits.idxOf? f = none) (hfn : C.prog.funcs[f]? = some fn)
    (witness : ∃ (w : World) (tape : Tape) (i : Input), w.os = os ∧ (w.forCall tape i).Shaped C.prog ∧ i.vars = [] ∧ Input.okWide C.prog (w.forCall tape i) .any w.heap.size f i ∧
      s.pre6 enc C.prog fn [] apart (w.forCall tape i).memory i.args ∧ ({} : Assume).holds C.prog (lone (Frame.enter C.prog f i.args .normal) [] (w.forCall tape i)))
    (hl : laidOutB C.prog = true) (hts : ∀ t ∈ fn.params.toList, C.prog.readableRec t = true ∧ t < C.prog.types.size) (hv : s.vars = []) (hvt : s.plain.varTypes C.prog = [])
    (hr : fn.resultTypes = #[tb]) (htb : C.prog.underlying tb = some .bool)
    (hs : ∀ ds : List (DataW H), ds.length = fn.params.size → s.fn H ds = { results := [.lit (.bool true)], args := ds })
    (key : ∀ (W : World) (base : Nat) (args : Array Value) (ds : List (DataW H)) (p : List MemPlace),
      (∀ (j : Nat) t v, fn.params[j]? = some t → args[j]? = some v → Value.okWide C.prog W .any base t v) →
      DataW.TrodAll enc C.prog W 0 (fun _ => true) true fn.params.toList args.toList ds p → (∀ k ∈ DataW.weightsEach C.prog fn.params.toList ds, k ≤ reachBytes) → ∃ (φ : Names) (az : List A), VRs φ (allZ W) W az args ∧ Ans C.prog f az (.bool true)) :
    ReturnsInHanded {} C os f .any (s.pre6 enc C.prog fn [] apart) (s.post enc C.prog fn apart fresh handsOn again) := by
  refine returnsInHanded_of_calls own started noInit witness ?_
  intro w tape i _ _ _ hok hpre hholds
  obtain ⟨_, _, _, fn', hfn', _, _, _, _, hval⟩ := hok
  have e : fn' = fn := Option.some.inj (hfn'.symm.trans hfn)
  subst e
  obtain ⟨⟨ds, gs, before, hw, hc⟩, hz⟩ := hpre
  have hzw := hz.weights hw
  have hW := DataW.Whole.of_heap (w' := w.forCall tape i) (by rfl) hw
  have hW2 := hW
  obtain ⟨p, q, hA, hV, hpq, hz, hn⟩ := hW2
  rw [hv] at hV
  have hg : gs = [] := by
    cases gs with
    | nil => rfl
    | cons a b => exact hV.elim
  subst hg
  have hlen : ∀ {ts : List TypeId} {vs : List Value} {ds : List (DataW H)} {p : List MemPlace}, DataW.TrodAll enc C.prog (w.forCall tape i) 0 (fun _ => true) true ts vs ds p → ds.length = ts.length := fun {ts} => by
    induction ts with
    | nil => intro vs ds p h; obtain ⟨_, rfl, _⟩ := trodAll_nil h; rfl
    | cons t ts ih => intro vs ds p h; obtain ⟨v, vs1, d, ds1, a, b, _, rfl, _, _, h2⟩ := trodAll_cons h; simp [ih h2]
  have hd : ds.length = fn'.params.size := by rw [hlen hA]; simp
  have hzw : ∀ k ∈ DataW.weightsEach C.prog fn'.params.toList ds, k ≤ reachBytes := fun k hk => by
    have e : (OpenSpec.ofChange s).bare.plain.varTypes C.prog = [] := hvt
    rw [e, List.append_nil, List.append_nil] at hzw
    exact of_decide_eq_true (List.all_eq_true.1 hzw k hk)
  obtain ⟨φ, az, hvs, ha⟩ := key (w.forCall tape i) w.heap.size i.args ds p hval hA hzw
  have e := hs (ds ++ []) (by simpa using hd)
  refine (law_row (apart := apart) (fresh := fresh) (handsOn := handsOn) (again := again) hl hts hv hW (by rw [e]; simp) (by rw [e]) (by rw [e]) hr htb hvs ha).mono fun e W' ⟨v, he, hp⟩ => ?_
  subst he
  exact ChangeSpec.post_blind hp
theorem all1t {p : Nat → Prop} {a : Nat} (h : p a) : ∀ t ∈ (#[a] : Array Nat).toList, p t := fun t ht => by
  rcases List.mem_cons.1 ht with rfl | ht
  · exact h
  · cases ht
theorem all2t {p : Nat → Prop} {a b : Nat} (h : p a) (k : p b) : ∀ t ∈ (#[a, b] : Array Nat).toList, p t := fun t ht => by
  rcases List.mem_cons.1 ht with rfl | ht
  · exact h
  · exact all1t k t ht
theorem vrs2 {a a' : A} {v v' : Value} {Z : Still} (h : VR φ Z w a v) (h' : VR φ Z w a' v') : VRs φ Z w [a, a'] #[v, v'] := ⟨rfl, fun i hi => by
  match i, hi with
  | 0, _ => exact h
  | 1, _ => exact h'⟩
end
end Go.AL

namespace Go.AL
open Go Go.RowKit Go.ChangeShapes Go.WideShapes Go.ChangeAt
section
variable {H : Type} {enc : TypeId × Value → H} {P : Program} {w : World} {base : Nat} {held : Bool} {φ : Names}
def CellsAre (φ : Names) (w : World) (az : List A) (cs : List Value) : Prop :=
  cs.length = az.length ∧ ∀ i, i < az.length → VR φ (allZ w) w (az.getD i .un) (cs.getD i undef) ∧ (cs.getD i undef).oneCell' = true
theorem CellsAre.nil : CellsAre φ w [] [] := ⟨rfl, fun i h => by simp at h⟩
theorem CellsAre.one {a : A} {v : Value} (h : VR φ (allZ w) w a v) (h1 : v.oneCell' = true) : CellsAre φ w [a] [v] := ⟨rfl, fun i hi => by
  have : i = 0 := by simp at hi; exact hi
  subst this; exact ⟨h, h1⟩⟩
theorem CellsAre.app {az bz : List A} {cs ds : List Value} (h : CellsAre φ w az cs) (k : CellsAre φ w bz ds) : CellsAre φ w (az ++ bz) (cs ++ ds) := by
  refine ⟨by simp [h.1, k.1], fun i hi => ?_⟩
  by_cases h1 : i < az.length
  · have := h.2 i h1
    rw [show (az ++ bz).getD i .un = az.getD i .un by simp [List.getD_eq_getElem?_getD, List.getElem?_append, h1],
      show (cs ++ ds).getD i undef = cs.getD i undef by simp [List.getD_eq_getElem?_getD, List.getElem?_append, h.1, h1]]
    exact this
  · have hi2 : i - az.length < bz.length := by simp only [List.length_append] at hi; omega
    have := k.2 (i - az.length) hi2
    rw [show (az ++ bz).getD i .un = bz.getD (i - az.length) .un by simp [List.getD_eq_getElem?_getD, List.getElem?_append, h1],
      show (cs ++ ds).getD i undef = ds.getD (i - az.length) undef by simp [List.getD_eq_getElem?_getD, List.getElem?_append, h.1, h1]]
    exact this
theorem CellsAre.agg {az : List A} {cs : List Value} (h : CellsAre φ w az cs) : VR φ (allZ w) w (.agg az) (.agg cs.toArray) := by
  have e : ∀ i, cs.toArray.getD i undef = cs.getD i undef := fun i => by simp [Array.getD_eq_getD_getElem?, List.getD_eq_getElem?_getD]
  refine .agg _ _ (by simp [h.1]) (fun i hi => ?_) fun i hi => ?_
  · rw [e]; exact (h.2 i hi).2
  · rw [e]; exact (h.2 i hi).1
def Reads (enc : TypeId × Value → H) (P : Program) (w : World) (base : Nat) (held : Bool) (φ : Names) (e sz : Nat) {α : Type} (c : α → List A) (Q : α → Prop) : Prop :=
  ∀ n cs y, DataW.trod enc P w base (fun _ => true) held n e cs = some y → (∀ k ∈ y.1.weights P e, k ≤ reachBytes) → ∃ a : α, Q a ∧ (c a).length = sz ∧ CellsAre φ w (c a) cs
theorem Reads.imp {e sz : Nat} {α β : Type} {c : α → List A} {d : β → List A} {Q : α → Prop} {R : β → Prop} (h : Reads enc P w base held φ e sz c Q) (k : ∀ a, Q a → ∃ b, R b ∧ d b = c a) : Reads enc P w base held φ e sz d R := fun n cs y hy hw => by
  obtain ⟨a, q, l, r⟩ := h n cs y hy hw
  obtain ⟨b, q2, e2⟩ := k a q
  exact ⟨b, q2, by rw [e2]; exact l, by rw [e2]; exact r⟩
theorem Reads.int {e : Nat} (he : P.underlying e = some (.int .i64)) : Reads enc P w base held φ e 1 (fun n : Int => [A.int n]) fun _ => True := fun n cs y h _ => by
  obtain ⟨z, rfl, _, _⟩ := DataW.trod_int he h
  exact ⟨z, trivial, rfl, .one (.s _) rfl⟩
theorem weightsAll_at {e : Nat} : ∀ {l : List (DataW H)} {d : DataW H}, d ∈ l → ∀ k ∈ d.weights P e, k ∈ DataW.weightsAll P e l
  | x :: l, d, hm, k, hk => by
    rw [DataW.weightsAll, List.mem_append]
    rcases List.mem_cons.1 hm with rfl | hm
    · exact .inl hk
    · exact .inr (weightsAll_at hm k hk)
theorem cells_spot {a : Addr} {n : Nat} {cs : List Value} (h : w.cells? base a n = some cs) (hn : 0 < n) : a.spot = none := by
  obtain ⟨hl, hc⟩ := cells_at h
  have h0 := hc 0 hn
  rw [List.getElem?_eq_getElem (by omega)] at h0
  have := World.cell?_spot h0
  rwa [show a.add 0 = a from by unfold Addr.add; simp] at this
theorem told_list {α : Type} {c : α → List A} {Q : α → Prop} {R : α → Nat → Prop} (n : Nat) (h : ∀ i, i < n → ∃ a, Q a ∧ R a i) : ∃ l : List α, l.length = n ∧ (∀ a ∈ l, Q a) ∧ ∀ i (hi : i < l.length), R l[i] i := by
  induction n with
  | zero => exact ⟨[], rfl, fun _ h => by simp at h, fun i hi => by simp at hi⟩
  | succ n ih =>
    obtain ⟨l, hl, hq, hr⟩ := ih fun i hi => h i (by omega)
    obtain ⟨a, qa, ra⟩ := h n (by omega)
    refine ⟨l ++ [a], by simp [hl], fun x hx => ?_, fun i hi => ?_⟩
    · rcases List.mem_append.1 hx with hx | hx
      · exact hq x hx
      · rw [List.mem_singleton.1 hx]; exact qa
    · by_cases h1 : i < l.length
      · rw [List.getElem_append_left h1]; exact hr i h1
      · have : i = l.length := by simp at hi; omega
        subst this
        rw [List.getElem_append_right (by omega)]
        simp only [Nat.sub_self, List.getElem_cons_zero]
        rw [hl]; exact ra
theorem Reads.slice {t e sz : Nat} {α : Type} {c : α → List A} {Q : α → Prop} (ht : P.underlying t = some (.slice e)) (hc : P.cellsOf e = sz) (h0 : 0 < sz) (h : Reads enc P w base held φ e sz c Q) :
    Reads enc P w base held φ t 1 (fun x : Bool × List α => [A.sl x.1 .any (x.2.map c)]) fun x => (∀ a ∈ x.2, Q a) ∧ x.2.length * P.bytesOf e ≤ reachBytes := by
  intro fuel cs y hy hw
  rcases DataW.trod_slice ht hy with ⟨rfl, _⟩ | ⟨ad, len, cap, elems, rest, n, _, rfl, hx, hbl, hl, hm, hlen, hel, hre, _⟩
  · exact ⟨(true, []), ⟨fun a ha => (nomatch ha), by simp⟩, rfl, .one (.nil _) rfl⟩
  · obtain ⟨hrl, hre⟩ := hre rfl
    have hwt : (elems.map (·.1)).length * P.bytesOf e ≤ reachBytes ∧ ∀ d ∈ elems.map (·.1), ∀ k ∈ d.weights P e, k ≤ reachBytes := by
      rw [hx] at hw
      simp only [DataW.weights, ht] at hw
      refine ⟨Nat.le_trans (Nat.mul_le_mul_right _ (Nat.le_add_right _ (rest.map (·.1)).length)) (hw _ (List.mem_cons_self ..)), fun d hd k hk => hw k (List.mem_cons_of_mem _ (List.mem_append.2 (.inl (weightsAll_at hd k hk))))⟩
    have hsp : cap = 0 ∨ ad.spot = none := by
      rcases Nat.eq_zero_or_pos cap with h | hpos
      · exact .inl h
      right
      rcases Nat.eq_zero_or_pos len with hz | hlp
      · subst hz
        have h1 := hre 0 (by omega)
        rw [hc] at h1
        obtain ⟨r, hr⟩ : ∃ r, rest[0]? = some r := ⟨rest[0]'(by omega), List.getElem?_eq_getElem _⟩
        rw [hr, Option.bind_eq_some_iff] at h1
        obtain ⟨cs, h2, _⟩ := h1
        rw [show ad.add ((0 + 0) * sz) = ad from by unfold Addr.add; simp] at h2
        exact cells_spot h2 h0
      · have h1 := hel 0 hlp
        rw [hc] at h1
        obtain ⟨r, hr⟩ : ∃ r, elems[0]? = some r := ⟨elems[0]'(by omega), List.getElem?_eq_getElem _⟩
        rw [hr, Option.bind_eq_some_iff] at h1
        obtain ⟨cs, h2, _⟩ := h1
        rw [show ad.add (0 * sz) = ad from by unfold Addr.add; simp] at h2
        exact cells_spot h2 h0
    rcases hsp with hz | hsp
    · subst hz
      have : len = 0 := by omega
      subst this
      exact ⟨(false, []), ⟨fun a ha => (nomatch ha), by simp⟩, rfl, .one (.slz _ ad) rfl⟩
    obtain ⟨b, off, sp⟩ := ad
    simp only at hsp
    subst hsp
    have each : ∀ i, i < len → ∃ a : α, Q a ∧ ((c a).length = sz ∧ ∃ cs, w.cells? base ((⟨b, off, none⟩ : Addr).add (i * sz)) sz = some cs ∧ CellsAre φ w (c a) cs) := fun i hi => by
      have h1 := hel i hi
      rw [hc] at h1
      rw [List.getElem?_eq_getElem (by omega), Option.bind_eq_some_iff] at h1
      obtain ⟨cs, h2, h3⟩ := h1
      obtain ⟨a, qa, la, ra⟩ := h n cs _ h3 (hwt.2 _ (List.mem_map.2 ⟨_, List.getElem_mem (by omega), rfl⟩))
      exact ⟨a, qa, la, cs, h2, ra⟩
    obtain ⟨l, hll, hq, hr⟩ := told_list (c := c) len each
    have hcell : ∀ i j, i < l.length → j < sz → ∃ v, w.cell? ⟨b, off + i * sz + j, none⟩ = some v ∧ VR φ (allZ w) w ((((l.map c).getD i []).getD j .un)) v ∧ v.oneCell' = true := fun i j hi hj => by
      obtain ⟨q1, cs, q2, q3⟩ := hr i hi
      have h1 := (cells_at q2).2 j hj
      rw [add_plain, add_plain] at h1
      have hcl : cs.length = sz := by rw [q3.1, q1]
      rw [List.getElem?_eq_getElem (by omega)] at h1
      have h2 := q3.2 j (by omega)
      have e1 : cs.getD j undef = cs[j]'(by omega) := by rw [List.getD_eq_getElem?_getD, List.getElem?_eq_getElem (by omega)]; rfl
      have e2 : (l.map c).getD i [] = c l[i] := by rw [List.getD_eq_getElem?_getD, List.getElem?_map, List.getElem?_eq_getElem hi]; rfl
      rw [e1] at h2
      exact ⟨_, h1, by rw [e2]; exact h2.1, h2.2⟩
    let val : Nat → Nat → Value := fun i j => (w.cell? ⟨b, off + i * sz + j, none⟩).getD undef
    have hval : ∀ i j, i < l.length → j < sz → w.cell? ⟨b, off + i * sz + j, none⟩ = some (val i j) ∧ VR φ (allZ w) w ((((l.map c).getD i []).getD j .un)) (val i j) ∧ (val i j).oneCell' = true := fun i j hi hj => by
      obtain ⟨v, h1, h2, h3⟩ := hcell i j hi hj
      have : val i j = v := by simp only [val, h1]; rfl
      rw [this]; exact ⟨h1, h2, h3⟩
    have hl2 : (l.map c).length = l.length := by simp
    refine ⟨(false, l), ⟨hq, ?_⟩, rfl, .one ?_ rfl⟩
    · have := hwt.1
      rw [List.length_map, hlen] at this
      rw [hll]; exact this
    · have key : VR φ (allZ w) w (.sl false .any (l.map c)) (.slice (some ⟨b, off, none⟩) (l.map c).length cap) := by
        refine .sl .any _ b off sz cap val (by rw [hl2, hll]; exact hl) (fun h => by cases h) hm (fun z hz => ?_) (fun i j hi hj => ?_) (fun i j hi hj => ?_) (fun i j hi hj => ?_) fun i j hi hj => ?_
        · obtain ⟨a, ha, rfl⟩ := List.mem_map.1 hz
          obtain ⟨i, hi, rfl⟩ := List.mem_iff_getElem.1 ha
          exact (hr i hi).1
        all_goals rw [hl2] at hi
        · exact ⟨_, (hval i j hi hj).1⟩
        · exact (hval i j hi hj).1
        · exact (hval i j hi hj).2.2
        · exact (hval i j hi hj).2.1
      rw [hl2, hll] at key; exact key
inductive Flds (enc : TypeId × Value → H) (P : Program) (w : World) (base : Nat) (held : Bool) (φ : Names) : Nat → List Field → {α : Type} → (α → List A) → (α → Prop) → Nat → Prop
  | nil (off : Nat) : Flds enc P w base held φ off [] (fun _ : Unit => []) (fun _ => True) 0
  | cons {off : Nat} {f : Field} {fs : List Field} {sz m : Nat} {α β : Type} {c : α → List A} {Q : α → Prop} {d : β → List A} {R : β → Prop} (ho : f.offset = off) (hc : P.cellsOf f.type = sz) (h : Reads enc P w base held φ f.type sz c Q)
      (k : Flds enc P w base held φ (off + sz) fs d R m) : Flds enc P w base held φ off (f :: fs) (fun x : α × β => c x.1 ++ d x.2) (fun x => Q x.1 ∧ R x.2) (sz + m)
theorem Flds.read {n : Nat} {cs : List Value} : ∀ {fs : List Field} {off m : Nat} {α : Type} {c : α → List A} {Q : α → Prop} {xs : List (DataW H × List MemPlace)}, Flds enc P w base held φ off fs c Q m → xs.length = fs.length →
    (∀ (i : Nat) (f : Field), fs[i]? = some f → DataW.trod enc P w base (fun _ => true) held n f.type ((cs.drop f.offset).take (P.cellsOf f.type)) = xs[i]?) → (∀ k ∈ DataW.weightsEach P (fs.map (·.type)) (xs.map (·.1)), k ≤ reachBytes) →
    cs.length = off + m → ∃ a, Q a ∧ (c a).length = m ∧ CellsAre φ w (c a) (cs.drop off)
  | _, _, _, _, _, _, [], .nil off, _, _, _, hl => ⟨(), trivial, rfl, by rw [List.drop_of_length_le (by omega)]; exact .nil⟩
  | f :: fs, off, _, _, _, _, x :: xs, .cons (sz := sz) (m := m) ho hc h k, hxl, hx, hw, hl => by
    have h0 := hx 0 f rfl
    rw [ho, hc] at h0
    obtain ⟨a, qa, la, ra⟩ := h n _ x h0 fun k hk => hw k (by
      simp only [List.map_cons, DataW.weightsEach, List.mem_append]; exact .inl hk)
    obtain ⟨b, qb, lb, rb⟩ := Flds.read k (by simpa using hxl) (fun i f' hf => hx (i + 1) f' hf) (fun k hk => hw k (by
      simp only [List.map_cons, DataW.weightsEach, List.mem_append]; exact .inr hk)) (by omega)
    refine ⟨(a, b), ⟨qa, qb⟩, by simp only [List.length_append, la, lb], ?_⟩
    have e : cs.drop off = (cs.drop off).take sz ++ cs.drop (off + sz) := by
      rw [← List.drop_drop, List.take_append_drop]
    rw [e]
    exact ra.app rb
theorem Reads.struct {e m m' : Nat} {fs : Array Field} {l : List Field} {α : Type} {c : α → List A} {Q : α → Prop} (he : P.underlying e = some (.struct fs)) (hc : P.cellsOf e = m) (h : Flds enc P w base held φ 0 l c Q m') (hl : fs.toList = l) (hm : m' = m) : Reads enc P w base held φ e m c Q := by
  subst hl; subst hm
  intro fuel cs y hy hw
  obtain ⟨xs, n, _, hx, hl, hlen, hf⟩ := DataW.trod_struct he hy
  rw [hx] at hw
  simp only [DataW.weights, he] at hw
  obtain ⟨a, q, l, r⟩ := h.read (n := n) (cs := cs) (xs := xs) (by simpa using hlen) (fun i f hf' => hf i f (by simpa using hf')) hw (by omega)
  exact ⟨a, q, l, by simpa using r⟩
theorem Reads.arg_agg {t m : Nat} {α : Type} {c : α → List A} {Q : α → Prop} {v : Value} {d : DataW H} {p : List MemPlace} (h : Reads enc P w base held φ t m c Q) (hv : ∃ cs, v = .agg cs)
    (ht : DataW.Trod enc P w base (fun _ => true) held t v d p) (hw : ∀ k ∈ d.weights P t, k ≤ reachBytes) : ∃ a, Q a ∧ VR φ (allZ w) w (.agg (c a)) v := by
  obtain ⟨⟨cs⟩, rfl⟩ := hv
  obtain ⟨fuel, ht⟩ := ht
  obtain ⟨a, q, _, r⟩ := h fuel cs _ ht hw
  exact ⟨a, q, r.agg⟩
theorem agg_struct {t : Nat} {fs : Array Field} {v : Value} {r : Reach} {b0 : Nat} (hu : P.underlying t = some (.struct fs)) (hok : Value.okWide P w r b0 t v) : ∃ cs, v = .agg cs := by
  unfold Value.okWide at hok
  rw [hu] at hok
  obtain ⟨cs, rfl, _⟩ := hok
  exact ⟨cs, rfl⟩
theorem agg_array {t n e : Nat} {v : Value} {r : Reach} {b0 : Nat} (hu : P.underlying t = some (.array n e)) (hok : Value.okWide P w r b0 t v) : ∃ cs, v = .agg cs := by
  unfold Value.okWide at hok
  rw [hu] at hok
  obtain ⟨cs, rfl, _⟩ := hok
  exact ⟨cs, rfl⟩
theorem Reads.ints {t n e : Nat} (hu : P.underlying t = some (.array n e)) (hc : P.cellsOf t = n) (ue : P.underlying e = some (.int .i64)) (ce : P.cellsOf e = 1) :
    Reads enc P w base held φ t n (fun l : List Int => l.map A.int) fun l => l.length = n := by
  intro fuel cs y hy _
  obtain ⟨xs, m, _, _, hl0, hl, hx⟩ := DataW.trod_array hu hy
  rw [ce] at hx
  have hcl : cs.length = n := by omega
  have each : ∀ i, i < n → ∃ z : Int, True ∧ cs[i]? = some (.int .i64 z) := fun i hi => by
    have h1 := hx i hi
    rw [List.getElem?_eq_getElem (by omega)] at h1
    obtain ⟨z, hz, _⟩ := DataW.trod_int ue h1
    refine ⟨z, trivial, ?_⟩
    have h5 := congrArg (fun l => l[0]?) hz
    simpa using h5
  obtain ⟨l, hll, _, hr⟩ := told_list (c := fun _ : Int => []) n each
  refine ⟨l, hll, by simp [hll], by simp [hll, hcl], fun i hi => ?_⟩
  have hi : i < l.length := by simpa using hi
  have h1 := hr i hi
  have e1 : cs.getD i undef = .int .i64 l[i] := by rw [List.getD_eq_getElem?_getD, h1]; rfl
  have e2 : (l.map A.int).getD i .un = A.int l[i] := by simp [List.getD_eq_getElem?_getD, hi]
  rw [e1, e2]
  exact ⟨.s _, rfl⟩
end
end Go.AL

namespace Go.AL
open Go Go.RowKit
inductive Ex where
  | normal
  | exit (id : Nat)
  | ret
def Ex.out : Ex → Exit
  | .normal => .normal
  | .exit id => .exit id
  | .ret => .ret
def enterOk (fn : Func) : Bool := !(fn.name == "runtime.NumGoroutine")
theorem enters_of {P : Program} {g : Nat} {fn : Func} {c : Code} (h : P.funcs[g]? = some fn) (hb : fn.body = some c) (hn : enterOk fn = true) : Enters P g := by
  intro args w
  have hn' : (fn.name == "runtime.NumGoroutine") = false := by simpa [enterOk] using hn
  simp only [callFunc, Sem.run_bind, run_program, Result.andThen_ok, h, hn', hb, Bool.false_eq_true, if_false, Option.isNone_some, Sem.run_pure]
section
variable (P : Program) (T : Tab) (mb : Nat → Nat → Bool)
end
section
variable {P : Program} {T : Tab} {mb : Nat → Nat → Bool}
end
end Go.AL

namespace Go.AL
open Go Go.RowKit
def Sub (H : Hp) (J : Hp → Prop) : Prop := ∃ H', J H' ∧ ∀ i bx, H' i = some bx → H i = some bx
theorem Sub.self {H : Hp} {J : Hp → Prop} (h : J H) : Sub H J := ⟨H, h, fun _ _ h => h⟩
def Low (n : Nat) (H : Hp) : Prop := ∀ id bx, H id = some bx → id < n ∧ UnderB n bx
section
variable {X : Ctx} {r : Option Nat} {s : St} {Q : Exit → St → Prop}
structure KeepH (n : Nat) (cst v : List (Nat × A)) (J : Hp → Prop) (s : St) : Prop where
  cst : AllLe s.S cst
  var : AllLe s.S v
  hp : Sub s.H J
  c : n ≤ s.c
theorem Aw.keepH {x : Code} {n : Nat} {cst v : List (Nat × A)} {J : Hp → Prop} (h0 : ∀ id, n ≤ id → X.φ0 id = none) (uc : UnderL n cst) (uv : UnderL n v) (low : ∀ H, J H → Low n H) (hk : KeepH n cst v J s)
    (h : ∀ H, J H → Aw X r x Q ⟨ofL2 cst v, H, n⟩) : Aw X r x Q s := by
  obtain ⟨H', hJ, hs⟩ := hk.hp
  refine Aw.weaken (S' := ofL2 cst v) (H' := H') (c' := s.c) (AllLe.app hk.var hk.cst).le (fun id bx hb => ⟨bx, hs id bx hb, .refl _⟩) (Nat.le_refl _) ?_
  exact Aw.forget h0 hk.c (ofL2_under (uv.app uc)) (low H' hJ) (h H' hJ)
theorem Aw.roundsH {ι : Type} {x : Code} (n : Nat) (h0 : ∀ id, n ≤ id → X.φ0 id = none) (cst : List (Nat × A)) (v : ι → List (Nat × A)) (J : ι → Hp → Prop) (μ : ι → Nat) (i0 : ι)
    (hk : KeepH n cst (v i0) (J i0) s) (uc : UnderL n cst) (uv : ∀ i, UnderL n (v i)) (low : ∀ i H, J i H → Low n H)
    (round : ∀ i H, J i H → Aw X r x (thenQ (fun s' => ∃ j, μ j < μ i ∧ KeepH n cst (v j) (J j) s') Q) ⟨ofL2 cst (v i), H, n⟩) : Aw X r (.loop x) Q s := by
  refine Aw.loop (fun s m => ∃ i, m = μ i ∧ KeepH n cst (v i) (J i) s) (μ i0) ⟨i0, rfl, hk⟩ ?_
  rintro s m ⟨i, rfl, hk⟩
  refine Aw.keepH h0 uc (uv i) (low i) hk fun H hJ => (round i H hJ).mono fun e s' h => ?_
  cases e with
  | normal => obtain ⟨j, h2, h3⟩ := h; exact ⟨μ j, h2, j, rfl, h3⟩
  | _ => exact h
theorem RegL.part {T : Tab} {ops : Array Oper} {K : St → Prop} (hT : T.Ok X.P) (mb : Nat → Bool) (dec : Bool) (n i : Nat) (hs : List (Nat × List A)) {l l' : List Oper} {S' : Slots} {H' : Hp} {c' : Nat} {ob' : List Ob}
    (h : AL.runM X.P T mb dec ops hs n l i s.S s.H s.c [] = (l', ⟨S', H', c'⟩, ob')) (ho : AllP ob') (k : RegL X r ops l' ⟨S', H', c'⟩ K) : RegL X r ops l s K := RegL.goM hT mb dec n hs h ho k
def PartK (X : Ctx) (r : Option Nat) (ops : Array Oper) (K : St → Prop) (y : List Oper × St × List Ob) : Prop := AllP y.2.2 ∧ RegL X r ops y.1 y.2.1 K
theorem PartK.mk {X : Ctx} {r : Option Nat} {ops : Array Oper} {K : St → Prop} {l : List Oper} {S : Slots} {H : Hp} {c : Nat} {ob : List Ob} (h : AllP ob) (k : RegL X r ops l ⟨S, H, c⟩ K) : PartK X r ops K (l, ⟨S, H, c⟩, ob) := ⟨h, k⟩
theorem RegL.partE {T : Tab} {ops : Array Oper} {K : St → Prop} (hT : T.Ok X.P) (mb : Nat → Bool) (dec : Bool) (n i : Nat) (hs : List (Nat × List A)) {l : List Oper}
    (h : PartK X r ops K (AL.runM X.P T mb dec ops hs n l i s.S s.H s.c [])) : RegL X r ops l s K := RegL.goM hT mb dec n hs rfl h.1 h.2
theorem RegL.st {T : Tab} (hT : T.Ok X.P) {ops : Array Oper} {K : St → Prop} {l : List Oper} {t ty id off : Nat} {x v : Operand} {p : String} {af : Array Edge} {cs : List A} (hx : rd s.S x = .ref id off) (hi : s.H id = some (.cells cs)) (ht : T.ty t ≠ .none)
    (hp : okPart (rd s.S v) = true) (hl : (cellsA (rd s.S v)).length = T.sz t) (hle : off + T.sz t ≤ cs.length)
    (k : RegL X r ops l ⟨s.S, updH s.H id (some (.cells (setSeg cs off ((cellsA (rd s.S v)).map A.down)))), s.c⟩ K) : RegL X r ops (⟨none, .store t x v, ty, p, af, none⟩ :: l) s K :=
  Does.raw rfl (DoesP.toR (DoesP.store hT rfl rfl hx hi ht hp hl hle k))
end
structure Iter (P : Program) (c id : Nat) (S : Slots) (nt : Nat) (ps : Array Tmp) (asg body : Code) (L : List (List A)) (I : Nat → Hp → Prop) (D : Hp → Prop) : Prop where
  pok : ∀ t ∈ ps.toList, t < nt
  len : ∀ as ∈ L, as.length = ps.size
  lp : ∀ k H, I k H → ∃ pend, H id = some (.lp .ready pend S nt ps asg body)
  low : ∀ k H, I k H → Low c H
  round : ∀ k as, L[k]? = some as → ∀ H, I k H → ∀ (E : En) (b : Nat), (∀ i, c ≤ i → E.φ0 i = none) →
    Aw (E.cx P nt) (some b) asg (fun e s1 => e = .normal ∧ ∃ p1 S1 nt1 ps1 as1 bo1, s1.H id = some (.lp .ready p1 S1 nt1 ps1 as1 bo1) ∧
      Aw (E.cx P nt) (some b) body (roundQ id fun v H' c' => c ≤ c' ∧ ((v = .bool true ∧ Sub H' (I (k + 1))) ∨ (v = .bool false ∧ Sub H' D))) { s1 with H := updH s1.H id (some (.lp .busy p1 S1 nt1 ps1 as1 bo1)) })
      ⟨setPs (fun t => (S t).down) ps.toList as, H, c⟩
theorem Iter.yield {P : Program} {c id : Nat} {S : Slots} {nt : Nat} {ps : Array Tmp} {asg body : Code} {L : List (List A)} {I : Nat → Hp → Prop} {D : Hp → Prop} (it : Iter P c id S nt ps asg body L I D)
    {X : Ctx} (hP : X.P = P) {r : Option Nat} {s : St} {o : Oper} {K : St → Prop} {f : Operand} {args : Array Operand} {at' : Array TypeId} (ho : o.op = .call { callee := .value f, args := args, argTypes := at' }) (hf : rd s.S f = .yl id) (hc : s.c = c)
    {k : Nat} (ha : L[k]? = some (rds s.S args.toList)) (hI : I k s.H)
    (hK : ∀ v H' c', c ≤ c' ∧ ((v = .bool true ∧ Sub H' (I (k + 1))) ∨ (v = .bool false ∧ Sub H' D)) → K ⟨putO s.S o.dst v, H', c'⟩) : DoesR X r o s K := by
  subst hP
  obtain ⟨pend, hl⟩ := it.lp k s.H hI
  have hlen := it.len _ (List.mem_of_getElem? ha)
  refine DoesR.yieldN ho hf hl (by simpa [rds] using hlen) it.pok (fun E b hE => ?_) hK
  have := it.round k _ ha s.H hI E b (by rw [← hc]; exact hE)
  rw [← hc] at this
  rw [← hc]
  exact this
def cntP (p : Nat → Bool) (n : Nat) : Nat := ((List.range n).filter p).length
theorem cntP_succ (p : Nat → Bool) (n : Nat) : cntP p (n + 1) = cntP p n + (if p n then 1 else 0) := by
  unfold cntP; rw [List.range_succ, List.filter_append, List.length_append]
  by_cases h : p n <;> simp [h]
theorem filter_get {p : Nat → Bool} {n m : Nat} (h : n < m) (hp : p n = true) : ((List.range m).filter p)[cntP p n]? = some n := by
  obtain ⟨d, rfl⟩ : ∃ d, m = n + 1 + d := ⟨m - (n + 1), by omega⟩
  have e : List.range (n + 1 + d) = List.range n ++ n :: (List.range d).map (n + 1 + ·) := by
    rw [List.range_add, List.range_succ, List.append_assoc]; rfl
  rw [e, List.filter_append]
  unfold cntP
  rw [List.getElem?_append_right (Nat.le_refl _)]
  simp [List.filter_cons, hp]
end Go.AL

namespace Go.AL
open Go Go.RowKit
def RQ (lpB : LoopState → Option Code → B) (c : Nat) (I : Hp → Prop) (D : Code → Hp → Prop) : Exit → St → Prop
  | .normal, s => (∃ st p, s.H c = some (lpB st p)) ∧ c + 1 ≤ s.c ∧ Sub s.H I
  | .ret, s => (∃ st p, s.H c = some (lpB st p)) ∧ c + 1 ≤ s.c ∧ Sub s.H (D .ret)
  | .exit j, s => (∃ st p, s.H c = some (lpB st p)) ∧ c + 1 ≤ s.c ∧ Sub s.H (D (.exit j))
  | _, _ => False
theorem UnderB.mono {n m : Nat} {b : B} (h : UnderB n b) (hm : n ≤ m) : UnderB m b := by
  cases h with
  | cells cs h => exact .cells _ fun x hx => (h x hx).mono hm
  | map kvs h => exact .map _ fun p hp => ⟨(h p hp).1.mono hm, (h p hp).2.mono hm⟩
  | lp st pend S nt ps asg body h => exact .lp _ _ _ _ _ _ _ fun t => (h t).mono hm
def distinctH : List (Nat × B) → Bool
  | [] => true
  | (i, _) :: l => (l.all fun p => !Nat.beq p.1 i) && distinctH l
theorem hasH_of_sub {H : Hp} : ∀ {l : List (Nat × B)}, distinctH l = true → (∀ i bx, ofH l i = some bx → H i = some bx) → HasH H l
  | [], _, _ => trivial
  | (i, b) :: l, hd, h => by
    simp only [distinctH, Bool.and_eq_true, List.all_eq_true, Bool.not_eq_true'] at hd
    refine ⟨h i b (updH_same _ _ _), hasH_of_sub hd.2 fun j bx hb => h j bx ?_⟩
    have key : ∀ (l : List (Nat × B)) (j : Nat) (bx : B), ofH l j = some bx → ∃ p ∈ l, p.1 = j := by
      intro l
      induction l with
      | nil => intro j bx h; cases h
      | cons q l ih =>
        intro j bx h
        simp only [ofH, updH_apply] at h
        split at h
        · rename_i e; exact ⟨q, by simp, e.symm⟩
        · obtain ⟨p, hp, e⟩ := ih j bx h; exact ⟨p, by simp [hp], e⟩
    obtain ⟨p, hp, e⟩ := key l j bx hb
    have : j ≠ i := fun e2 => by have := hd.1 p hp; rw [e, e2] at this; simp at this
    show updH (ofH l) i (some b) j = some bx
    rw [updH_other _ _ this]; exact hb
section
variable {X : Ctx} {s : St} {Q : Exit → St → Prop}
end
end Go.AL

namespace Go.AL
open Go Go.RowKit
section
variable {X : Ctx} {T : Tab} {r : Option Nat} {s : St} {o : Oper} {K : St → Prop}
end
end Go.AL

namespace Go.AL
open Go Go.RowKit
def cutH (c : Nat) (H : Hp) : Hp := fun id => if id < c then H id else none
theorem cutH_some {c : Nat} {H : Hp} {id : Nat} (h : (cutH c H id).isSome = true) : id < c ∧ (H id).isSome = true ∧ cutH c H id = H id := by
  unfold cutH at h ⊢
  split at h
  · rename_i h1; exact ⟨h1, h, if_pos h1⟩
  · cases h
section
variable {P : Program} {φ φ' : Names} {Z Z' : Still} {H H' : Hp} {c c2 c' : Nat} {w w' : World}
theorem HRel.cut (hr : HRel P φ Z H c2 w) (low : Low c (cutH c H)) : HRel P (cutN c φ) Z (cutH c H) c w := by
  have φin : ∀ id, id < c → cutN c φ id = φ id := fun id hi => by unfold cutN; rw [if_pos hi]
  have φout : ∀ id b, cutN c φ id = some b → φ id = some b := fun id b hb => (cutN_up hb).1
  have absS : ∀ id j, id < c → absAt ⟨fun _ => .un, cutH c H, c⟩ (.box id j) = absAt ⟨fun _ => .un, H, c2⟩ (.box id j) := fun id j hi => by simp only [absAt, cutH, if_pos hi]
  have conS : ∀ id j w, id < c → conAt (cutN c φ) ⟨#[], []⟩ w (.box id j) = conAt φ ⟨#[], []⟩ w (.box id j) := fun id j w hi => by simp only [conAt, φin id hi]
  have abs_some : ∀ {id j : Nat} {v : Value} {p : Nat × Nat}, spareOf (absAt ⟨fun _ => .un, cutH c H, c⟩ (.box id j)) v = some p → id < c := fun {id j v p} hs => by
    cases e : cutH c H id with
    | some b => exact (cutH_some (by rw [e]; rfl)).1
    | none => simp [absAt, e, spareOf] at hs
  exact {
    boxes := fun id bx hb => by
      obtain ⟨h1, h2, h3⟩ := cutH_some (c := c) (H := H) (id := id) (by rw [hb]; rfl)
      obtain ⟨b, k1, k2⟩ := hr.boxes id bx (h3 ▸ hb)
      exact ⟨b, by rw [φin id h1]; exact k1, k2.under (low id bx hb).2 fun i b hi hb => by rw [φin i hi]; exact hb⟩
    inj := fun id id' b hi hi' h1 h2 => hr.inj id id' b (cutH_some hi).2.1 (cutH_some hi').2.1 (φout _ _ h1) (φout _ _ h2)
    zok := hr.zok
    zbox := fun b o id hz hi hb => hr.zbox b o id hz (cutH_some hi).2.1 (φout _ _ hb)
    own1 := fun id j b e hl => by
      have hi := abs_some hl
      rw [absS id j hi, conS id j w hi] at hl
      obtain ⟨k0, k⟩ := hr.own1 id j b e hl
      rw [conS id j w hi]
      exact ⟨fun i hi hb => k0 i (cutH_some hi).2.1 (φout _ _ hb), k⟩
    own2 := fun id j id' j' b e e' hl hl' => by
      have hi := abs_some hl
      have hi' := abs_some hl'
      rw [absS id j hi, conS id j w hi] at hl
      rw [absS id' j' hi', conS id' j' w hi'] at hl'
      exact hr.own2 id j id' j' b e e' hl hl'
    fresh := fun id hi => by unfold cutN; rw [if_neg (by omega)] }
theorem HRel.less (hr : HRel P φ Z H c w) {H2 : Hp} (hs : ∀ id bx, H2 id = some bx → H id = some bx) : HRel P φ Z H2 c w := by
  have some_of : ∀ id, (H2 id).isSome = true → (H id).isSome = true := fun id hi => by
    obtain ⟨bx, hbx⟩ := Option.isSome_iff_exists.1 hi; rw [hs id bx hbx]; rfl
  have same : ∀ {id j : Nat} {v : Value} {p : Nat × Nat}, spareOf (absAt ⟨fun _ => .un, H2, c⟩ (.box id j)) v = some p → absAt ⟨fun _ => .un, H2, c⟩ (.box id j) = absAt ⟨fun _ => .un, H, c⟩ (.box id j) := fun {id j v p} hl => by
    cases e : H2 id with
    | none => simp [absAt, e, spareOf] at hl
    | some bx => simp only [absAt, e, hs id bx e]
  exact {
    boxes := fun id bx hb => hr.boxes id bx (hs id bx hb)
    inj := fun id id' b hi hi' => hr.inj id id' b (some_of id hi) (some_of id' hi')
    zok := hr.zok
    zbox := fun b o id hz hi => hr.zbox b o id hz (some_of id hi)
    own1 := fun id j b e hl => by
      obtain ⟨k0, k⟩ := hr.own1 id j b e (by rw [← same hl]; exact hl)
      exact ⟨fun i hi => k0 i (some_of i hi), k⟩
    own2 := fun id j id' j' b e e' hl hl' => hr.own2 id j id' j' b e e' (by rw [← same hl]; exact hl) (by rw [← same hl']; exact hl')
    fresh := hr.fresh }
theorem Grew.less (g : Grew P φ φ' Z Z' H H' w w') {H2 : Hp} (hs : ∀ id bx, H2 id = some bx → H' id = some bx) : Grew P φ φ' Z Z' H H2 w w' := { g with
  mine := fun b hm => g.mine b (by
    have some_of : ∀ id, (H2 id).isSome = true → (H' id).isSome = true := fun id hi => by
      obtain ⟨bx, hbx⟩ := Option.isSome_iff_exists.1 hi; rw [hs id bx hbx]; rfl
    have same : ∀ {id j : Nat} {v : Value} {p : Nat × Nat}, spareOf (absAt ⟨fun _ => .un, H2, 0⟩ (.box id j)) v = some p → absAt ⟨fun _ => .un, H2, 0⟩ (.box id j) = absAt ⟨fun _ => .un, H', 0⟩ (.box id j) := fun {id j v p} hl => by
      cases e : H2 id with
      | none => simp [absAt, e, spareOf] at hl
      | some bx => simp only [absAt, e, hs id bx e]
    rcases hm with ⟨id, h1, h2⟩ | ⟨id, j, e, h1⟩
    · exact .inl ⟨id, some_of id h1, h2⟩
    · refine .inr ⟨id, j, e, ?_⟩
      rw [← same h1]; exact h1) }
end
section
variable {X : Ctx} {s : St} {Q : Exit → St → Prop}
end
end Go.AL

namespace Go.AL
open Go Go.RowKit
theorem inv_gs {φ : Names} {Z : Still} {w : World} {id n cap : Nat} {u : Value} (h : VR φ Z w (.gs id n cap) u) : ∃ b, u = .slice (some ⟨b, 0, none⟩) n cap ∧ φ id = some b ∧ n ≤ cap ∧ cap ≤ maxLen := by
  cases h with | gs _ _ _ b h hc hm => exact ⟨b, rfl, h, hc, hm⟩
theorem A.Le.ms (id n cap : Nat) : A.Le (.ms id 0 n) (.gs id n cap) :=
  ⟨fun φ Z w v h => by obtain ⟨b, rfl, hb, h1, h2⟩ := inv_gs h; exact .ms id 0 n b cap hb h1 h2, fun v p h => by simp [spareOf] at h⟩
theorem VRc.app {φ : Names} {Z : Still} {w : World} {l m : List A} {us vs : Array Value} (h1 : VRc φ Z w l us) (h2 : VRc φ Z w m vs) : VRc φ Z w (l ++ m) (us ++ vs) := by
  refine ⟨by rw [Array.size_append, List.length_append, h1.1, h2.1], fun i hi => ?_⟩
  rw [List.length_append] at hi
  by_cases h : i < l.length
  · have e1 : (us ++ vs).getD i undef = us.getD i undef := by
      rw [Array.getD_eq_getD_getElem?, Array.getD_eq_getD_getElem?, Array.getElem?_append_left (by rw [h1.1]; exact h)]
    have e2 : (l ++ m).getD i .un = l.getD i .un := by rw [List.getD_eq_getElem?_getD, List.getD_eq_getElem?_getD, List.getElem?_append_left h]
    rw [e1, e2]; exact h1.2 i h
  · have e1 : (us ++ vs).getD i undef = vs.getD (i - l.length) undef := by
      rw [Array.getD_eq_getD_getElem?, Array.getD_eq_getD_getElem?, Array.getElem?_append_right (by rw [h1.1]; omega), h1.1]
    have e2 : (l ++ m).getD i .un = m.getD (i - l.length) .un := by rw [List.getD_eq_getElem?_getD, List.getD_eq_getElem?_getD, List.getElem?_append_right (by omega)]
    rw [e1, e2]; exact h2.2 _ (by omega)
section
variable {X : Ctx} {T : Tab} {r : Option Nat} {s : St} {o : Oper} {K : St → Prop}
end
section
variable {X : Ctx} {r : Option Nat} {φ : Names} {Z : Still} {s : St} {a : Act} {w : World} {Q : Exit → St → Prop}
end
end Go.AL

namespace Go.AL
open Go Go.RowKit
def cutD (D : Nat → Bool) (φ : Names) : Names := fun id => if D id = true then φ id else none
def cutHD (D : Nat → Bool) (H : Hp) : Hp := fun id => if D id = true then H id else none
def glueND (D : Nat → Bool) (φ' φ : Names) : Names := fun id => if D id = true then φ' id else φ id
def glueHD (D : Nat → Bool) (H' H : Hp) : Hp := fun id => if D id = true then H' id else H id
theorem cutD_up {D : Nat → Bool} {φ : Names} {id b : Nat} (h : cutD D φ id = some b) : φ id = some b ∧ D id = true := by
  unfold cutD at h; split at h
  · exact ⟨h, by assumption⟩
  · cases h
def InD (D : Nat → Bool) (H : Hp) : Prop := ∀ id bx, H id = some bx → D id = true ∧ NmsB (fun i => D i = true) bx
theorem cutHD_some {D : Nat → Bool} {H : Hp} {id : Nat} (h : (cutHD D H id).isSome = true) : D id = true ∧ (H id).isSome = true ∧ cutHD D H id = H id := by
  unfold cutHD at h ⊢
  split at h
  · rename_i h1; exact ⟨h1, h, if_pos h1⟩
  · cases h
section
variable {P : Program} {D : Nat → Bool} {φ φ' : Names} {Z Z' : Still} {H H' : Hp} {c c2 c3 c' : Nat} {w w' : World}
theorem HRel.cutD (hr : HRel P φ Z H c2 w) (low : InD D (cutHD D H)) (hfr : ∀ id, c ≤ id → D id = true → c2 ≤ id) : HRel P (AL.cutD D φ) Z (cutHD D H) c w := by
  have φin : ∀ id, D id = true → AL.cutD D φ id = φ id := fun id hi => by unfold AL.cutD; rw [if_pos hi]
  have φout : ∀ id b, AL.cutD D φ id = some b → φ id = some b := fun id b hb => (cutD_up hb).1
  have absS : ∀ id j, D id = true → absAt ⟨fun _ => .un, cutHD D H, c⟩ (.box id j) = absAt ⟨fun _ => .un, H, c2⟩ (.box id j) := fun id j hi => by simp only [absAt, cutHD, if_pos hi]
  have conS : ∀ id j w, D id = true → conAt (AL.cutD D φ) ⟨#[], []⟩ w (.box id j) = conAt φ ⟨#[], []⟩ w (.box id j) := fun id j w hi => by simp only [conAt, φin id hi]
  have abs_some : ∀ {id j : Nat} {v : Value} {p : Nat × Nat}, spareOf (absAt ⟨fun _ => .un, cutHD D H, c⟩ (.box id j)) v = some p → D id = true := fun {id j v p} hs => by
    cases e : cutHD D H id with
    | some b => exact (cutHD_some (by rw [e]; rfl)).1
    | none => simp [absAt, e, spareOf] at hs
  exact {
    boxes := fun id bx hb => by
      obtain ⟨h1, h2, h3⟩ := cutHD_some (D := D) (H := H) (id := id) (by rw [hb]; rfl)
      obtain ⟨b, k1, k2⟩ := hr.boxes id bx (h3 ▸ hb)
      exact ⟨b, by rw [φin id h1]; exact k1, k2.nms (low id bx hb).2 fun i b hi hb => by rw [φin i hi]; exact hb⟩
    inj := fun id id' b hi hi' h1 h2 => hr.inj id id' b (cutHD_some hi).2.1 (cutHD_some hi').2.1 (φout _ _ h1) (φout _ _ h2)
    zok := hr.zok
    zbox := fun b o id hz hi hb => hr.zbox b o id hz (cutHD_some hi).2.1 (φout _ _ hb)
    own1 := fun id j b e hl => by
      have hi := abs_some hl
      rw [absS id j hi, conS id j w hi] at hl
      obtain ⟨k0, k⟩ := hr.own1 id j b e hl
      rw [conS id j w hi]
      exact ⟨fun i hi hb => k0 i (cutHD_some hi).2.1 (φout _ _ hb), k⟩
    own2 := fun id j id' j' b e e' hl hl' => by
      have hi := abs_some hl
      have hi' := abs_some hl'
      rw [absS id j hi, conS id j w hi] at hl
      rw [absS id' j' hi', conS id' j' w hi'] at hl'
      exact hr.own2 id j id' j' b e e' hl hl'
    fresh := fun id hi => by
      unfold AL.cutD
      split
      · rename_i h1; exact hr.fresh id (hfr id hi h1)
      · rfl }
theorem HRel.glueD (hr : HRel P φ Z H c2 w) (hc : c2 ≤ c3) (hr' : HRel P φ' Z' H' c' w') (g : Grew P (AL.cutD D φ) φ' Z Z' (cutHD D H) H' w w') (low' : InD D H') (hfr : ∀ id, c3 ≤ id → D id = true → c' ≤ id) :
    HRel P (glueND D φ' φ) Z' (glueHD D H' H) c3 w' ∧ Grew P φ (glueND D φ' φ) Z Z' H (glueHD D H' H) w w' := by
  have φin : ∀ id, D id = true → AL.cutD D φ id = φ id := fun id hi => by unfold AL.cutD; rw [if_pos hi]
  have φout : ∀ id b, AL.cutD D φ id = some b → φ id = some b := fun id b hb => (cutD_up hb).1
  have gin : ∀ id, D id = true → glueND D φ' φ id = φ' id := fun id hi => by unfold glueND; rw [if_pos hi]
  have gout : ∀ id, ¬ D id = true → glueND D φ' φ id = φ id := fun id hi => by unfold glueND; rw [if_neg hi]
  have hin : ∀ id, D id = true → glueHD D H' H id = H' id := fun id hi => by unfold glueHD; rw [if_pos hi]
  have hout : ∀ id, ¬ D id = true → glueHD D H' H id = H id := fun id hi => by unfold glueHD; rw [if_neg hi]
  have cin : ∀ id, D id = true → cutHD D H id = H id := fun id hi => by unfold cutHD; rw [if_pos hi]
  have names : ∀ id b, φ id = some b → glueND D φ' φ id = some b := fun id b hb => by
    by_cases hi : D id = true
    · rw [gin id hi]; exact g.names id b (by rw [φin id hi]; exact hb)
    · rw [gout id hi]; exact hb
  have abs_some : ∀ {Hx : Hp} {k id j : Nat} {v : Value} {p : Nat × Nat}, spareOf (absAt ⟨fun _ => .un, Hx, k⟩ (.box id j)) v = some p → (Hx id).isSome = true := fun {Hx k id j v p} hs => by
    cases e : Hx id with
    | some b => rfl
    | none => simp [absAt, e, spareOf] at hs
  have mineS : ∀ b, Mine (AL.cutD D φ) (cutHD D H) w b → Mine φ H w b := fun b hm => by
    rcases hm with ⟨id, h1, h2⟩ | ⟨id, j, e, h1⟩
    · exact .inl ⟨id, (cutHD_some h1).2.1, φout _ _ h2⟩
    · have hi := (cutHD_some (abs_some h1)).1
      refine .inr ⟨id, j, e, ?_⟩
      simp only [absAt, conAt, φin id hi, cin id hi] at h1 ⊢
      exact h1
  have boxOut : ∀ id b, (H id).isSome = true → ¬ D id = true → φ id = some b → ¬ Mine (AL.cutD D φ) (cutHD D H) w b := fun id b h1 h2 h3 hm => by
    rcases hm with ⟨i, k1, k2⟩ | ⟨i, j, e, k1⟩
    · have := hr.inj id i b h1 (cutHD_some k1).2.1 h3 (φout _ _ k2)
      subst this; exact h2 (cutHD_some k1).1
    · have hi := (cutHD_some (abs_some k1)).1
      have k1' : spareOf (absAt ⟨fun _ => .un, H, c2⟩ (.box i j)) (conAt φ ⟨#[], []⟩ w (.box i j)) = some (b, e) := by
        simp only [absAt, conAt, φin i hi, cin i hi] at k1 ⊢; exact k1
      exact (hr.own1 i j b e k1').1 id h1 h3
  have spareOut : ∀ id j b e, ¬ D id = true → spareOf (absAt ⟨fun _ => .un, H, c2⟩ (.box id j)) (conAt φ ⟨#[], []⟩ w (.box id j)) = some (b, e) → ¬ Mine (AL.cutD D φ) (cutHD D H) w b := fun id j b e h1 h2 hm => by
    rcases hm with ⟨i, k1, k2⟩ | ⟨i, j', e', k1⟩
    · exact (hr.own1 id j b e h2).1 i (cutHD_some k1).2.1 (φout _ _ k2)
    · have hi := (cutHD_some (abs_some k1)).1
      have k1' : spareOf (absAt ⟨fun _ => .un, H, c2⟩ (.box i j')) (conAt φ ⟨#[], []⟩ w (.box i j')) = some (b, e') := by
        simp only [absAt, conAt, φin i hi, cin i hi] at k1 ⊢; exact k1
      have := hr.own2 id j i j' b e e' h2 k1'
      cases this; exact h1 hi
  have blt : ∀ id b, (H id).isSome = true → φ id = some b → b < w.heap.size := fun id b h1 h2 => by
    obtain ⟨bx, hbx⟩ := Option.isSome_iff_exists.1 h1
    obtain ⟨b0, h3, h4⟩ := hr.boxes id bx hbx
    rw [h2] at h3; cases h3; exact h4.lt
  have keep : ∀ b, b < w.heap.size → ¬ Mine (AL.cutD D φ) (cutHD D H) w b → w'.heap[b]? = w.heap[b]? := g.frame
  have conO : ∀ id j, (H id).isSome = true → ¬ D id = true → conAt (glueND D φ' φ) ⟨#[], []⟩ w' (.box id j) = conAt φ ⟨#[], []⟩ w (.box id j) := fun id j h1 h2 => by
    cases e : φ id with
    | none => simp only [conAt, gout id h2, e]
    | some b =>
      simp only [conAt, gout id h2, e]
      rw [World.cell?_of_block (w := w) (w' := w') (a := ⟨b, j, none⟩) (keep b (blt id b h1 e) (boxOut id b h1 h2 e))]
  have absO : ∀ id j, ¬ D id = true → absAt ⟨fun _ => .un, glueHD D H' H, c3⟩ (.box id j) = absAt ⟨fun _ => .un, H, c2⟩ (.box id j) := fun id j h2 => by simp only [absAt, hout id h2]
  have absI : ∀ id j, D id = true → absAt ⟨fun _ => .un, glueHD D H' H, c3⟩ (.box id j) = absAt ⟨fun _ => .un, H', c'⟩ (.box id j) := fun id j h2 => by simp only [absAt, hin id h2]
  have conI : ∀ id j, D id = true → conAt (glueND D φ' φ) ⟨#[], []⟩ w' (.box id j) = conAt φ' ⟨#[], []⟩ w' (.box id j) := fun id j h2 => by simp only [conAt, gin id h2]
  have domO : ∀ {id j : Nat} {v : Value} {p : Nat × Nat}, spareOf (absAt ⟨fun _ => .un, glueHD D H' H, c3⟩ (.box id j)) v = some p → ¬ D id = true → (H id).isSome = true := fun {id j v p} hs hi => by
    have := abs_some hs
    change (glueHD D H' H id).isSome = true at this
    rwa [hout id hi] at this
  have mineO : ∀ id j b e, spareOf (absAt ⟨fun _ => .un, glueHD D H' H, c3⟩ (.box id j)) (conAt (glueND D φ' φ) ⟨#[], []⟩ w' (.box id j)) = some (b, e) → ¬ D id = true →
      spareOf (absAt ⟨fun _ => .un, H, c2⟩ (.box id j)) (conAt φ ⟨#[], []⟩ w (.box id j)) = some (b, e) := fun id j b e hl hi => by
    have h1 := domO hl hi
    rw [absO id j hi, conO id j h1 hi] at hl; exact hl
  have mineI : ∀ id j b e, spareOf (absAt ⟨fun _ => .un, glueHD D H' H, c3⟩ (.box id j)) (conAt (glueND D φ' φ) ⟨#[], []⟩ w' (.box id j)) = some (b, e) → D id = true →
      spareOf (absAt ⟨fun _ => .un, H', c'⟩ (.box id j)) (conAt φ' ⟨#[], []⟩ w' (.box id j)) = some (b, e) := fun id j b e hl hi => by
    rw [absI id j hi, conI id j hi] at hl; exact hl
  have newBox : ∀ id b, (H' id).isSome = true → φ' id = some b → Mine (AL.cutD D φ) (cutHD D H) w b ∨ w.heap.size ≤ b := fun id b h1 h2 => g.mine b (.inl ⟨id, h1, h2⟩)
  have newMine : ∀ id j b e, spareOf (absAt ⟨fun _ => .un, H', c'⟩ (.box id j)) (conAt φ' ⟨#[], []⟩ w' (.box id j)) = some (b, e) → Mine (AL.cutD D φ) (cutHD D H) w b ∨ w.heap.size ≤ b := fun id j b e hl => g.mine b (.inr ⟨id, j, e, by simpa only [absAt] using hl⟩)
  have spLt : ∀ {s : St} {φ : Names} {Z : Still} {w : World} {v : Value} {b e : Nat}, SpareOk P s φ Z w v b e → b < w.heap.size := fun hk => by
    obtain ⟨_, _, _, _, _, _, _, k3, _⟩ := hk; exact lt_of_block k3
  have isI : ∀ id, D id = true → (glueHD D H' H id).isSome = true → (H' id).isSome = true := fun id hi h => by rwa [hin id hi] at h
  have isO : ∀ id, ¬ D id = true → (glueHD D H' H id).isSome = true → (H id).isSome = true := fun id hi h => by rwa [hout id hi] at h
  have apart : ∀ i o b, D i = true → (glueHD D H' H i).isSome = true → ¬ D o = true → (glueHD D H' H o).isSome = true → φ' i = some b → φ o = some b → False := fun i o b hi h1 ho h2 h3 h4 => by
    have k2 := isO o ho h2
    have hlt := blt o b k2 h4
    exact (newBox i b (isI i hi h1) h3).elim (boxOut o b k2 ho h4) (fun h5 => by omega)
  refine ⟨{
    boxes := fun id bx hb => by
      by_cases hi : D id = true
      · rw [hin id hi] at hb
        obtain ⟨b, h1, h2⟩ := hr'.boxes id bx hb
        exact ⟨b, by rw [gin id hi]; exact h1, h2.nms (low' id bx hb).2 fun i b hi hb => by rw [gin i hi]; exact hb⟩
      · rw [hout id hi] at hb
        obtain ⟨b, h1, h2⟩ := hr.boxes id bx hb
        exact ⟨b, by rw [gout id hi]; exact h1, h2.mono names (fun b o hz => (g.up b o hz).1) (fun b o hz => (g.up b o hz).2) (keep b h2.lt (boxOut id b (by rw [hb]; rfl) hi h1))⟩
    inj := fun id id' b hi hi' h1 h2 => by
      by_cases k1 : D id = true <;> by_cases k2 : D id' = true
      · rw [gin id k1] at h1; rw [gin id' k2] at h2
        exact hr'.inj id id' b (isI id k1 hi) (isI id' k2 hi') h1 h2
      · rw [gin id k1] at h1; rw [gout id' k2] at h2
        exact (apart id id' b k1 hi k2 hi' h1 h2).elim
      · rw [gout id k1] at h1; rw [gin id' k2] at h2
        exact (apart id' id b k2 hi' k1 hi h2 h1).elim
      · rw [gout id k1] at h1; rw [gout id' k2] at h2
        exact hr.inj id id' b (isO id k1 hi) (isO id' k2 hi') h1 h2
    zok := hr'.zok
    zbox := fun b o id hz hi hb => by
      by_cases h1 : D id = true
      · rw [gin id h1] at hb
        exact hr'.zbox b o id hz (isI id h1 hi) hb
      · rw [gout id h1] at hb
        have h2 := isO id h1 hi
        have hlt := blt id b h2 hb
        exact (g.back b o hz hlt).elim (fun h3 => hr.zbox b o id h3 h2 hb) (boxOut id b h2 h1 hb)
    own1 := fun id j b e hl => by
      by_cases hi : D id = true
      · have hl' := mineI id j b e hl hi
        obtain ⟨k0, k⟩ := hr'.own1 id j b e hl'
        rw [conI id j hi]
        refine ⟨fun i h1 h2 => ?_, k⟩
        change (glueHD D H' H i).isSome = true at h1
        by_cases h3 : D i = true
        · rw [gin i h3] at h2
          exact k0 i (isI i h3 h1) h2
        · rw [gout i h3] at h2
          have h4 := isO i h3 h1
          have hlt := blt i b h4 h2
          exact (newMine id j b e hl').elim (boxOut i b h4 h3 h2) (fun h5 => by omega)
      · have hl' := mineO id j b e hl hi
        have h1 := domO hl hi
        obtain ⟨k0, n', c'', i, cur, k1, k2, k3, k4, k5⟩ := hr.own1 id j b e hl'
        have hlt := lt_of_block k3
        have hnm := spareOut id j b e hi hl'
        rw [conO id j h1 hi]
        refine ⟨fun i hi' hb => ?_, n', c'', i, cur, k1, k2, (keep b hlt hnm).trans k3, k4, fun o ho hz => (g.back b o hz hlt).elim (k5 o ho) hnm⟩
        change (glueHD D H' H i).isSome = true at hi'
        by_cases h3 : D i = true
        · rw [gin i h3] at hb
          exact (newBox i b (isI i h3 hi') hb).elim hnm (fun h5 => by omega)
        · rw [gout i h3] at hb
          exact k0 i (isO i h3 hi') hb
    own2 := fun id j id' j' b e e' hl hl' => by
      by_cases hi : D id = true <;> by_cases hi' : D id' = true
      · exact hr'.own2 id j id' j' b e e' (mineI id j b e hl hi) (mineI id' j' b e' hl' hi')
      · exfalso
        have h2 := mineO id' j' b e' hl' hi'
        have hlt := spLt (hr.own1 id' j' b e' h2)
        exact (newMine id j b e (mineI id j b e hl hi)).elim (spareOut id' j' b e' hi' h2) (fun h5 => by omega)
      · exfalso
        have h2 := mineO id j b e hl hi
        have hlt := spLt (hr.own1 id j b e h2)
        exact (newMine id' j' b e' (mineI id' j' b e' hl' hi')).elim (spareOut id j b e hi h2) (fun h5 => by omega)
      · exact hr.own2 id j id' j' b e e' (mineO id j b e hl hi) (mineO id' j' b e' hl' hi')
    fresh := fun id hi => by
      by_cases h1 : D id = true
      · rw [gin id h1]; exact hr'.fresh id (hfr id hi h1)
      · rw [gout id h1]; exact hr.fresh id (by omega) }, {
    size := g.size
    frame := fun b hb hm => g.frame b hb fun h1 => hm (mineS b h1)
    os := g.os
    tape := g.tape
    output := g.output
    up := g.up
    back := fun b o hz hb => (g.back b o hz hb).elim .inl fun h1 => .inr (mineS b h1)
    names := names
    mine := fun b hm => by
      rcases hm with ⟨id, h1, h2⟩ | ⟨id, j, e, h1⟩
      · by_cases hi : D id = true
        · rw [gin id hi] at h2
          exact (newBox id b (isI id hi h1) h2).elim (fun h2 => .inl (mineS b h2)) .inr
        · rw [gout id hi] at h2
          exact .inl (.inl ⟨id, isO id hi h1, h2⟩)
      · have h1' : spareOf (absAt ⟨fun _ => .un, glueHD D H' H, c3⟩ (.box id j)) (conAt (glueND D φ' φ) ⟨#[], []⟩ w' (.box id j)) = some (b, e) := by simpa only [absAt] using h1
        by_cases hi : D id = true
        · exact (newMine id j b e (mineI id j b e h1' hi)).elim (fun h2 => .inl (mineS b h2)) .inr
        · have h2 := mineO id j b e h1' hi
          exact .inl (.inr ⟨id, j, e, by simpa only [absAt] using h2⟩) }⟩
end
structure IterD (P : Program) (D : Nat → Bool) (id : Nat) (S : Slots) (nt : Nat) (ps : Array Tmp) (asg body : Code) (L : List (List A)) (I : Nat → Hp → Prop) (cn : Nat → Nat) : Prop where
  pok : ∀ t ∈ ps.toList, t < nt
  len : ∀ as ∈ L, as.length = ps.size
  lp : ∀ k H, I k H → ∃ pend, H id = some (.lp .ready pend S nt ps asg body)
  dom : ∀ k H, I k H → InD D H
  low : ∀ k H, I k H → Low (cn k) H
  round : ∀ k as, L[k]? = some as → ∀ H, I k H → ∀ (E : En) (b : Nat), (∀ i, cn k ≤ i → E.φ0 i = none) →
    Aw (E.cx P nt) (some b) asg (fun e s1 => e = .normal ∧ ∃ p1 S1 nt1 ps1 as1 bo1, s1.H id = some (.lp .ready p1 S1 nt1 ps1 as1 bo1) ∧
      Aw (E.cx P nt) (some b) body (roundQ id fun v H' c' => v = .bool true ∧ c' = cn (k + 1) ∧ Sub H' (I (k + 1))) { s1 with H := updH s1.H id (some (.lp .busy p1 S1 nt1 ps1 as1 bo1)) })
      ⟨setPs (fun t => (S t).down) ps.toList as, H, cn k⟩
theorem IterD.yield {P : Program} {D : Nat → Bool} {id : Nat} {S : Slots} {nt : Nat} {ps : Array Tmp} {asg body : Code} {L : List (List A)} {I : Nat → Hp → Prop} {cn : Nat → Nat} (it : IterD P D id S nt ps asg body L I cn)
    {X : Ctx} (hP : X.P = P) {r : Option Nat} {s : St} {o : Oper} {K : St → Prop} {f : Operand} {args : Array Operand} {at' : Array TypeId} (ho : o.op = .call { callee := .value f, args := args, argTypes := at' }) (hf : rd s.S f = .yl id)
    {k c3 : Nat} (hcn : ∀ i, cn k ≤ i → D i = true → s.c ≤ i) (hc3 : s.c ≤ c3) (hcn3 : ∀ i, c3 ≤ i → D i = true → cn (k + 1) ≤ i) (ha : L[k]? = some (rds s.S args.toList)) (hfree : ∀ x ∈ rds s.S args.toList, Free x) (hI : I k (cutHD D s.H))
    (hK : ∀ H', I (k + 1) H' → K ⟨putO s.S o.dst (.bool true), glueHD D H' s.H, c3⟩) : DoesR X r o s K := by
  subst hP
  obtain ⟨pend, hi⟩ := it.lp k _ hI
  have low := it.dom k _ hI
  have hlen := it.len _ (List.mem_of_getElem? ha)
  intro hdn φ Z a w hr next Q hn
  obtain ⟨dst, op, ty, pos, aft, gd⟩ := o
  simp only at ho
  subst ho
  obtain ⟨b, e0, hb⟩ := inv_yl (hf ▸ hr.sees.rd f)
  have hcut := hr.hrel.cutD low hcn
  obtain ⟨b', hb', hbr⟩ := hcut.boxes id _ hi
  have hbb : b' = b := by
    have := (cutD_up hb').1
    rw [hb] at this; cases this; rfl
  subst hbb
  obtain ⟨fn, tmps, d, hl, hsz, htv⟩ := hbr
  have hargs := vrs_rds hr.slots args
  have hset := setPs_vr (φ := cutD D φ) (Z := Z) (w := w) ps.toList (rds s.S args.toList) (args.map a.eval).toList (S := fun t => (S t).down) (tmps := tmps) (fun t ht => by rw [hsz]; exact it.pok t ht) (by simpa using hargs.1) (fun i hi => by
    have := hargs.2 i hi
    have h2 := this.nms (φ' := cutD D φ) (D := fun _ => False) (hfree _ (mem_getD hi)).nms (fun _ _ h => h.elim)
    simpa [Array.getD_eq_getD_getElem?, List.getD_eq_getElem?_getD] using h2) (fun t => (htv t).down)
  have hrun : (execOp a.eval { dst := dst, op := Op.call { callee := .value f, args := args, argTypes := at' }, type := ty, pos := pos, after := aft, guard := gd }).run X.P w =
      .ok (.round b' fn ((ps.toList.zip (args.map a.eval).toList).foldl (fun tmps p => tmps.setIfInBounds p.1 p.2) tmps) asg body) w := by
    simp only [ex_call, resolve, e0, Deferred.ofValue, invoke, Sem.run_bind, Sem.run_pure, Result.andThen_ok]
    simp only [Instr.yield, Sem.run_bind, run_getLoop hl, Result.andThen_ok]
    rw [if_neg (by
      have h1 : args.size = ps.size := by simpa [rds] using hlen
      simp [h1])]
    simp only [Sem.run_pure, Array.toList_map, ← Array.foldl_toList, Array.toList_zip, Array.empty_append, Array.append_empty]
  refine ⟨fun f _ => trivial, ?_⟩
  rw [Oper.semAt_eq _ _ _ (fun c => by simp), hrun, Oper.uponIn_round]
  refine ⟨fun h0 => (by cases h0), roundIn_of_wpIn trivial ?_⟩
  have hrel0 := hcut.enter (S := setPs (fun t => (S t).down) ps.toList (rds s.S args.toList)) (nt := nt) (hset.1.trans hsz) hset.2 (setPs_own _ _ (fun v hv u => by
    obtain ⟨x, _, rfl⟩ := List.mem_map.1 hv
    exact spare_down _ _) (fun t u => spare_down _ _))
  have h := it.round k _ ha _ hI ⟨w, Mine (cutD D φ) (cutHD D s.H) w, Z, cutD D φ⟩ b' hcut.fresh
  refine wpIn_mono (h (cutD D φ) Z _ w hrel0) ?_
  rintro e a1 w1 ⟨s1, φ1, Z1, ⟨rfl, p1, S1, nt1, ps1, as1, bo1, hi1, hbody⟩, hr1⟩
  have hb1 : φ1 id = some b' := hr1.names id b' hb'
  obtain ⟨fn1, tmps1, d1, hl1, _, _, hset1⟩ := hr1.setLp hi1 hb1
  refine ⟨_, by simp only [Instr.beginRound, Sem.run_bind, run_getLoop hl1, run_setLoop hl1, Result.andThen_ok, Sem.run_pure]; rfl, ?_⟩
  refine wpIn_mono (hbody φ1 Z1 a1 _ (hset1 .busy p1)) ?_
  rintro e a2 w2 ⟨s2, φ2, Z2, hq, hr2⟩
  have hb2 : φ2 id = some b' := hr2.names id b' hb'
  cases e with
  | normal =>
    obtain ⟨st2, pend2, S2, nt2, ps2, as2, bo2, hi2, _, hcc, H2, hI2, hsub⟩ := hq
    obtain ⟨fn2, tmps2, d2, hl2, _, _, hset2⟩ := hr2.setLp hi2 hb2
    have hr3 := hset2 .ready none
    obtain ⟨k1, k2⟩ := hr3.leave
    obtain ⟨g1, g2⟩ := hr.hrel.glueD hc3 (k1.less hsub) (k2.less hsub) (it.dom _ _ hI2) (fun i h1 h2 => by have := hcn3 i h1 h2; show s2.c ≤ i; omega)
    have hr4 := hr.called g1 g2
    have hk := hK H2 hI2
    refine ⟨.bool true, _, by simp only [Instr.endRound, Sem.run_bind, run_getLoop hl2, run_setLoop hl2, Result.andThen_ok, Sem.run_pure]; rfl, ?_⟩
    cases dst with
    | none => exact hn _ _ Z2 _ _ hk hr4
    | some d => exact hn _ _ Z2 _ _ hk (hr4.put_down hr4.more_refl (hdn d rfl) (.s _) (fun p hs => by simp [spareOf] at hs))
  | ret =>
    obtain ⟨st2, pend2, S2, nt2, ps2, as2, bo2, hi2, h, _⟩ := hq
    cases h
  | exit j =>
    obtain ⟨st2, pend2, S2, nt2, ps2, as2, bo2, hi2, h, _⟩ := hq
    cases h
  | goto t => exact hq.elim
  | panic ch => exact hq.elim
  | outgrown => exact hq.elim
section
variable {X : Ctx} {s : St} {Q : Exit → St → Prop}
end
section
variable {X : Ctx} {r : Option Nat} {s : St} {Q : Exit → St → Prop}
theorem Aw.raise {x : Code} {c' : Nat} (hc : s.c ≤ c') (h : Aw X r x Q ⟨s.S, s.H, c'⟩) : Aw X r x Q s :=
  Aw.weaken (S' := s.S) (H' := s.H) (c' := c') (fun _ => .refl _) (fun _ bx hb => ⟨bx, hb, .refl _⟩) hc h
end
end Go.AL

namespace Go.AL
open Go Go.RowKit
section
variable {X : Ctx} {T : Tab} {r : Option Nat} {s : St} {o : Oper} {K : St → Prop}
end
inductive LeL : List A → List A → Prop
  | nil : LeL [] []
  | cons {a b : A} {l m : List A} (h : A.Le a b) (t : LeL l m) : LeL (a :: l) (b :: m)
inductive LeR : List (List A) → List (List A) → Prop
  | nil : LeR [] []
  | cons {a b : List A} {l m : List (List A)} (h : LeL a b) (t : LeR l m) : LeR (a :: l) (b :: m)
theorem LeL.len {l m : List A} (h : LeL l m) : l.length = m.length := by induction h with | nil => rfl | cons _ _ ih => simp [ih]
theorem LeL.get {l m : List A} (h : LeL l m) : ∀ i, A.Le (l.getD i .un) (m.getD i .un) := by
  induction h with
  | nil => intro i; exact .refl _
  | cons h _ ih => intro i; cases i with | zero => exact h | succ i => exact ih i
theorem LeR.len {l m : List (List A)} (h : LeR l m) : l.length = m.length := by induction h with | nil => rfl | cons _ _ ih => simp [ih]
theorem LeR.get {l m : List (List A)} (h : LeR l m) : ∀ i, LeL (l.getD i []) (m.getD i []) := by
  induction h with
  | nil => intro i; exact .nil
  | cons h _ ih => intro i; cases i with | zero => exact h | succ i => exact ih i
theorem LeL.refl : ∀ l : List A, LeL l l
  | [] => .nil
  | a :: l => .cons (.refl a) (LeL.refl l)
theorem A.Le.agg {l m : List A} (h : LeL l m) : A.Le (.agg l) (.agg m) := ⟨fun φ Z w v hv => by
  obtain ⟨vs, e0, e1, e2, e3⟩ := inv_agg hv
  subst e0
  exact .agg _ _ (by rw [e1, h.len]) (fun i hi => e2 i (by rw [← h.len]; exact hi)) fun i hi => (h.get i).vr _ _ _ _ (e3 i (by rw [← h.len]; exact hi)), fun v p e => by simp [spareOf] at e⟩
end Go.AL

namespace Go.AL.Sh
open Go Go.AL Go.AL.Q
structure Sea where
  wide : Int
  high : Int
  ln : Bool
  land : List Int
  hours : Int
  dn : Bool
  drift : List Sp
  speed : Int
structure Rep where
  hour : Int
  cell : Int
  far : Int
  there : Bool
  deriving DecidableEq
def Rep.c (r : Rep) : List A := [.int r.hour, .int r.cell, .int r.far, .bool r.there]
theorem Rep.free (r : Rep) : ∀ x ∈ r.c, Free x := allC (.s _) (allC (.s _) (allC (.s _) (all1 (.s _))))
def Sea.c (s : Sea) : List A := [.int s.wide, .int s.high, .sl s.ln .any (ints s.land), .int s.hours, .sl s.dn .any (s.drift.map Sp.c), .int s.speed]
theorem Sea.free (s : Sea) : ∀ x ∈ s.c, Free x := allC (.s _) (allC (.s _) (allC (free_ints _ _ _) (allC (.s _) (allC (free_map Sp.free _ _ _) (all1 (.s _))))))
def absI (n : Int) : Int := if n > -n then n else -n
theorem absI_eq (n : Int) : absI n = max n (-n) := by unfold absI; rw [Int.max_def]; split <;> split <;> omega
def gmax (x y : Int) : Int := if y > x then y else x
theorem gmax_eq (x y : Int) : gmax x y = max x y := by unfold gmax; rw [Int.max_def]; split <;> split <;> omega
def gmin (x y : Int) : Int := if y < x then y else x
theorem gmin_eq (x y : Int) : gmin x y = min x y := by unfold gmin; rw [Int.min_def]; split <;> split <;> omega
def farF (p o : Sp) : Int := gmax (gmax (gmax (p.lo - o.lo) (o.lo - p.lo)) (p.hi - o.hi)) (o.hi - p.hi)
theorem farF_eq (p o : Sp) : farF p o = max (max (p.lo - o.lo) (o.lo - p.lo)) (max (p.hi - o.hi) (o.hi - p.hi)) := by
  unfold farF; rw [gmax_eq, gmax_eq, gmax_eq]; omega
structure Near (p : Sp) : Prop where
  l0 : -1000000 ≤ p.lo
  l1 : p.lo ≤ 1000000
  h0 : -1000000 ≤ p.hi
  h1 : p.hi ≤ 1000000
def placeP (w cell : Int) : Sp := ⟨cell.tmod w, cell.tdiv w⟩
theorem placeP_near {w cell : Int} (hw : 1 ≤ w ∧ w ≤ 10) (hc : -1000 ≤ cell ∧ cell ≤ 1000) : Near (placeP w cell) := by
  have h1 : (cell.tmod w).natAbs < w.natAbs := by rw [Int.natAbs_tmod]; exact Nat.mod_lt _ (by omega)
  have h2 : (cell.tdiv w).natAbs ≤ cell.natAbs := by rw [Int.natAbs_tdiv]; exact Nat.div_le_self _ _
  exact ⟨by show -1000000 ≤ cell.tmod w; omega, by show cell.tmod w ≤ 1000000; omega, by show -1000000 ≤ cell.tdiv w; omega, by show cell.tdiv w ≤ 1000000; omega⟩
def Sea.stepOk (d : Sp) : Bool := cond (wi d.lo (-2) 2) (wi d.hi (-2) 2) false
def Sea.b0 (s : Sea) : Bool := cond (cond (cond (cond (wi s.wide 1 10) (wi s.high 1 8) false) (wi s.speed 0 2) false) (wi s.hours 1 12) false) ((s.drift.length : Int) == s.hours - 1) false
def Sea.b1 (s : Sea) : Bool := cond s.b0 (risingF (s.wide * s.high) (-1) s.land) false
def Sea.ok (s : Sea) : Bool := cond s.b1 (s.drift.all Sea.stepOk) false
def Sea.chk (s : Sea) : Int := if s.ok then 0 else 10
def Sea.many (s : Sea) : Int := s.wide * s.high
structure Sea.Ok (s : Sea) : Prop where
  w : 1 ≤ s.wide ∧ s.wide ≤ 10
  h : 1 ≤ s.high ∧ s.high ≤ 8
  sp : 0 ≤ s.speed ∧ s.speed ≤ 2
  hr : 1 ≤ s.hours ∧ s.hours ≤ 12
  dl : (s.drift.length : Int) = s.hours - 1
  ri : risingF (s.wide * s.high) (-1) s.land = true
  st : ∀ d ∈ s.drift, (-2 ≤ d.lo ∧ d.lo ≤ 2) ∧ -2 ≤ d.hi ∧ d.hi ≤ 2
theorem Sea.b0_ok {s : Sea} (h : s.b0 = true) : (1 ≤ s.wide ∧ s.wide ≤ 10) ∧ (1 ≤ s.high ∧ s.high ≤ 8) ∧ (0 ≤ s.speed ∧ s.speed ≤ 2) ∧ (1 ≤ s.hours ∧ s.hours ≤ 12) ∧ (s.drift.length : Int) = s.hours - 1 := by
  unfold Sea.b0 at h
  exact ⟨wi_iff.1 (ac1 (ac1 (ac1 (ac1 h)))), wi_iff.1 (ac2 (ac1 (ac1 (ac1 h)))), wi_iff.1 (ac2 (ac1 (ac1 h))), wi_iff.1 (ac2 (ac1 h)), eq_of_beq (ac2 h)⟩
theorem Sea.ok_of {s : Sea} (h : s.ok = true) : s.Ok := by
  unfold Sea.ok at h
  have h1 := ac1 h
  unfold Sea.b1 at h1
  obtain ⟨a, b, c, d, e⟩ := Sea.b0_ok (ac1 h1)
  refine ⟨a, b, c, d, e, ac2 h1, fun x hx => ?_⟩
  have := List.all_eq_true.1 (ac2 h) x hx
  unfold Sea.stepOk at this
  exact ⟨wi_iff.1 (ac1 this), wi_iff.1 (ac2 this)⟩
theorem Sea.Ok.many {s : Sea} (h : s.Ok) : 1 ≤ s.many ∧ s.many ≤ 80 := by
  unfold Sea.many
  obtain ⟨w1, w2⟩ := h.w
  obtain ⟨h1, h2⟩ := h.h
  constructor
  · have := Int.mul_le_mul w1 h1 (by omega) (by omega); omega
  · have := Int.mul_le_mul w2 h2 (by omega) (by omega); omega
def Sea.step (s : Sea) (hour : Int) : Sp := s.drift.getD hour.toNat ⟨0, 0⟩
def Sea.steps (s : Sea) (hour : Int) (p q : Sp) : Bool :=
  cond ((⟨p.lo + (s.step hour).lo, p.hi + (s.step hour).hi⟩ : Sp) == q) true (decide (farF ⟨p.lo + (s.step hour).lo, p.hi + (s.step hour).hi⟩ q ≤ s.speed))
def Sea.repOk (s : Sea) (r : Rep) : Bool := cond (cond (wi r.hour 0 (s.hours - 1)) (wi r.cell 0 (s.many - 1)) false) (wi r.far 0 9) false
def Sea.repsOk (s : Sea) (l : List Rep) : Bool := cond (decide ((l.length : Int) ≤ 24)) (l.all s.repOk) false
def repC (w : Int) (r : Rep) : List A := r.c ++ (placeP w r.cell).c
theorem repC_free (w : Int) (r : Rep) : ∀ x ∈ repC w r, Free x := fun x hx => (List.mem_append.1 hx).elim (r.free x) ((placeP w r.cell).free x)
def isTrueF (w : Int) (r : Rep) (p : Sp) : Bool := r.there == decide (farF (placeP w r.cell) p ≤ r.far)
def falseAt (w : Int) (hour : Int) (p : Sp) (r : Rep) : Bool := cond (r.hour == hour) (!isTrueF w r p) false
def untrueF (w : Int) (l : List Rep) (hour : Int) (p : Sp) : Int := (l.countP (falseAt w hour p) : Nat)
theorem cnt_take {α : Type} {p : α → Bool} {l : List α} {k : Nat} (h : k < l.length) : ((l.take (k + 1)).countP p : Int) = (l.take k).countP p + if p l[k] then 1 else 0 := by
  rw [List.take_succ_eq_append_getElem h, List.countP_append]
  simp only [List.countP_cons, List.countP_nil]
  split <;> simp
def seaA (s : Sea) (m : A) : List A := s.c ++ [m]
def logA (s : Sea) (m : A) (l : List Rep) : List A := seaA s m ++ [.sl (l.isEmpty) .any (l.map (repC s.wide))]
theorem seaA_free (s : Sea) : ∀ x ∈ seaA s .un, Free x := fun x hx => (List.mem_append.1 hx).elim (s.free x) (all1 .un x)
theorem logA_free (s : Sea) (l : List Rep) : ∀ x ∈ logA s .un l, Free x := fun x hx => (List.mem_append.1 hx).elim (seaA_free s x) (all1 (free_map (repC_free _) _ _ _) x)
theorem ris_app {n x : Int} : ∀ {l : List Int} {p : Int}, risingF n p (l ++ [x]) = cond (risingF n p l) (wi x (l.getLast?.getD p + 1) (n - 1)) false
  | [], p => by
    show cond (wi x (p + 1) (n - 1)) true false = wi x (p + 1) (n - 1)
    cases wi x (p + 1) (n - 1) <;> rfl
  | i :: is, p => by
    have e : (i :: is).getLast?.getD p = is.getLast?.getD i := by rw [List.getLast?_cons]; rfl
    rw [List.cons_append, risingF, ris_app, e, risingF, cond_assoc]
def risK (b : Bool) (n : Int) (l : List Int) (k : Nat) : Bool := cond b (risingF n (-1) (l.take k)) false
theorem risK_zero (b : Bool) (n : Int) (l : List Int) : risK b n l 0 = b := by cases b <;> rfl
theorem last_take {l : List Int} {k : Nat} (hk : k ≤ l.length) : (l.take k).getLast?.getD (-1) = prevI l k := by
  cases k with
  | zero => rfl
  | succ j =>
    rw [List.take_succ_eq_append_getElem (by omega), List.getLast?_concat]
    simp [prevI, List.getD_eq_getElem?_getD, show j < l.length by omega]
theorem risK_step {b : Bool} {n : Int} {l : List Int} {k : Nat} (h : k < l.length) : risK b n l (k + 1) = cond (risK b n l k) (wi l[k] (prevI l k + 1) (n - 1)) false := by
  unfold risK
  rw [List.take_succ_eq_append_getElem h, ris_app, last_take (by omega), cond_assoc]
theorem risK_prev {b : Bool} {n : Int} {l : List Int} {k : Nat} (hk : k ≤ l.length) (hn : 0 ≤ n) (h : risK b n l k = true) : -1 ≤ prevI l k ∧ prevI l k ≤ n := by
  cases k with
  | zero => show -1 ≤ (-1 : Int) ∧ (-1 : Int) ≤ n; omega
  | succ j =>
    rw [risK_step hk] at h
    have h1 := wi_iff.1 (ac2 h)
    have h0 := risK_prev (by omega) hn (ac1 h)
    have e : prevI l (j + 1) = l[j] := by simp [prevI, List.getD_eq_getElem?_getD, show j < l.length from hk]
    rw [e]; omega
theorem risK_b {b : Bool} {n : Int} {l : List Int} {k : Nat} (h : risK b n l k = true) : b = true := by unfold risK at h; exact ac1 h
theorem risK_full {b : Bool} {n : Int} {l : List Int} : risK b n l l.length = cond b (risingF n (-1) l) false := by unfold risK; rw [List.take_length]
theorem _root_.Go.AL.A.Le.tupL {l m : List A} (h : LeL l m) : A.Le (.tup l) (.tup m) := ⟨fun φ Z w v hv => by
  obtain ⟨vs, e0, e1, e3⟩ := inv_tup hv
  subst e0
  exact .tup _ _ (by rw [e1, h.len]) fun i hi => (h.get i).vr _ _ _ _ (e3 i (by rw [← h.len]; exact hi)), fun v p e => by simp [spareOf] at e⟩
theorem _root_.Go.AL.LeL.appL {l m l' m' : List A} (h : LeL l m) (h' : LeL l' m') : LeL (l ++ l') (m ++ m') := by
  induction h with
  | nil => exact h'
  | cons h _ ih => exact .cons h ih
end Go.AL.Sh

namespace Go.AL
open Go Go.RowKit
def keyA {α : Type} (enc : α → List Value) (a : α) : A := .agg ((enc a).map A.s)
structure KeyTy (P : Program) (kt : TypeId) {α : Type} [BEq α] (enc : α → List Value) : Prop where
  und : ∃ d, P.underlying kt = some d ∧ ∀ cs ds, Instr.sameNow d (.agg cs) (.agg ds) = none
  eq : ∀ a b, pureRun P (Op.equal kt (.agg (enc a).toArray) (.agg (enc b).toArray)) = some (a == b)
  ck : ∀ e a, pureRun P (Instr.checkKey e 10000 kt (.agg (enc a).toArray)) = some ()
  bits : ∀ a, Instr.sameBits 10000 (.agg (enc a).toArray) (.agg (enc a).toArray) = true
section
variable {α V : Type} [BEq α] [LawfulBEq α] {P : Program} {kt : TypeId} {enc : α → List Value}
def encM (enc : α → List Value) (val : V → A) (m : List (α × V)) : List (A × A) := m.map fun p => (keyA enc p.1, val p.2)
def ixM (m : List (α × V)) (a : α) : Option Nat := m.findIdx? (·.1 == a)
def mget (m : List (α × V)) (a : α) : Option V := match ixM m a with
  | some j => (m[j]?).map (·.2)
  | none => none
def mput (m : List (α × V)) (a : α) (v : V) : List (α × V) := match ixM m a with
  | some j => m.set j (a, v)
  | none => m ++ [(a, v)]
theorem concCells_s : ∀ (l : List Value), concCells (l.map A.s) = some l
  | [] => rfl
  | v :: l => by simp only [List.map_cons, concCells, concCells_s l]
theorem conc_key (a : α) : concA (keyA enc a) = some (.agg (enc a).toArray) := by simp only [keyA, concA, concCells_s]
theorem conc_keys (val : V → A) : ∀ (m : List (α × V)), concKeys (encM enc val m) = some (m.map fun p => .agg (enc p.1).toArray)
  | [] => rfl
  | p :: m => by
    have := conc_keys val m
    simp only [encM] at this
    simp only [encM, List.map_cons, concKeys, conc_key, this]
theorem ask_keys (h : KeyTy P kt enc) (a : α) : ∀ (l : List α) (i : Nat), (pureRun P (Instr.findAsking kt (.agg (enc a).toArray) (bare (l.map fun b => .agg (enc b).toArray)) i)).map (Option.map (·.1)) = some ((l.findIdx? (· == a)).map (i + ·))
  | [], i => rfl
  | b :: l, i => by
    have ih := ask_keys h a l (i + 1)
    simp only [bare, List.map_cons, Instr.findAsking, pureRun_bind, h.eq, Option.bind_some] at ih ⊢
    by_cases e : a == b
    · have e2 : (b == a) = true := by have := eq_of_beq e; subst this; exact e
      simp only [e, if_true, pureRun, List.findIdx?_cons, e2]
      simp [Pure.pure, pureRun]
    · have e2 : (b == a) = false := by
        cases e3 : (b == a) with
        | false => rfl
        | true => have := eq_of_beq e3; subst this; exact absurd (beq_self_eq_true _) e
      rw [if_neg e, ih, List.findIdx?_cons, e2]
      cases l.findIdx? (· == a) <;> simp; omega
theorem findIx_keys (h : KeyTy P kt enc) (a : α) (l : List α) : findIx P kt (.agg (enc a).toArray) (l.map fun b => .agg (enc b).toArray) = some (l.findIdx? (· == a)) := by
  obtain ⟨d, hu, hs⟩ := h.und
  have hund : pureRun P (underlying kt) = some d := by
    simp only [underlying, pureRun_bind]
    simp [program, pureRun, hu, Pure.pure]
  have key := ask_keys h a l 0
  unfold findIx
  cases l with
  | nil =>
    simp only [List.map_nil, bare, Instr.findKey, pureRun_bind, hund, Option.bind_some, Instr.findNow]
    rfl
  | cons b l =>
    have e : pureRun P (Instr.findKey kt (.agg (enc a).toArray) (bare ((b :: l).map fun b => .agg (enc b).toArray))) = pureRun P (Instr.findAsking kt (.agg (enc a).toArray) (bare ((b :: l).map fun b => .agg (enc b).toArray)) 0) := by
      simp only [Instr.findKey, pureRun_bind, hund, Option.bind_some, List.map_cons, bare, Instr.findNow, hs]
    rw [e]
    generalize pureRun P (Instr.findAsking kt (.agg (enc a).toArray) (bare ((b :: l).map fun b => .agg (enc b).toArray)) 0) = r at key
    have z : ((b :: l).findIdx? (· == a)).map (0 + ·) = (b :: l).findIdx? (· == a) := by
      cases (b :: l).findIdx? (· == a) <;> simp
    rw [z] at key
    cases r with
    | none => simp at key
    | some o => cases o with
      | none => simp only [Option.map_some, Option.map_none, Option.some.injEq] at key; rw [← key]
      | some p => simp only [Option.map_some, Option.some.injEq] at key; rw [← key]
theorem ixM_map (m : List (α × V)) (a : α) : (m.map (·.1)).findIdx? (· == a) = ixM m a := by
  unfold ixM; rw [List.findIdx?_map]; rfl
theorem ixM_some {m : List (α × V)} {a : α} {j : Nat} (h : ixM m a = some j) : ∃ v, m[j]? = some (a, v) := by
  unfold ixM at h
  obtain ⟨hj, h1, _⟩ := List.findIdx?_eq_some_iff_getElem.1 h
  have := eq_of_beq h1
  exact ⟨m[j].2, by rw [List.getElem?_eq_getElem hj, ← this]⟩
theorem KeyTy.at (h : KeyTy P kt enc) (val : V → A) (m : List (α × V)) (a : α) : KeyAt P kt (encM enc val m) (keyA enc a) (ixM m a) := by
  refine ⟨_, _, conc_key a, conc_keys val m, h.ck _ a, h.ck _ a, ?_, fun i hi => ?_⟩
  · have := findIx_keys h a (m.map (·.1))
    rw [ixM_map, List.map_map] at this
    exact this
  · obtain ⟨v, hv⟩ := ixM_some hi
    simp only [List.getD_eq_getElem?_getD, List.getElem?_map, hv, Option.map_some, Option.getD_some]
    exact h.bits a
theorem KeyTy.ix (h : KeyTy P kt enc) (val : V → A) (m : List (α × V)) (a : α) : ixOf P kt (encM enc val m) (keyA enc a) = ixM m a := (h.at val m a).ix
theorem KeyTy.has (h : KeyTy P kt enc) (val : V → A) (m : List (α × V)) (a : α) : ∃ j, KeyAt P kt (encM enc val m) (keyA enc a) j := ⟨_, h.at val m a⟩
theorem KeyTy.lk {T : Tab} {et : Nat} (h : KeyTy P kt enc) (val : V → A) (m : List (α × V)) (a : α) {v : A} {is : Bool}
    (hv : v = match mget m a with | some x => (val x).down | none => (zeroA T et).down) (his : is = (mget m a).isSome) : LkIs P T kt et (encM enc val m) (keyA enc a) v is := by
  refine ⟨_, h.at val m a, ?_, ?_⟩
  · rw [hv]; unfold mget
    cases e : ixM m a with
    | none => rfl
    | some j =>
      obtain ⟨x, hx⟩ := ixM_some e
      simp [hx, lkA, encM, List.getD_eq_getElem?_getD]
  · rw [his]; unfold mget
    cases e : ixM m a with
    | none => rfl
    | some j =>
      obtain ⟨x, hx⟩ := ixM_some e
      simp [hx]
theorem KeyTy.up (h : KeyTy P kt enc) (val : V → A) (m : List (α × V)) (a : α) (v : V) : upKV (encM enc val m) (keyA enc a) (val v) (ixOf P kt (encM enc val m) (keyA enc a)) = encM enc val (mput m a v) := by
  rw [h.ix val m a]
  unfold mput
  cases ixM m a with
  | none => simp [upKV, encM]
  | some j => simp [upKV, encM, List.map_set]
theorem mget_put (m : List (α × V)) (a b : α) (v : V) : mget (mput m a v) b = if a == b then some v else mget m b := by
  have ixput : ∀ (l : List (α × V)) (c : α), mget l c = (l.find? (·.1 == c)).map (·.2) := fun l c => by
    unfold mget ixM
    induction l with
    | nil => rfl
    | cons p l ih =>
      rw [List.findIdx?_cons, List.find?_cons]
      by_cases e : p.1 == c
      · simp [e]
      · simp only [e]
        cases e2 : l.findIdx? (fun p => p.1 == c) with
        | none => rw [e2] at ih; simpa using ih
        | some j => rw [e2] at ih; simpa using ih
  rw [ixput, ixput]
  have key : ∀ l : List (α × V), (List.find? (fun x : α × V => x.1 == b) (match l.findIdx? (fun x : α × V => x.1 == a) with | some j => l.set j (a, v) | none => l ++ [(a, v)])).map (·.2) = if a == b then some v else (l.find? (fun x : α × V => x.1 == b)).map (·.2) := by
    intro l
    induction l with
    | nil => by_cases e : a == b <;> simp [e]
    | cons p l ih =>
      rw [List.findIdx?_cons]
      by_cases e : p.1 == a
      · simp only [e, if_true, List.set_cons_zero, List.find?_cons]
        by_cases e2 : a == b
        · simp [e2]
        · have e3 : (p.1 == b) = false := by
            have := eq_of_beq e; rw [this]; simpa using e2
          simp [e2, e3]
      · simp only [e]
        cases e2 : l.findIdx? (fun p => p.1 == a) with
        | none =>
          rw [e2] at ih
          simp only [Option.map_none] at ih ⊢
          by_cases e3 : p.1 == b
          · have e4 : (a == b) = false := by
              cases e5 : a == b with
              | false => rfl
              | true => have h1 := eq_of_beq e5; have h2 := eq_of_beq e3; rw [h1, h2] at e; simp at e
            simp [e3, e4]
          · simpa [List.find?_cons, e3] using ih
        | some j =>
          rw [e2] at ih
          simp only [Option.map_some] at ih ⊢
          by_cases e3 : p.1 == b
          · have e4 : (a == b) = false := by
              cases e5 : a == b with
              | false => rfl
              | true => have h1 := eq_of_beq e5; have h2 := eq_of_beq e3; rw [h1, h2] at e; simp at e
            simp [e3, e4]
          · simpa [List.find?_cons, e3] using ih
  exact key m
end
end Go.AL

namespace Go.AL
open Go Go.RowKit
inductive Ren (k nm : Nat) : A → A → Prop
  | free {x : A} (h : Free x) : Ren k nm x x
  | mp : Ren k nm (.mp k) (.mp nm)
  | agg {l m : List A} (hl : l.length = m.length) (h : ∀ i, i < l.length → Ren k nm (l.getD i .un) (m.getD i .un)) : Ren k nm (.agg l) (.agg m)
  | tup {l m : List A} (hl : l.length = m.length) (h : ∀ i, i < l.length → Ren k nm (l.getD i .un) (m.getD i .un)) : Ren k nm (.tup l) (.tup m)
theorem Ren.vr {k nm : Nat} {x y : A} (h : Ren k nm x y) {φ φ' : Names} {Z : Still} {w : World} {b : Nat} (h1 : φ k = some b) (h2 : φ' nm = some b) : ∀ {u : Value}, VR φ Z w x u → VR φ' Z w y u := by
  induction h with
  | free hf => intro u hv; exact hv.nms (D := fun _ => False) hf.nms fun _ _ h => h.elim
  | mp =>
    intro u hv
    obtain ⟨b', e, h3⟩ := inv_mp hv
    rw [h1] at h3; cases h3
    rw [e]; exact .mp _ _ h2
  | agg hl h ih =>
    intro u hv
    obtain ⟨us, rfl, r1, r2, r3⟩ := inv_agg hv
    exact .agg _ _ (r1.trans hl) (fun j hj => r2 j (hl ▸ hj)) fun j hj => ih j (hl ▸ hj) (r3 j (hl ▸ hj))
  | tup hl h ih =>
    intro u hv
    obtain ⟨us, rfl, r1, r3⟩ := inv_tup hv
    exact .tup _ _ (r1.trans hl) fun j hj => ih j (hl ▸ hj) (r3 j (hl ▸ hj))
inductive RenL (k nm : Nat) : List A → List A → Prop
  | nil : RenL k nm [] []
  | cons {x y : A} {l m : List A} (h : Ren k nm x y) (t : RenL k nm l m) : RenL k nm (x :: l) (y :: m)
theorem RenL.len {k nm : Nat} {l m : List A} (h : RenL k nm l m) : l.length = m.length := by
  induction h with
  | nil => rfl
  | cons _ _ ih => simp [ih]
theorem RenL.get {k nm : Nat} {l m : List A} (h : RenL k nm l m) : ∀ i, i < l.length → Ren k nm (l.getD i .un) (m.getD i .un) := by
  induction h with
  | nil => intro i hi; cases hi
  | cons h _ ih =>
    intro i hi
    cases i with
    | zero => exact h
    | succ i => exact ih i (by simpa using hi)
theorem RenL.agg {k nm : Nat} {l m : List A} (h : RenL k nm l m) : Ren k nm (.agg l) (.agg m) := .agg h.len h.get
theorem RenL.tup {k nm : Nat} {l m : List A} (h : RenL k nm l m) : Ren k nm (.tup l) (.tup m) := .tup h.len h.get
theorem RenL.app {k nm : Nat} {l m l' m' : List A} (h : RenL k nm l m) (h' : RenL k nm l' m') : RenL k nm (l ++ l') (m ++ m') := by
  induction h with
  | nil => exact h'
  | cons h _ ih => exact .cons h ih
theorem RenL.free {k nm : Nat} : ∀ {l : List A}, (∀ x ∈ l, Free x) → RenL k nm l l
  | [], _ => .nil
  | x :: l, h => .cons (.free (h x (by simp))) (RenL.free fun y hy => h y (by simp [hy]))
theorem NewMap.ren {P : Program} {g : FuncId} {args : List A} {nm k : Nat} {v v' : A} {kvs : List (A × A)} (he : Enters P g) (ha : ∀ x ∈ args, Free x) (hk : ∀ p ∈ kvs, Free p.1 ∧ Free p.2)
    (h : SCall P g args (fun _ => none) 0 fun v' H' _ => v' = v ∧ H' = ofH [(k, .map kvs)]) (hr : Ren k nm v v') (hs : ∀ u, spareOf v' u = none) : NewMap P g args nm v' kvs :=
  NewMap.of he ha hk h (fun φ φ' Z w u b h1 h2 h3 => hr.vr h1 h2 h3) hs
end Go.AL

namespace Go.AL
open Go Go.RowKit
section
variable {X : Ctx} {s : St} {Q : Exit → St → Prop}
theorem Aw.iterM {g : Operand} {ps : Array Tmp} {asg body : Code} {f : Nat} {fst cap : List A} (hf : rd s.S g = .fn (.func f) fst cap) (he : Enters X.P f) (L : List (List A)) (I : Nat → Hp → Prop) (D : Code → Hp → Prop)
    (hps : (ps.toList.all fun t => Nat.blt t X.nt) = true) (hlen : ∀ as ∈ L, as.length = ps.size) (hS : ∀ t, Under s.c (s.S t)) (low : ∀ k H, I k H → Low s.c H) (lowD : ∀ j H, D j H → Low s.c H)
    (iterf : ∀ {I' : Nat → Hp → Prop} {D' : Hp → Prop}, Iter X.P (s.c + 1) s.c (fun t => (s.S t).down) X.nt ps asg body L I' D' → (∀ k H, I' k H → ∃ H0, I k H0 ∧ ∀ id, id ≠ s.c → H id = H0 id) → ∀ H, I' 0 H →
      SCall X.P f ((fst ++ [.yl s.c]) ++ cap) H (s.c + 1) fun v H' c' => s.c + 1 ≤ c' ∧ (Sub H' (I' L.length) ∨ Sub H' D'))
    (hI : I 0 s.H)
    (round : ∀ (lpB : LoopState → Option Code → B), (∀ st p, UnderB s.c (lpB st p)) → ∀ k as, L[k]? = some as → ∀ H, I k H → ∀ (E : En) (b : Nat), (∀ i, s.c + 1 ≤ i → E.φ0 i = none) →
      Aw (E.cx X.P X.nt) (some b) asg (fun e s1 => e = .normal ∧ s1.H s.c = some (lpB .ready none) ∧ Aw (E.cx X.P X.nt) (some b) body (RQ lpB s.c (I (k + 1)) D) { s1 with H := updH s1.H s.c (some (lpB .busy none)) })
        ⟨setPs (fun t => (s.S t).down.down) ps.toList as, updH H s.c (some (lpB .ready none)), s.c + 1⟩)
    (k1 : ∀ H c', s.c ≤ c' → Sub H (I L.length) → Q .normal ⟨s.S, H, c'⟩) (k2 : ∀ j H c', s.c ≤ c' → Sub H (D j) → Aw X none j Q ⟨s.S, H, c'⟩) : Aw X none (.rangeFunc g ps asg body) Q s := by
  let lpB : LoopState → Option Code → B := fun st p => .lp st p (fun t => (s.S t).down) X.nt ps asg body
  have ulp : ∀ st p, UnderB s.c (lpB st p) := fun st p => .lp _ _ _ _ _ _ _ fun t => (hS t).down
  let I' : Nat → Hp → Prop := fun k H => ∃ H0, I k H0 ∧ H = updH H0 s.c (some (lpB .ready none))
  let D' : Hp → Prop := fun H => ∃ j H0, D j H0 ∧ H s.c = some (lpB .done (some j)) ∧ ∀ i bx, H0 i = some bx → i ≠ s.c → H i = some bx
  have sub_ne : ∀ {H : Hp} {J : Hp → Prop} {b : B}, Sub H J → Sub (updH H s.c (some b)) fun H => ∃ H0, J H0 ∧ H = updH H0 s.c (some b) := by
    rintro H J b ⟨H0, h1, h2⟩
    refine ⟨_, ⟨H0, h1, rfl⟩, fun i bx hb => ?_⟩
    rw [updH_apply] at hb ⊢
    split
    · rename_i e; rw [if_pos e] at hb; exact hb
    · rename_i e; rw [if_neg e] at hb; exact h2 i bx hb
  have it : Iter X.P (s.c + 1) s.c (fun t => (s.S t).down) X.nt ps asg body L I' D' := {
    pok := fun t ht => by have := List.all_eq_true.1 hps t ht; simpa [Nat.blt_eq] using this
    len := hlen
    lp := by
      rintro k H ⟨H0, _, rfl⟩
      exact ⟨none, updH_same _ _ _⟩
    low := by
      rintro k H ⟨H0, h0, rfl⟩ id bx hb
      rw [updH_apply] at hb
      split at hb
      · rename_i e; cases hb; exact ⟨by omega, (ulp _ _).mono (Nat.le_succ _)⟩
      · have := low k H0 h0 id bx hb; exact ⟨by omega, this.2.mono (Nat.le_succ _)⟩
    round := by
      rintro k as ha H ⟨H0, h0, rfl⟩ E b hE
      refine (round lpB ulp k as ha H0 h0 E b hE).mono ?_
      rintro e s1 ⟨rfl, h1, h2⟩
      refine ⟨rfl, none, _, _, _, _, _, h1, h2.mono fun e2 s2 h3 => ?_⟩
      cases e2 with
      | normal =>
        obtain ⟨⟨st, p, hl⟩, hc, hsub⟩ := h3
        exact ⟨st, p, _, _, _, _, _, hl, hc, .inl ⟨rfl, sub_ne hsub⟩⟩
      | ret =>
        obtain ⟨⟨st, p, hl⟩, hc, H1, hD, hsub⟩ := h3
        exact ⟨st, p, _, _, _, _, _, hl, hc, .inr ⟨rfl, ⟨_, ⟨.ret, H1, hD, updH_same _ _ _, fun i bx hb hne => by rw [updH_other _ _ hne]; exact hsub i bx hb⟩, fun _ _ h => h⟩⟩⟩
      | exit j =>
        obtain ⟨⟨st, p, hl⟩, hc, H1, hD, hsub⟩ := h3
        exact ⟨st, p, _, _, _, _, _, hl, hc, .inr ⟨rfl, ⟨_, ⟨.exit j, H1, hD, updH_same _ _ _, fun i bx hb hne => by rw [updH_other _ _ hne]; exact hsub i bx hb⟩, fun _ _ h => h⟩⟩⟩
      | goto t => exact h3.elim
      | panic ch => exact h3.elim
      | outgrown => exact h3.elim }
  refine Aw.rangeFunc hf he (iterf it (fun k H ⟨H0, h1, h2⟩ => ⟨H0, h1, fun id hne => by rw [h2]; simp [updH, beq_no hne]⟩) (updH s.H s.c (some (lpB .ready none))) ⟨s.H, hI, rfl⟩) ?_
  rintro v H' c' ⟨hc, hs⟩
  rcases hs with ⟨H1, ⟨H0, h0, rfl⟩, hs⟩ | ⟨H1, ⟨j, H0, hD, hl, h0⟩, hs⟩
  · refine ⟨_, none, _, _, _, _, _, hs s.c _ (updH_same _ _ _), by decide, k1 _ _ (by omega) ⟨H0, h0, fun i bx hb => ?_⟩⟩
    have hi := (low _ _ h0 i bx hb).1
    rw [updH_other _ _ (by omega)]
    exact hs i bx (by rw [updH_other _ _ (by omega)]; exact hb)
  · refine ⟨_, some j, _, _, _, _, _, hs s.c _ hl, by decide, ?_⟩
    refine k2 j _ _ (by omega) ⟨H0, hD, fun i bx hb => ?_⟩
    have hi := (lowD _ _ hD i bx hb).1
    rw [updH_other _ _ (by omega)]
    exact hs i bx (h0 i bx hb (by omega))
end
end Go.AL

namespace Go.AL.Sh
open Go Go.AL Go.AL.Q
def nevK (k : Nat) : List Int := List.replicate k 1048576 ++ List.replicate (80 - k) 0
theorem nevK_len {k : Nat} (h : k ≤ 80) : (nevK k).length = 80 := by unfold nevK; simp; omega
theorem nevK_step {k : Nat} (h : k < 80) : (nevK k).set k 1048576 = nevK (k + 1) := by
  unfold nevK
  rw [List.set_append_right _ _ (by simp), List.length_replicate, Nat.sub_self, show 80 - k = (80 - (k + 1)) + 1 by omega, List.replicate_succ, List.set_cons_zero, List.replicate_succ' (n := k), List.append_assoc]
  rfl
def setK (val : Nat → Int) (l : List Nat) : List Int := l.foldl (fun a p => a.set p (val p)) (List.replicate 80 1048576)
theorem setK_len (val : Nat → Int) : ∀ l, (setK val l).length = 80 := by
  have : ∀ (l : List Nat) (a : List Int), (l.foldl (fun a p => a.set p (val p)) a).length = a.length := by
    intro l
    induction l with
    | nil => intro a; rfl
    | cons x l ih => intro a; rw [List.foldl_cons, ih, List.length_set]
  intro l
  unfold setK; rw [this]; simp
theorem setK_succ (val : Nat → Int) {l : List Nat} {j p : Nat} (h : l[j]? = some p) : setK val (l.take (j + 1)) = (setK val (l.take j)).set p (val p) := by
  obtain ⟨hj, e⟩ := List.getElem?_eq_some_iff.1 h
  unfold setK
  rw [List.take_succ_eq_append_getElem hj, List.foldl_append, e]; rfl
theorem setK_get (val : Nat → Int) (q : Nat) : ∀ (l : List Nat) (hq : q < 80), (setK val l).getD q 0 = if q ∈ l then val q else 1048576 := by
  have key : ∀ (l : List Nat) (a : List Int), q < a.length → (l.foldl (fun a p => a.set p (val p)) a).getD q 0 = if q ∈ l then val q else a.getD q 0 := by
    intro l
    induction l with
    | nil => intro a _; simp
    | cons x l ih =>
      intro a ha
      rw [List.foldl_cons, ih _ (by rw [List.length_set]; exact ha)]
      by_cases h1 : q ∈ l
      · simp [h1]
      · by_cases h2 : x = q
        · subst h2; simp [h1, List.getD_eq_getElem?_getD, ha]
        · simp [h1, Ne.symm h2, List.getD_eq_getElem?_getD, List.getElem?_set, h2]
  intro l hq
  unfold setK
  rw [key l _ (by simpa using hq)]
  split
  · rfl
  · rw [List.getD_eq_getElem?_getD, List.getElem?_replicate, if_pos hq]; rfl
end Go.AL.Sh

namespace Go.AL
open Go Go.RowKit
section
variable {α : Type} {c : α → List A} {sz : Nat}
end
end Go.AL

namespace Go.AL.Sh
open Go Go.AL Go.AL.Q
def blk (row : Nat → List Int) (n : Nat) : List Int := ((List.range n).map row).flatten
def updR (row : Nat → List Int) (k : Nat) (r : List Int) : Nat → List Int := fun i => if i = k then r else row i
theorem blk_congr {row row' : Nat → List Int} {n : Nat} (h : ∀ i, i < n → row i = row' i) : blk row n = blk row' n := by
  unfold blk
  rw [List.map_congr_left fun i hi => h i (List.mem_range.1 hi)]
theorem blk_succ (row : Nat → List Int) (n : Nat) : blk row (n + 1) = blk row n ++ row n := by unfold blk; simp [List.range_succ]
theorem blk_len {row : Nat → List Int} : ∀ {n : Nat}, (∀ i, i < n → (row i).length = 80) → (blk row n).length = n * 80
  | 0, _ => rfl
  | n + 1, h => by rw [blk_succ, List.length_append, blk_len fun i hi => h i (by omega), h n (by omega)]; omega
theorem blk_get {row : Nat → List Int} : ∀ {n : Nat}, (∀ i, i < n → (row i).length = 80) → ∀ {i j : Nat}, i < n → j < 80 → (blk row n)[i * 80 + j]? = (row i)[j]?
  | n + 1, h, i, j, hi, hj => by
    have hl := blk_len (n := n) (row := row) fun i hi => h i (by omega)
    rw [blk_succ]
    by_cases e : i = n
    · subst e
      rw [List.getElem?_append_right (by omega), hl]; congr 1; omega
    · rw [List.getElem?_append_left (by omega)]
      exact blk_get (fun i hi => h i (by omega)) (by omega) hj
theorem blk_getD {row : Nat → List Int} {n : Nat} (h : ∀ i, i < n → (row i).length = 80) {i j : Nat} (hi : i < n) (hj : j < 80) : (blk row n).getD (i * 80 + j) 0 = (row i).getD j 0 := by
  rw [List.getD_eq_getElem?_getD, List.getD_eq_getElem?_getD, blk_get h hi hj]
theorem blk_ext {a : List Int} {row : Nat → List Int} {n : Nat} (h : ∀ i, i < n → (row i).length = 80) (hl : a.length = n * 80) (hg : ∀ i j, i < n → j < 80 → a[i * 80 + j]? = (row i)[j]?) : a = blk row n := by
  refine List.ext_getElem? fun m => ?_
  by_cases hm : m < n * 80
  · have e : m = m / 80 * 80 + m % 80 := by omega
    rw [e, hg _ _ (by omega) (by omega), blk_get h (by omega) (by omega)]
  · rw [List.getElem?_eq_none (by omega), List.getElem?_eq_none (by rw [blk_len h]; omega)]
theorem updR_len {row : Nat → List Int} {n k : Nat} {r : List Int} (h : ∀ i, i < n → (row i).length = 80) (hr : r.length = 80) : ∀ i, i < n → (updR row k r i).length = 80 := fun i hi => by
  unfold updR; split
  · exact hr
  · exact h i hi
theorem blk_row {row : Nat → List Int} {n k : Nat} {r : List Int} (h : ∀ i, i < n → (row i).length = 80) (hr : r.length = 80) (hk : k < n) : setSeg ((blk row n).map A.int) (0 + k * 80) ((r.map A.int).map A.down) = (blk (updR row k r) n).map A.int := by
  have e0 : (r.map A.int).map A.down = r.map A.int := by rw [List.map_map]; rfl
  have hl := blk_len h
  rw [Nat.zero_add, e0]
  have e1 : setSeg ((blk row n).map A.int) (k * 80) (r.map A.int) = ((blk row n).take (k * 80) ++ (r ++ (blk row n).drop (k * 80 + 80))).map A.int := by
    unfold setSeg
    simp [hr, List.map_take, List.map_drop]
  rw [e1]
  congr 1
  refine blk_ext (updR_len h hr) ?_ fun i j hi hj => ?_
  · simp [hl, hr]; omega
  · unfold updR
    by_cases e : i = k
    · subst e
      rw [if_pos rfl, List.getElem?_append_right (by simp; omega), List.length_take, hl, Nat.min_eq_left (by omega), List.getElem?_append_left (by omega)]
      congr 1; omega
    · rw [if_neg e, ← blk_get h hi hj]
      by_cases e2 : i < k
      · rw [List.getElem?_append_left (by simp; omega), List.getElem?_take_of_lt (by omega)]
      · rw [List.getElem?_append_right (by simp; omega), List.length_take, hl, Nat.min_eq_left (by omega), List.getElem?_append_right (by omega), List.getElem?_drop, hr]
        congr 1; omega
theorem blk_set {row : Nat → List Int} {n k c : Nat} {v : Int} (h : ∀ i, i < n → (row i).length = 80) (hk : k < n) (hc : c < 80) : (blk row n).set (k * 80 + c) v = blk (updR row k ((row k).set c v)) n := by
  have hl := blk_len h
  refine blk_ext (updR_len h (by rw [List.length_set]; exact h k hk)) (by rw [List.length_set, hl]) fun i j hi hj => ?_
  unfold updR
  by_cases e : i = k
  · subst e
    rw [if_pos rfl, List.getElem?_set, List.getElem?_set, blk_get h hi hj, hl, h i hi]
    by_cases e2 : c = j
    · subst e2; rw [if_pos rfl, if_pos (by omega), if_pos rfl, if_pos hc]
    · rw [if_neg (by omega), if_neg e2]
  · rw [if_neg e, List.getElem?_set, if_neg (by omega), blk_get h hi hj]
theorem blk_cell {row : Nat → List Int} {n k c : Nat} {v : Int} (h : ∀ i, i < n → (row i).length = 80) (hk : k < n) (hc : c < 80) : setSeg ((blk row n).map A.int) (0 + k * 80 + c * 1) [A.int v] = (blk (updR row k ((row k).set c v)) n).map A.int := by
  have hl := blk_len h
  rw [Nat.zero_add, Nat.mul_one, setSeg_set (by omega), blk_set h hk hc]
theorem blk_rows {row : Nat → List Int} {n : Nat} (h : ∀ i, i < n → (row i).length = 80) : RowsAre ((blk row n).map A.int) ((List.range n).map fun i => (row i).map A.int) 80 := by
  have hl := blk_len h
  refine ⟨fun e he => ?_, by simp [hl], fun i j hi hj => ?_⟩
  · obtain ⟨i, hi, rfl⟩ := List.mem_map.1 he
    rw [List.length_map]; exact h i (List.mem_range.1 hi)
  · have hi' : i < n := by simpa using hi
    have e1 : ((List.range n).map fun i => (row i).map A.int).getD i [] = (row i).map A.int := by simp [List.getD_eq_getElem?_getD, hi']
    have e2 := blk_get h hi' hj
    have hj' : j < (row i).length := by rw [h i hi']; exact hj
    rw [e1]
    rw [List.getElem?_eq_getElem hj'] at e2
    simp only [List.getD_eq_getElem?_getD, List.getElem?_map, e2, List.getElem?_eq_getElem hj', Option.map_some, Option.getD_some]
    rfl
def zer80 : List Int := List.replicate 80 0
theorem blk_zero (n : Nat) : ((List.range (n * 80)).map fun j => (List.replicate 80 (A.int 0)).getD (j % 80) .un).map A.down = (blk (fun _ => zer80) n).map A.int := by
  have e : blk (fun _ => zer80) n = List.replicate (n * 80) 0 := by
    symm
    refine blk_ext (fun i _ => rfl) (by simp) fun i j hi hj => ?_
    unfold zer80
    rw [List.getElem?_replicate, List.getElem?_replicate, if_pos hj, if_pos (by omega)]
  rw [e, List.map_replicate]
  refine List.ext_getElem (by simp) fun i h1 h2 => ?_
  have : i % 80 < 80 := Nat.mod_lt _ (by decide)
  simp only [List.getElem_map, List.getElem_range, List.getElem_replicate, List.getD_eq_getElem?_getD, List.getElem?_replicate, if_pos this, Option.getD_some]
  rfl
end Go.AL.Sh

namespace Go.AL
open Go Go.RowKit
theorem pr_pure {α : Type} {P : Program} (x : α) : pureRun P (pure x) = some x := rfl
theorem pureRun_eqArr {P : Program} {d t e n : Nat} (hu : pureRun P (underlying t) = some (.array n e)) (hsz : pureRun P (sizeOf e) = some 1) (xs ys : Array Value) (f : Nat → Bool)
    (hf : ∀ i, i < n → ∃ x y, pureRun P (part e xs (i * 1)) = some x ∧ pureRun P (part e ys (i * 1)) = some y ∧ pureRun P (Op.equalIn d e x y) = some (f i)) :
    pureRun P (Op.equalIn (d + 1) t (.agg xs) (.agg ys)) = some ((List.range n).all f) := by
  simp only [Op.equalIn, pureRun_bind, hu, Option.bind_some, hsz]
  simp only [Std.Legacy.Range.forIn_eq_forIn_range', Std.Legacy.Range.size, Nat.sub_zero, Nat.add_one_sub_one, Nat.div_one, List.range_eq_range']
  have hm : ∀ i ∈ List.range' 0 n, i < n := fun i hi => by simpa using hi
  revert hm
  generalize List.range' 0 n = is
  intro hm
  induction is with
  | nil => simp [List.forIn_nil, pr_pure]
  | cons j is ih =>
    obtain ⟨x, y, h1, h2, h3⟩ := hf j (hm j (by simp))
    have ih := ih fun i hi => hm i (by simp [hi])
    simp only [List.forIn_cons, pureRun_bind, h1, h2, h3, Option.bind_some]
    cases hj : f j with
    | false => simp [pr_pure, hj]
    | true =>
      simp only [Bool.not_true, Bool.false_eq_true, if_false, pr_pure, Option.bind_some, List.all_cons, hj, Bool.true_and]
      exact ih
theorem pureRun_eqRow {α : Type} [BEq α] [LawfulBEq α] {P : Program} {d t e n : Nat} (hu : pureRun P (underlying t) = some (.array n e)) (hsz : pureRun P (sizeOf e) = some 1) (val : α → Value)
    (hp : ∀ (xs : Array Value) (i : Nat) (x : Value), xs[i]? = some x → (∃ a, x = val a) → pureRun P (part e xs (i * 1)) = some x) (he : ∀ a b, pureRun P (Op.equalIn d e (val a) (val b)) = some (a == b)) {l m : List α} (hl : l.length = n) (hm : m.length = n) :
    pureRun P (Op.equalIn (d + 1) t (.agg (l.map val).toArray) (.agg (m.map val).toArray)) = some (l == m) := by
  rw [pureRun_eqArr hu hsz _ _ (fun i => l[i]? == m[i]?) fun i hi => ⟨val l[i], val m[i], hp _ _ _ (by simp [show i < l.length by omega]) ⟨_, rfl⟩, hp _ _ _ (by simp [show i < m.length by omega]) ⟨_, rfl⟩, by rw [he]; simp [show i < l.length by omega, show i < m.length by omega]⟩]
  congr 1
  rw [Bool.eq_iff_iff, List.all_eq_true, beq_iff_eq]
  constructor
  · intro h
    refine List.ext_getElem (by omega) fun i h1 h2 => ?_
    have := h i (by simp; omega)
    simpa [h1, h2] using this
  · rintro rfl i _; simp
theorem conc_row {α : Type} (val : α → Value) (l : List α) : concA (.agg (l.map fun a => A.s (val a))) = some (.agg (l.map val).toArray) := by
  have h : ∀ l : List α, concCells (l.map fun a => A.s (val a)) = some (l.map val) := fun l => by
    induction l with
    | nil => rfl
    | cons a l ih => simp only [List.map_cons, concCells, ih]
  simp only [concA, h]
theorem EqIs.row {T : Tab} {P : Program} (hT : T.Ok P) {α : Type} [BEq α] [LawfulBEq α] {t e n : Nat} (hu : pureRun P (underlying t) = some (.array n e)) (hsz : pureRun P (sizeOf e) = some 1) (hg : P.eqGuardType P.depth t = false) (val : α → Value)
    (hp : ∀ (xs : Array Value) (i : Nat) (x : Value), xs[i]? = some x → (∃ a, x = val a) → pureRun P (part e xs (i * 1)) = some x) (he : ∀ a b, pureRun P (Op.equalIn 9999 e (val a) (val b)) = some (a == b)) {l m : List α} (hl : l.length = n) (hm : m.length = n) (x y : Operand) :
    EqIs T .neq t x y (.agg (l.map fun a => A.s (val a))) (.agg (m.map fun a => A.s (val a))) (!(l == m)) ∧ EqIs T .eql t x y (.agg (l.map fun a => A.s (val a))) (.agg (m.map fun a => A.s (val a))) (l == m) := by
  have h9 : pureRun P (Op.equal t (.agg (l.map val).toArray) (.agg (m.map val).toArray)) = some (l == m) := pureRun_eqRow hu hsz val hp he hl hm
  have hpr : pureRun P program = some P := rfl
  have e1 : ∀ op, pureRun P (eqGuard op t x y (.agg (l.map val).toArray) (.agg (m.map val).toArray)) = some () := fun op => by
    cases op <;> simp [eqGuard, pureRun_bind, hpr, hg, pr_pure]
  constructor
  · refine ⟨_, _, conc_row val l, conc_row val m, ?_⟩
    rw [hT.eqv]; unfold pureEq
    rw [pureRun_bind, e1]
    have : binOp .neq t (.agg (l.map val).toArray) (.agg (m.map val).toArray) = (Op.equal t (.agg (l.map val).toArray) (.agg (m.map val).toArray) >>= fun b => pure (.bool (!b))) := rfl
    rw [Option.bind_some, this, pureRun_bind, h9]; rfl
  · refine ⟨_, _, conc_row val l, conc_row val m, ?_⟩
    rw [hT.eqv]; unfold pureEq
    rw [pureRun_bind, e1]
    have : binOp .eql t (.agg (l.map val).toArray) (.agg (m.map val).toArray) = (Op.equal t (.agg (l.map val).toArray) (.agg (m.map val).toArray) >>= fun b => pure (.bool b)) := rfl
    rw [Option.bind_some, this, pureRun_bind, h9]; rfl
end Go.AL

