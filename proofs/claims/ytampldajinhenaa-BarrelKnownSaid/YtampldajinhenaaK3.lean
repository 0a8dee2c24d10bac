/- What the proof leans on, part 3: N5 X1 X4 Q0 X9 X10 A17 N7 N9 N10 N11 N12 N13 N14 N8 N15 N16 N17 N18 N19 N20 Q1 Q2 Z0 Z1 Z2 Z3 Z4 Z5 Z6 Z7 Z8. -/
import Derived.Test.YtampldajinhenaaK2
import Derived.ChangeArms
import Derived.ChangeSame
import Derived.Laws.IdiomArrays
import Derived.Lib.SmallJoins
import Derived.ProofKit
set_option linter.all false
namespace Go.AL
open Go Go.RowKit
def wstM (all : Array Oper) (o : Oper) : List Nat := wst o ++ (match o.op with
  | .store _ _ (.tmp t) => [t]
  | .move (.tmp t) => (match o.dst with | some d => cond (feeds all.toList d) [t] [] | none => [])
  | _ => [])
def only (H : Hp) (id : Nat) : Hp := fun j => cond (Nat.beq j id) (H j) none
section
variable (P : Program) (T : Tab) (mb : Nat → Bool)
def effM (H : Hp) (hr : List Nat) (o : Oper) (d : Nat) (S : Slots) (ht : Option (List A)) : Option (Eff × List Nat × List Ob) := match evM P T S H ht o.op o.type with
  | some (v, p) => some (⟨[(d, v)], []⟩, hr, p)
  | none => none
def readsH (H : Hp) (S : Slots) : Op → Hp × List Nat
  | .load _ x => match rd S x with
    | .ref id _ => (only H id, [id])
    | _ => (fun _ => none, [])
  | .lookup _ x _ _ => match rd S x with
    | .mp id => (only H id, [id])
    | _ => (fun _ => none, [])
  | .call { callee := .value _, args, .. } => match (rds S args.toList).filterMap (fun | .ms id _ _ => some id | _ => none) with
    | [id] => (only H id, [id])
    | _ => (fun _ => none, [])
  | _ => (fun _ => none, [])
def valD (o : Oper) (d : Nat) (S : Slots) (H : Hp) (ht : Option (List A)) : Option (Eff × List Nat × List Ob) := match readsH H S o.op with
  | (H', hr) => effM P T H' hr o d S ht
def dM (all : Array Oper) (nm : Nat) (o : Oper) (S : Slots) (H : Hp) (ht : Option (List A)) : Option (Eff × List Nat × List Ob) := match o.op, o.dst with
  | .alloc t, some d => match T.ty t with
    | .none => none
    | _ => some (⟨[(d, .ref nm 0)], [(nm, .cells ((T.zr t).map A.down))]⟩, [], [])
  | .box t x, some d => match mb d with
    | true => match okPart (rd S x) with
      | true => some (⟨[(d, .ref nm 0)], [(nm, .cells ((cellsA (rd S x)).map A.down))]⟩, [], [])
      | false => none
    | false => valD P T o d S H ht
  | .load t x, some d => match ht with
    | some [] => match rd S x with
      | .ref id off => match H id with
        | some (.cells cs) => match T.ty t, (T.ty t).isAgg with
          | .none, _ => none
          | _, false => some (⟨[(d, cs.getD off .un)], [(id, .cells (setSeg cs off [(cs.getD off .un).down]))]⟩, [id], [.of (off < cs.length)])
          | _, _ => none
        | _ => none
      | _ => none
    | _ => valD P T o d S H ht
  | .store t x v, none => match rd S x with
    | .ref id off => match H id, T.ty t with
      | _, .none => none
      | some (.cells cs), _ => match v, isOwn (rd S v) with
        | .tmp tv, true => some (⟨[(tv, (S tv).down)], [(id, .cells (setSeg cs off [S tv]))]⟩, [id], [.of (T.sz t = 1), .of (off < cs.length)])
        | _, _ => match okPart (rd S v) with
          | true => some (⟨[], [(id, .cells (setSeg cs off ((cellsA (rd S v)).map A.down)))]⟩, [id], [.of ((cellsA (rd S v)).length = T.sz t), .of (off + T.sz t ≤ cs.length)])
          | false => none
      | _, _ => none
    | _ => none
  | .makeSlice t x y, some d => match rd S x, rd S y, T.ty t with
    | .s (.int .i64 n), .s (.int .i64 m), .slice el => match T.ty el with
      | .none => none
      | _ => some (⟨[(d, .ms nm 0 n.toNat)], [(nm, .cells (((List.range (n.toNat * T.sz el)).map fun j => (T.zr el).getD (j % T.sz el) .un).map A.down))]⟩, [], [.of (m = n), .of (0 ≤ n), .of (n ≤ maxLen), .of ((T.by' el : Int) * n ≤ 140737488355328)])
    | _, _, _ => none
  | .buildSlice t n parts, some d => match ht with
    | some [.ms _ _ _] => match litW T S t n parts with
      | some (cs, p) => some (⟨[(d, .ms nm 0 n)], [(nm, .cells cs)]⟩, [], p)
      | none => none
    | _ => valD P T o d S H ht
  | .assign (.tmp t), some d => match isOwn (S t) && !Nat.beq t d with
    | true => some (⟨[(t, (S t).down), (d, S t)], []⟩, [], [])
    | false => valD P T o d S H ht
  | .move (.tmp t), some d => match feeds all.toList d && (isOwn (S t) && !Nat.beq t d) with
    | true => some (⟨[(t, (S t).down), (d, S t)], []⟩, [], [])
    | false => valD P T o d S H ht
  | .call { callee := .builtin .append, args, argTypes }, some d => match args.toList, argTypes.toList with
    | [.tmp tx, y], [t, t'] => match ht with
      | some [.un] => match S tx, rd S y, T.ty t with
        | .sl false (.own el) es, .sl _ _ ys, .slice el' => match T.ty el, T.sz el, Nat.beq t t', Nat.beq el el', Nat.beq tx d with
          | .none, _, _, _, _ => none
          | _, 0, _, _, _ => none
          | _, _, true, true, false => some (⟨[(tx, (S tx).down), (d, .sl false (.own el) (es ++ ys))], []⟩, [], [.of (∀ z ∈ ys, z.length = T.sz el), .of (∀ z ∈ es, z.length = T.sz el), .of ((es.length + ys.length + (es.length + ys.length) / 4 + 192) * T.by' el ≤ 281474976710656), .of (es.length + ys.length ≤ maxLen)])
          | _, _, _, _, _ => none
        | _, _, _ => valD P T o d S H ht
      | _ => match S tx, rd S y, T.ty t with
        | .sl false (.own el) es, .sl _ _ ys, .slice el' => match T.ty el, T.sz el, Nat.beq t t', Nat.beq el el', Nat.beq tx d with
          | .none, _, _, _, _ => none
          | _, 0, _, _, _ => none
          | _, _, true, true, false => some (⟨[(tx, (S tx).down), (d, .sl false (.own el) (es ++ ys))], []⟩, [], [.of (∀ z ∈ ys, z.length = T.sz el), .of (∀ z ∈ es, z.length = T.sz el), .of ((es.length + ys.length) * T.by' el ≤ 140737488355328), .of (es.length + ys.length ≤ maxLen)])
          | _, _, _, _, _ => none
        | _, _, _ => valD P T o d S H ht
    | _, _ => valD P T o d S H ht
  | .call { callee := .value f, args, argTypes }, some d => match ht, rd S f with
    | some [v, .sl false .any kl], .fn (.func g) fst cap => some (⟨[(d, v)], [(nm, .map (kvsOf kl))]⟩, [], [obP (NewMap P g (fst ++ rds S args.toList ++ cap) nm v (kvsOf kl))])
    | some [v, .pt cs], .fn (.func g) fst cap => some (⟨[(d, v)], [(nm, .cells cs)]⟩, [], [obP (NewBlk P g (fst ++ rds S args.toList ++ cap) nm v cs)])
    | some [v, .tup ns], .fn (.func g) fst cap => some (⟨[(d, v)], []⟩, idsOf ns, [obP (RCall P g (fst ++ rds S args.toList ++ cap) (onlyL H (idsOf ns)) v)])
    | _, _ => valD P T o d S H ht
  | .makeMap t none, some d => some (⟨[(d, .mp nm)], [(nm, .map [])]⟩, [], [])
  | .mapUpdate t x k v, none => match T.ty t, rd S x with
    | .map kt et, .mp id => match H id with
      | some (.map kvs) => forceK (rd S k) fun k => some (⟨[], [(id, .map (upKV kvs k (rd S v).down (ixOf P kt kvs k)))]⟩, [id], [obP (∃ j, KeyAt P kt kvs k j)])
      | _ => none
    | _, _ => none
  | .mapEntry t x k, some d => match T.ty t, rd S x, ht with
    | .map kt et, .mp id, some [v] => match H id, T.ty et with
      | _, .none => none
      | some (.map kvs), _ => forceK (rd S k) fun k => some (⟨[(d, .tup [v, .int (match ixOf P kt kvs k with | some j => j | none => kvs.length)])], [(id, .map (upKV kvs k v (ixOf P kt kvs k)))]⟩, [id], [obP (∃ j, KeyAt P kt kvs k j), obP (v = lkA T et kvs (ixOf P kt kvs k))])
      | _, _ => none
    | _, _, _ => none
  | .entryStore t x st v, none => match rd S x, rd S st with
    | .mp id, .s (.int .i64 n) => match H id with
      | some (.map kvs) => some (⟨[], [(id, .map (kvs.set n.toNat ((kvs.getD n.toNat (.un, .un)).1, (rd S v).down)))]⟩, [id], [obP (0 ≤ n), obP (n.toNat < kvs.length)])
      | _ => none
    | _, _ => none
  | _, some d => valD P T o d S H ht
  | _, none => none
def gM (all : Array Oper) (nm : Nat) (o : Oper) (S : Slots) (H : Hp) (ht : Option (List A)) : Option (Eff × List Nat × List Ob) := match o.guard with
  | none => dM P T mb all nm o S H ht
  | some (j, want) => match (all[j]?).bind (·.dst), o.dst with
    | some t, some d => match gv (S t) want with
      | some q => match readsH H (gS o.op S) o.op with
        | (H', hr) => match evM P T (gS o.op S) H' ht o.op o.type with
          | some (v, p) => some (⟨[(d, .cnd q v)], []⟩, hr, under q (owed S ((opTmps o.op).filter (gset o.op))) ++ under q p)
          | none => none
      | none => none
    | _, _ => none
end
section
variable {X : Ctx} {T : Tab} {r : Option Nat} {mb : Nat → Bool} {o : Oper} {S : Slots} {H : Hp} {all : Array Oper}
theorem reads_ok {S : Slots} {op : Op} {H' : Hp} {hr : List Nat} (h : readsH H S op = (H', hr)) : ∀ H1 : Hp, (∀ id, id ∈ hr → H1 id = H id) → ∀ id bx, H' id = some bx → H1 id = some bx := by
  have one : ∀ i, H' = only H i → hr = [i] → ∀ H1 : Hp, (∀ id, id ∈ hr → H1 id = H id) → ∀ id bx, H' id = some bx → H1 id = some bx := by
    rintro i rfl rfl H1 h1 id bx hb
    by_cases e : id = i
    · subst e; rw [h1 id (by simp)]; simpa [only] using hb
    · simp [only, beq_no e] at hb
  have non : H' = (fun _ => none) → ∀ H1 : Hp, (∀ id, id ∈ hr → H1 id = H id) → ∀ id bx, H' id = some bx → H1 id = some bx := by
    rintro rfl H1 h1 id bx hb; cases hb
  unfold readsH at h
  split at h
  · split at h <;> (simp only [Prod.mk.injEq] at h; obtain ⟨rfl, rfl⟩ := h)
    · exact one _ rfl rfl
    · exact non rfl
  · split at h <;> (simp only [Prod.mk.injEq] at h; obtain ⟨rfl, rfl⟩ := h)
    · exact one _ rfl rfl
    · exact non rfl
  · split at h <;> (simp only [Prod.mk.injEq] at h; obtain ⟨rfl, rfl⟩ := h)
    · exact one _ rfl rfl
    · exact non rfl
  · simp only [Prod.mk.injEq] at h; obtain ⟨rfl, rfl⟩ := h; exact non rfl
theorem valD_fire (hT : T.Ok X.P) {d nm : Nat} {f : Eff} {hr : List Nat} {ht : Option (List A)} {p : List Ob} (hd : o.dst = some d) (h : valD X.P T o d S H ht = some (f, hr, p)) (hp : AllP p) : FireR X r o (opTmps o.op) hr S H f nm := by
  unfold valD at h
  split at h
  rename_i H' hr' hrd
  unfold effM at h
  split at h
  · rename_i v p' hev
    simp only [Option.some.injEq, Prod.mk.injEq] at h
    obtain ⟨rfl, rfl, rfl⟩ := h
    exact .of_P fun S' H1 c' h1 h2 => DoesP.valM hT hd ((evM_sound hev hp).congr h1 (reads_ok hrd H1 h2)) rfl
  · cases h
set_option maxHeartbeats 2000000 in
theorem dM_fire (hT : T.Ok X.P) {nm : Nat} {f : Eff} {hr : List Nat} {ht : Option (List A)} {p : List Ob} (h : dM X.P T mb all nm o S H ht = some (f, hr, p)) (hp : AllP p) : FireR X r o (opTmps o.op) hr S H f nm := by
  have plain : ∀ d, o.dst = some d → valD X.P T o d S H ht = some (f, hr, p) → FireR X r o (opTmps o.op) hr S H f nm := fun d hd h => valD_fire hT hd h hp
  have tm : ∀ {S' : Slots} {x : Operand}, x ∈ o.op.operands.toList → (∀ t, t ∈ opTmps o.op → S' t = S t) → rd S' x = rd S x := fun hx h => tmp_mem hx h
  unfold dM at h
  split at h
  · rename_i t d ho hd
    split at h
    · cases h
    · rename_i ht
      simp only [Option.some.injEq, Prod.mk.injEq] at h
      obtain ⟨rfl, rfl, rfl⟩ := h
      intro hdn S' H' c' φ Z a w hr h1 h2 hnm hlt next Q hn
      obtain ⟨dst, op, ty, pos, aft, gd⟩ := o
      simp only at ho hd; subst ho; subst hd
      obtain ⟨z, hz1, hz2⟩ := run_zero hT (w := w) ht
      exact wp_run (fun c => by simp) (by rw [ex_alloc, Sem.run_bind, run_alloc hz1]; rfl) (hn _ Z _ _ (fun k hk => by simp [beq_no hk])
        (hr.newCells (ty := t) (hdn d rfl) hnm (Nat.le_refl _) hlt (zero_vrc hz2) (.ref _ _ _ (by simp)) (fun p => by simp [spareOf])))
  · rename_i t x d ho hd
    split at h
    · split at h
      · rename_i hpk
        simp only [Option.some.injEq, Prod.mk.injEq] at h
        obtain ⟨rfl, rfl, rfl⟩ := h
        intro hdn S' H' c' φ Z a w hr h1 h2 hnm hlt next Q hn
        have hx : rd S' x = rd S x := tm (by rw [ho]; simp [Op.operands]) h1
        rw [← hx] at hpk hn
        obtain ⟨dst, op, ty, pos, aft, gd⟩ := o
        simp only at ho hd; subst ho; subst hd
        exact wp_run (v := .pointer (some ⟨w.heap.size, 0, none⟩)) (w' := w.alloc (.cells (a.eval x).cells t)) (fun c => by simp) (by rw [ex_box]; rfl)
          (hn _ Z _ _ (fun k hk => by simp [beq_no hk]) (hr.newCells (ty := t) (hdn d rfl) hnm (Nat.le_refl _) hlt (cells_vr (hr.sees.rd x) hpk) (.ref _ _ _ (by simp)) (fun p => by simp [spareOf])))
      · cases h
    · exact plain d hd h
  · rename_i t x d ho hd
    split at h
    · split at h
      · rename_i id off hx
        split at h
        · rename_i cs hl
          split at h
          · cases h
          · rename_i h2 h3
            simp only [Option.some.injEq, Prod.mk.injEq] at h
            obtain ⟨rfl, rfl, rfl⟩ := h
            refine .of_P fun S' H' c' k1 k2 => ?_
            have ex : rd S' x = rd S x := tm (by rw [ho]; simp [Op.operands]) k1
            exact DoesP.loadTake hT ho hd (by show rd S' x = _; rw [ex]; exact hx) (by show H' id = _; rw [k2 id (by simp)]; exact hl) (by assumption) (by assumption) hp.1 rfl
          · cases h
        · cases h
      · cases h
    · exact plain d hd h
  · rename_i t x v ho hd
    split at h
    · rename_i id off hx
      split at h
      · cases h
      · rename_i cs hl ht
        split at h
        · rename_i tv how
          simp only [Option.some.injEq, Prod.mk.injEq] at h
          obtain ⟨rfl, rfl, rfl⟩ := h
          refine .of_P fun S' H' c' k1 k2 => ?_
          have ex : rd S' x = rd S x := tm (by rw [ho]; simp [Op.operands]) k1
          have et : S' tv = S tv := k1 tv (by rw [ho]; exact mem_opTmps (by simp [Op.operands]))
          have how : isOwn (S tv) = true := how
          refine DoesP.storeOwn hT ho hd (by show rd S' x = _; rw [ex]; exact hx) (by show H' id = _; rw [k2 id (by simp)]; exact hl) ht (own_one (by show isOwn (S' tv) = _; rw [et]; exact how)) hp.1 hp.2.1 ?_
          show (⟨upd S' tv (S' tv).down, updH H' id (some (.cells (setSeg cs off [S' tv]))), c'⟩ : St) = _
          rw [et]; rfl
        split at h
        · rename_i v v' bb hne b2 h1
          simp only [Option.some.injEq, Prod.mk.injEq] at h
          obtain ⟨rfl, rfl, rfl⟩ := h
          refine .of_P fun S' H' c' k1 k2 => ?_
          have ex : rd S' x = rd S x := tm (by rw [ho]; simp [Op.operands]) k1
          have ev : rd S' v = rd S v := tm (by rw [ho]; simp [Op.operands]) k1
          refine DoesP.store hT ho hd (by show rd S' x = _; rw [ex]; exact hx) (by show H' id = _; rw [k2 id (by simp)]; exact hl) ht (by show okPart (rd S' v) = _; rw [ev]; exact h1) (by show (cellsA (rd S' v)).length = _; rw [ev]; exact hp.1) hp.2.1 ?_
          show (⟨S', updH H' id (some (.cells (setSeg cs off ((cellsA (rd S' v)).map A.down)))), c'⟩ : St) = _
          rw [ev]; rfl
        · cases h
      · cases h
    · cases h
  · rename_i t x y d ho hd
    split at h
    · rename_i n m el h1 h2 h3
      split at h
      · cases h
      · rename_i h4
        simp only [Option.some.injEq, Prod.mk.injEq] at h
        obtain ⟨rfl, rfl, rfl⟩ := h
        obtain ⟨k0, k1, k2, k3, _⟩ := hp
        have k0 : m = n := k0
        subst k0
        intro hdn S' H' c' φ Z a w hr q1 q2 hnm hlt next Q hn
        have ex : rd S' x = rd S x := tm (by rw [ho]; simp [Op.operands]) q1
        have ey : rd S' y = rd S y := tm (by rw [ho]; simp [Op.operands]) q1
        rw [← ex] at h1; rw [← ey] at h2
        obtain ⟨dst, op, ty, pos, aft, gd⟩ := o
        simp only at ho hd; subst ho; subst hd
        obtain ⟨i, hi, hi1, hi2, z, hiz, hzf⟩ := hT.inf el h4
        have e1 := inv_s (h1 ▸ hr.sees.rd x)
        have e2 := inv_s (h2 ▸ hr.sees.rd y)
        have k2' : m ≤ maxLen := k2
        have k3' : (T.by' el : Int) * m ≤ 140737488355328 := k3
        have hrun := run_make (P := X.P) w t el i z (und_slice hT h3) hi hiz .i64 .i64 m m k1 (Int.le_refl _) (by rw [hi2]; omega) (by simp only [maxLen] at k2'; omega)
        have hv : VRc φ Z w ((List.range (m.toNat * T.sz el)).map fun j => (T.zr el).getD (j % T.sz el) .un) (madeCells z.cells (m.toNat * i.size)) := by
          have hz := zero_vrc (φ := φ) (Z := Z) (w := w) hzf
          refine ⟨by rw [size_madeCells, hi1]; simp, fun j hj => ?_⟩
          have hj' : j < m.toNat * T.sz el := by simpa using hj
          have hpos : 0 < T.sz el := Nat.pos_of_ne_zero fun h => by rw [h] at hj'; simp at hj'
          have hmod : j % T.sz el < T.sz el := Nat.mod_lt _ hpos
          have h3 := hz.2 (j % T.sz el) (by rw [hzf.2.1]; exact hmod)
          have g1 : (madeCells z.cells (m.toNat * i.size)).getD j undef = z.cells.getD (j % T.sz el) undef := by
            have h5 : j % T.sz el < z.cells.size := by rw [hzf.1]; exact hmod
            simp [madeCells, Array.getD_eq_getD_getElem?, hi1, hj', hzf.1, h5, getElem!_pos z.cells (j % T.sz el) h5]
            rw [Array.getElem?_eq_getElem h5]; rfl
          have g2 : ((List.range (m.toNat * T.sz el)).map fun j => (T.zr el).getD (j % T.sz el) .un).getD j .un = (T.zr el).getD (j % T.sz el) .un := by
            simp [List.getD_eq_getElem?_getD, hj']
          rw [g1, g2]
          exact h3
        refine wp_run (fun c => by simp) (by rw [ex_makeSlice, Sem.run_bind, e1, e2, hrun]; rfl) (hn _ Z _ _ (fun k hk => by simp [beq_no hk]) (hr.newCells (ty := el) (hdn d rfl) hnm (Nat.le_refl _) hlt hv ?_ (fun p => by simp [spareOf])))
        exact .ms _ _ _ _ _ (by simp) (Nat.le_refl _) (by omega)
    · cases h
  · rename_i t n parts d ho hd
    split at h
    · split at h
      · rename_i cs p' hl
        simp only [Option.some.injEq, Prod.mk.injEq] at h
        obtain ⟨rfl, rfl, rfl⟩ := h
        intro hdn S' H' c' φ Z a w hr q1 q2 hnm hlt next Q hn
        have hlS : litW T S' t n parts = some (cs, p') := by
          have e1 : ∀ p ∈ parts.toList, rd S' p.2 = rd S p.2 := fun p hp => tm (by rw [ho]; simp only [Op.operands]; exact (by simpa using ⟨p.1, by simpa using hp⟩)) q1
          have e2 : (parts.toList.map fun p => rd S' p.2) = parts.toList.map fun p => rd S p.2 := List.map_congr_left e1
          unfold litW at hl ⊢
          rw [e2]; exact hl
        obtain ⟨dst, op, ty, pos, aft, gd⟩ := o
        simp only at ho hd
        subst ho; subst hd
        obtain ⟨e, cs0, cells', rfl, k1, k2, k3⟩ := litW_run hT hr.sees hlS hp
        exact wp_run (fun c => by simp) (by rw [ex_lit, Sem.run_bind, k2]; rfl) (hn _ Z _ _ (fun k hk => by simp [beq_no hk]) (hr.newCells (ty := e) (hdn d rfl) hnm (Nat.le_refl _) hlt k1 (.ms _ _ _ _ _ (by simp) (Nat.le_refl _) k3) (fun p => by simp [spareOf])))
      · cases h
    · exact plain d hd h
  · rename_i t d ho hd
    split at h
    · rename_i h1
      simp only [Bool.and_eq_true, Bool.not_eq_true'] at h1
      simp only [Option.some.injEq, Prod.mk.injEq] at h
      obtain ⟨rfl, rfl, rfl⟩ := h
      refine .of_P fun S' H' c' k1 k2 => ?_
      have et : S' t = S t := k1 t (by rw [ho]; simp [opTmps, Op.operands])
      refine DoesP.take (.inr ho) hd (fun e1 => by subst e1; simp at h1) ?_
      show (⟨upd (upd S' t (S' t).down) d (S' t), H', c'⟩ : St) = _
      rw [et]; rfl
    · exact plain d hd h
  · rename_i t d ho hd
    split at h
    · rename_i h1
      simp only [Bool.and_eq_true, Bool.not_eq_true'] at h1
      simp only [Option.some.injEq, Prod.mk.injEq] at h
      obtain ⟨rfl, rfl, rfl⟩ := h
      refine .of_P fun S' H' c' k1 k2 => ?_
      have et : S' t = S t := k1 t (by rw [ho]; simp [opTmps, Op.operands])
      refine DoesP.take (.inl ho) hd (fun e1 => by subst e1; simp at h1) ?_
      show (⟨upd (upd S' t (S' t).down) d (S' t), H', c'⟩ : St) = _
      rw [et]; rfl
    · exact plain d hd h
  · rename_i args at' d ho hd
    split at h
    · rename_i tx y t t' ha ht
      obtain rfl := two_arg ha
      obtain rfl := two_arg ht
      split at h
      · split at h
        · rename_i el es nil2 cap2 ys el' h1 h2 h3
          split at h
          · cases h
          · cases h
          · rename_i h4 h5 h6 h7 h8
            obtain rfl := Nat.eq_of_beq_eq_true h4
            obtain rfl := Nat.eq_of_beq_eq_true h5
            simp only [Option.some.injEq, Prod.mk.injEq] at h
            obtain ⟨rfl, rfl, rfl⟩ := h
            refine .of_P fun S' H' c' j1 j2 => ?_
            have et : S' tx = S tx := j1 tx (by rw [ho]; simp [opTmps, Op.operands, Call.operands])
            have ey : rd S' y = rd S y := tm (by rw [ho]; simp [Op.operands, Call.operands]) j1
            refine DoesP.appOwnW hT ho hd h3 (by assumption) (Nat.pos_of_ne_zero (by assumption)) (by show S' tx = _; rw [et]; exact h1) (by show rd S' y = _; rw [ey]; exact h2) (fun e => by subst e; simp at h6) (fun z hz => (List.mem_append.1 hz).elim (hp.2.1 z) (hp.1 z)) (.inr hp.2.2.1) hp.2.2.2.1 ?_
            show (⟨upd (upd S' tx (S' tx).down) d _, H', c'⟩ : St) = _
            rw [et]; rfl
          · cases h
        · exact plain d hd h
      · split at h
        · rename_i el es nil2 cap2 ys el' h1 h2 h3
          split at h
          · cases h
          · cases h
          · rename_i h4 h5 h6 h7 h8
            obtain rfl := Nat.eq_of_beq_eq_true h4
            obtain rfl := Nat.eq_of_beq_eq_true h5
            simp only [Option.some.injEq, Prod.mk.injEq] at h
            obtain ⟨rfl, rfl, rfl⟩ := h
            refine .of_P fun S' H' c' j1 j2 => ?_
            have et : S' tx = S tx := j1 tx (by rw [ho]; simp [opTmps, Op.operands, Call.operands])
            have ey : rd S' y = rd S y := tm (by rw [ho]; simp [Op.operands, Call.operands]) j1
            refine DoesP.appOwn hT ho hd h3 (by assumption) (Nat.pos_of_ne_zero (by assumption)) (by show S' tx = _; rw [et]; exact h1) (by show rd S' y = _; rw [ey]; exact h2) (fun e => by subst e; simp at h6) (fun z hz => (List.mem_append.1 hz).elim (hp.2.1 z) (hp.1 z)) hp.2.2.1 hp.2.2.2.1 ?_
            show (⟨upd (upd S' tx (S' tx).down) d _, H', c'⟩ : St) = _
            rw [et]; rfl
          · cases h
        · exact plain d hd h
    · exact plain d hd h
  · rename_i f args at' d ho hd
    split at h
    · rename_i hf
      simp only [Option.some.injEq, Prod.mk.injEq] at h
      obtain ⟨rfl, rfl, rfl⟩ := h
      exact NewMap.fire ho hd hf hp.1
    · rename_i hf
      simp only [Option.some.injEq, Prod.mk.injEq] at h
      obtain ⟨rfl, rfl, rfl⟩ := h
      exact NewBlk.fire ho hd hf hp.1
    · rename_i hf
      simp only [Option.some.injEq, Prod.mk.injEq] at h
      obtain ⟨rfl, rfl, rfl⟩ := h
      exact RCall.fire ho hd hf hp.1
    · exact plain d hd h
  · rename_i t d ho hd
    simp only [Option.some.injEq, Prod.mk.injEq] at h
    obtain ⟨rfl, rfl, rfl⟩ := h
    intro hdn S' H' c' φ Z a w hr h1 h2 hnm hlt next Q hn
    obtain ⟨dst, op, ty, pos, aft, gd⟩ := o
    simp only at ho hd; subst ho; subst hd
    have m : More w (w.alloc (.map #[] 0)) Z Z := ⟨Quiet.alloc _ _, fun _ _ h => h, fun _ _ h _ => h, fun b o hz hb => by have := hr.zlt hz; omega⟩
    have h1 := hr.newBox (bx := .map []) (b := w.heap.size) (nm := nm) (c' := c') m hnm (Nat.le_refl _) hlt (Nat.le_refl _) (fun o hz => by have := hr.zlt hz; omega)
      ⟨#[], heap_alloc_new w _, rfl, fun i hi => by simp at hi⟩ (fun j v p => by simp [cellOf, spareOf])
    have h2 := h1.put_down h1.more_refl (hdn d rfl) (x := .mp nm) (v := .map (some w.heap.size)) (.mp _ _ (by simp)) (fun p => by simp [spareOf])
    exact wp_run (v := .map (some w.heap.size)) (w' := w.alloc (.map #[] 0)) (fun c => by simp) (by rw [ex_makeMap]; rfl) (hn _ Z _ _ (fun k hk => by simp [beq_no hk]) h2)
  · rename_i t x k v ho hd
    split at h
    · rename_i kt et id ht hx
      split at h
      · rename_i kvs hl
        simp only [forceK_eq, Option.some.injEq, Prod.mk.injEq] at h
        obtain ⟨rfl, rfl, rfl⟩ := h
        obtain ⟨⟨j, hj⟩, _⟩ := hp
        rw [hj.ix]
        obtain ⟨ks, kv, k1, k2, k3, k4, k5, k6⟩ := hj.ex
        refine .of_P fun S' H' c' q1 q2 => ?_
        have ex : rd S' x = rd S x := tm (by rw [ho]; simp [Op.operands]) q1
        have ek : rd S' k = rd S k := tm (by rw [ho]; simp [Op.operands]) q1
        have ev : rd S' v = rd S v := tm (by rw [ho]; simp [Op.operands]) q1
        refine DoesP.mapUpdate hT ho hd ht (by show rd S' x = _; rw [ex]; exact hx) (by show H' id = _; rw [q2 id (by simp)]; exact hl) (by show concA (rd S' k) = _; rw [ek]; exact k1) k2 k4 k5 k6 ?_
        show (⟨S', updH H' id (some (.map (upKV kvs (rd S' k) (rd S' v).down j))), c'⟩ : St) = _
        rw [ek, ev]; rfl
      · cases h
    · cases h
  · rename_i t x k d ho hd
    split at h
    · rename_i kt et id v ht hx
      split at h
      · cases h
      · rename_i kvs hl he
        simp only [forceK_eq, Option.some.injEq, Prod.mk.injEq] at h
        obtain ⟨rfl, rfl, rfl⟩ := h
        obtain ⟨⟨j, hj⟩, hv, _⟩ := hp
        have hv : v = _ := hv
        rw [hj.ix] at hv ⊢
        subst hv
        obtain ⟨ks, kv, k1, k2, k3, k4, k5, k6⟩ := hj.ex
        refine .of_P fun S' H' c' q1 q2 => ?_
        have ex : rd S' x = rd S x := tm (by rw [ho]; simp [Op.operands]) q1
        have ek : rd S' k = rd S k := tm (by rw [ho]; simp [Op.operands]) q1
        refine DoesP.mapEntry hT ho hd ht (by assumption) (by show rd S' x = _; rw [ex]; assumption) (by show H' id = _; rw [q2 id (by simp)]; assumption) (by show concA (rd S' k) = _; rw [ek]; exact k1) k2 k4 k5 k6 ?_
        show (⟨upd S' d _, updH H' id (some (.map (upKV kvs (rd S' k) (lkA T et kvs j) j))), c'⟩ : St) = _
        rw [ek]; cases j <;> rfl
      · cases h
    · cases h
  · rename_i t x st v ho hd
    split at h
    · rename_i id n hx hst
      split at h
      · rename_i kvs hl
        simp only [Option.some.injEq, Prod.mk.injEq] at h
        obtain ⟨rfl, rfl, rfl⟩ := h
        obtain ⟨h0, h1, _⟩ := hp
        have h0 : 0 ≤ n := h0
        refine .of_P fun S' H' c' q1 q2 => ?_
        have ex : rd S' x = rd S x := tm (by rw [ho]; simp [Op.operands]) q1
        have es : rd S' st = rd S st := tm (by rw [ho]; simp [Op.operands]) q1
        have ev : rd S' v = rd S v := tm (by rw [ho]; simp [Op.operands]) q1
        refine DoesP.entryStore hT ho hd (by show rd S' x = _; rw [ex]; exact hx) (by show H' id = _; rw [q2 id (by simp)]; exact hl) (by show rd S' st = _; rw [es, Int.toNat_of_nonneg h0]; exact hst) h1 ?_
        show (⟨S', updH H' id (some (.map (kvs.set n.toNat ((kvs.getD n.toNat (.un, .un)).1, (rd S' v).down)))), c'⟩ : St) = _
        rw [ev]; rfl
      · cases h
    · cases h
  · exact plain _ (by assumption) h
  · cases h
theorem gM_fire (hT : T.Ok X.P) {nm : Nat} {f : Eff} {hr : List Nat} {ht : Option (List A)} {p : List Ob} (h : gM X.P T mb all nm o S H ht = some (f, hr, p)) (hp : AllP p) : FireOk X r all o (rst all o) hr S H f nm := by
  unfold gM at h
  split at h
  · rename_i hg
    intro hd S' H' c' φ Z a w hr' h1 h2 h3 h4 next Q hn
    unfold StepW
    rw [if_pos (wanted_none hg _)]
    exact dM_fire hT h hp hd S' H' c' φ Z a w hr' (fun t ht => h1 t (List.mem_append_left _ ht)) h2 h3 h4 next Q hn
  · rename_i j want hg
    split at h
    · rename_i t d hj hd
      split at h
      · rename_i q hS
        split at h
        rename_i H1 hr1 hrd
        split at h
        · rename_i v p' hev
          simp only [Option.some.injEq, Prod.mk.injEq] at h
          obtain ⟨rfl, rfl, rfl⟩ := h
          rw [AllP.append] at hp
          intro hdn S' H' c' φ Z a w hr' h1 h2 h3 h4 next Q hn
          have ht' : gv (S' t) want = some q := by rw [h1 t (List.mem_append_right _ (by simp [guardTmps, hg, hj])), hS]
          have hop : ∀ t', t' ∈ opTmps o.op → S' t' = S t' := fun t' ht' => h1 t' (List.mem_append_left _ ht')
          exact step_valgM (s := ⟨S', H', c'⟩) hT hg hj ht' hd (fun hq t' ht' hg' => by show guardOf (S' t') = true; rw [hop t' ht']; exact owed_ok (under_ok hp.1 hq) t' (List.mem_filter.2 ⟨ht', hg'⟩))
            (fun hq => (evM_sound hev (under_ok hp.2 hq)).congr (fun t' ht' => by show gS o.op S' t' = gS o.op S t'; unfold gS; rw [hop t' ht']) (reads_ok hrd H' h2)) hdn hr'
            fun Z' a' w' hr2 => hn φ Z' a' w' (fun _ _ => rfl) hr2
        · cases h
      · cases h
    · cases h
end
def runMD (P : Program) (T : Tab) (mb : Nat → Bool) (all : Array Oper) (c0 : Nat) (hs : List (Nat × List A)) : List Oper → Nat → Slots → Hp → List Ob → Option (Slots × Hp × List (Eff × List Nat) × List Ob)
  | [], _, S, H, ob => some (S, H, [], ob)
  | o :: l, i, S, H, ob => match gM P T mb all (c0 + i) o S H (lkHint hs i) with
    | some (f, hr, p) => match f.ws.all fun q => (wstM all o).any (Nat.beq q.1) with
      | true => forceO p ob fun ob => match runMD P T mb all c0 hs l (i + 1) (apS S f.ws) (apH H f.hs) ob with
        | some (S', H', fs, ob') => some (S', H', (f, hr) :: fs, ob')
        | none => none
      | false => none
    | none => none
theorem runMD_ok {X : Ctx} {T : Tab} {r : Option Nat} {mb : Nat → Bool} {all : Array Oper} {c0 : Nat} {hs : List (Nat × List A)} (hT : T.Ok X.P) : ∀ (l : List Oper) (i : Nat) {S S' : Slots} {H H' : Hp} {fs : List (Eff × List Nat)} {ob ob' : List Ob},
    runMD X.P T mb all c0 hs l i S H ob = some (S', H', fs, ob') → AllP ob' →
    AllP ob ∧ fs.length = l.length ∧ S' = apAll S (fs.map (·.1)) ∧ H' = apAllH H (fs.map (·.1)) ∧
    ∀ k o f hr, l[k]? = some o → fs[k]? = some (f, hr) → FireOk X r all o (rst all o) hr (apAll S ((fs.map (·.1)).take k)) (apAllH H ((fs.map (·.1)).take k)) f (c0 + (i + k)) ∧ ∀ t, t ∈ f.ws.map (·.1) → t ∈ wstM all o
  | [], i, S, S', H, H', fs, ob, ob', h, ho => by
    simp only [runMD, Option.some.injEq, Prod.mk.injEq] at h
    obtain ⟨rfl, rfl, rfl, rfl⟩ := h
    exact ⟨ho, rfl, rfl, rfl, fun k o f hr h => by simp at h⟩
  | o :: l, i, S, S', H, H', fs, ob, ob', h, ho => by
    unfold runMD at h
    split at h
    · rename_i f hr p hst
      split at h
      · rename_i hws
        rw [forceO_eq] at h
        split at h
        · rename_i S1 H1 fs1 ob1 hrun
          simp only [Option.some.injEq, Prod.mk.injEq] at h
          obtain ⟨rfl, rfl, rfl, rfl⟩ := h
          obtain ⟨k0, k1, k2, k3, k4⟩ := runMD_ok (r := r) hT l (i + 1) hrun ho
          rw [AllP.append] at k0
          refine ⟨k0.2, by simp [k1], k2, k3, fun k o' f' hr' ho' hf => ?_⟩
          cases k with
          | zero =>
            simp only [List.getElem?_cons_zero, Option.some.injEq] at ho' hf
            subst ho'; cases hf
            refine ⟨gM_fire hT hst k0.1, fun t ht => ?_⟩
            obtain ⟨p, hp, rfl⟩ := List.mem_map.1 ht
            have := List.all_eq_true.1 hws p hp
            obtain ⟨y, hy, hy2⟩ := List.any_eq_true.1 this
            rw [Nat.eq_of_beq_eq_true hy2]; exact hy
          | succ k =>
            have := k4 k o' f' hr' (by simpa using ho') (by simpa using hf)
            rw [show i + 1 + k = i + (k + 1) by omega] at this
            exact this
        · cases h
      · cases h
    · cases h
def confB (ms : List Nat) (b m : Nat) (W R : Nat → List Nat) : Bool := (List.range m).all fun i => match W i with
  | [] => true
  | _ => (List.range m).all fun j => Nat.beq i j || (cond (Nat.blt i j) ((ms.getD (b + j) 0).testBit (b + i)) ((ms.getD (b + i) 0).testBit (b + j)) || (disj (W i) (W j) && disj (W i) (R j)))
theorem confB_at {ms : List Nat} {b m : Nat} {W R : Nat → List Nat} (h : confB ms b m W R = true) {i j : Nat} (hi : i < m) (hj : j < m) (hne : i ≠ j) (hb : cond (Nat.blt i j) ((ms.getD (b + j) 0).testBit (b + i)) ((ms.getD (b + i) 0).testBit (b + j)) = false) :
    ∀ t, t ∈ W i → t ∉ W j ∧ t ∉ R j := fun t ht => by
  have h1 := List.all_eq_true.1 h i (List.mem_range.2 hi)
  split at h1
  · rename_i e; rw [e] at ht; cases ht
  · have h2 := List.all_eq_true.1 h1 j (List.mem_range.2 hj)
    rw [beq_no hne, hb] at h2
    simp only [Bool.false_or, Bool.and_eq_true] at h2
    exact ⟨disj_ok h2.1 t ht, disj_ok h2.2 t ht⟩
theorem confB_ok {ms : List Nat} {b m : Nat} {W R : Nat → List Nat} (h : confB ms b m W R = true) {i j : Nat} (hij : i < j) (hj : j < m) (hb : (ms.getD (b + j) 0).testBit (b + i) = false) :
    (∀ t, t ∈ W i → t ∉ R j ∧ t ∉ W j) ∧ ∀ t, t ∈ R i → t ∉ W j := by
  refine ⟨fun t ht => ?_, fun t ht hw => ?_⟩
  · have := confB_at h (show i < m by omega) hj (by omega) (by rw [blt_of hij]; exact hb) t ht
    exact ⟨this.2, this.1⟩
  · exact (confB_at h hj (show i < m by omega) (by omega) (by rw [blt_no (by omega)]; exact hb) t hw).2 ht
def barB (ms : List Nat) (b m n : Nat) : Bool := (List.range n).all fun i => Nat.blt i (b + m) || (List.range m).all fun k => (ms.getD i 0).testBit (b + k)
theorem barB_ok {ms : List Nat} {b m n : Nat} (h : barB ms b m n = true) : ∀ i k, b + m ≤ i → i < n → b ≤ k → k < b + m → (ms.getD i 0).testBit k = true := fun i k h1 h2 h3 h4 => by
  have := List.all_eq_true.1 h i (List.mem_range.2 h2)
  rw [blt_no (by omega), Bool.false_or] at this
  have := List.all_eq_true.1 this (k - b) (List.mem_range.2 (by omega))
  rwa [show b + (k - b) = k by omega] at this
def opsW (all : Array Oper) (b : Nat) (i : Nat) : List Nat := match all.toList[b + i]? with | some o => wstM all o | none => []
def opsR (all : Array Oper) (b : Nat) (i : Nat) : List Nat := match all.toList[b + i]? with | some o => rst all o | none => []
def namesW (fs : List (Eff × List Nat)) (i : Nat) : List Nat := match fs[i]? with | some p => p.1.hs.map (·.1) | none => []
def namesR (fs : List (Eff × List Nat)) (i : Nat) : List Nat := match fs[i]? with | some p => p.2 | none => []
def pieceOk (ops : Array Oper) (b m : Nat) : Bool := edgesOk ops.toList 0 && (Nat.ble (b + m) ops.size && (barB (masks ops.toList []) b m ops.size && confB (masks ops.toList []) b m (opsW ops b) (opsR ops b)))
section
variable {X : Ctx} {T : Tab} {r : Option Nat} {mb : Nat → Bool} {ops : Array Oper} {Q : Exit → St → Prop} {s : St}
theorem SegW.run (hT : T.Ok X.P) (mb : Nat → Bool) {b : Nat} (m : Nat) (hs : List (Nat × List A)) (hd : dstsOk X.nt ops = true) (hp : pieceOk ops b m = true) {S' : Slots} {H' : Hp} {fs : List (Eff × List Nat)} {ob : List Ob}
    (h : runMD X.P T mb ops s.c hs ((ops.toList.drop b).take m) 0 s.S s.H [] = some (S', H', fs, ob)) (hc : confB (masks ops.toList []) b m (namesW fs) (namesR fs) = true) (ho : AllP ob)
    (k : SegW X r ops Q (b + m) ⟨S', H', s.c + m⟩) : SegW X r ops Q b s := by
  simp only [pieceOk, Bool.and_eq_true] at hp
  obtain ⟨he, hle, hbar, hcs⟩ := hp
  have hle := Nat.le_of_ble_eq_true hle
  obtain ⟨_, k1, k2, k3, k4⟩ := runMD_ok (X := X) (r := r) hT _ _ h ho
  have hlen : fs.length = m := by rw [k1, List.length_take, List.length_drop]; simp; omega
  have hlen2 : (fs.map (·.1)).length = m := by simpa using hlen
  have at0 : ∀ i o, i < m → ops.toList[b + i]? = some o → ((ops.toList.drop b).take m)[i]? = some o := fun i o hi ho => by
    rw [List.getElem?_take, if_pos hi, List.getElem?_drop]; exact ho
  have at1 : ∀ i f, (fs.map (·.1))[i]? = some f → ∃ hr o, fs[i]? = some (f, hr) ∧ ops.toList[b + i]? = some o ∧ i < m := fun i f hf => by
    have hi : i < m := by rw [← hlen2]; exact (List.getElem?_eq_some_iff.1 hf).1
    obtain ⟨p, hp, rfl⟩ : ∃ p, fs[i]? = some p ∧ p.1 = f := by simpa [List.getElem?_map] using hf
    exact ⟨p.2, ops.toList[b + i]'(by simp; omega), hp, by simp [show b + i < ops.size by omega], hi⟩
  refine SegW.draw (fs.map (·.1)) ((List.range m).map (opsR ops b)) (fs.map (·.2)) hd he (by omega) ?_ ?_ ?_ ?_
  · intro i j fi fj hij hi hj hb
    obtain ⟨hri, oi, a1, a2, a3⟩ := at1 i fi hi
    obtain ⟨hrj, oj, b1, b2, b3⟩ := at1 j fj hj
    have s1 := confB_ok hcs hij b3 hb
    have s2 := confB_ok hc hij b3 hb
    simp only [opsW, opsR, a2, b2] at s1
    simp only [namesW, namesR, a1, b1] at s2
    have wi := (k4 i oi fi hri (at0 i oi a3 a2) a1).2
    have wj := (k4 j oj fj hrj (at0 j oj b3 b2) b1).2
    have gi : ((List.range m).map (opsR ops b)).getD i [] = rst ops oi := by simp [List.getD_eq_getElem?_getD, List.getElem?_map, a3, opsR, a2, show (ops.toList[b + i]?) = some oi from a2]
    have gj : ((List.range m).map (opsR ops b)).getD j [] = rst ops oj := by simp [List.getD_eq_getElem?_getD, List.getElem?_map, b3, opsR, b2, show (ops.toList[b + j]?) = some oj from b2]
    have hi' : (fs.map (·.2)).getD i [] = hri := by simp [List.getD_eq_getElem?_getD, List.getElem?_map, a1]
    have hj' : (fs.map (·.2)).getD j [] = hrj := by simp [List.getD_eq_getElem?_getD, List.getElem?_map, b1]
    rw [gi, gj, hi', hj']
    exact ⟨⟨fun t ht => ⟨(s1.1 t (wi t ht)).1, fun ht' => (s1.1 t (wi t ht)).2 (wj t ht')⟩, fun t ht ht' => s1.2 t ht (wj t ht')⟩, s2⟩
  · intro i k hi hi2 hk hk2
    rw [hlen2] at hi hk2
    exact barB_ok hbar i k hi hi2 hk hk2
  · intro i o f ho hf L _
    refine FireOk.g ?_
    obtain ⟨hr, o', a1, a2, a3⟩ := at1 i f hf
    have : o' = o := by rw [Array.getElem?_toList, ho] at a2; cases a2; rfl
    subst this
    have := (k4 i o' f hr (at0 i o' a3 a2) a1).1
    have gi : ((List.range m).map (opsR ops b)).getD i [] = rst ops o' := by simp [List.getD_eq_getElem?_getD, List.getElem?_map, a3, opsR, a2, show (ops.toList[b + i]?) = some o' from a2]
    have hi' : (fs.map (·.2)).getD i [] = hr := by simp [List.getD_eq_getElem?_getD, List.getElem?_map, a1]
    have p1 := LS_prefix (fs.map (·.1)) 0 i s.S
    have p2 := LH_prefix (fs.map (·.1)) 0 i s.H
    rw [Nat.zero_add] at p1 p2
    rw [gi, hi', p1, p2]
    simpa using this
  · have p1 := LS_prefix (fs.map (·.1)) 0 (fs.map (·.1)).length s.S
    have p2 := LH_prefix (fs.map (·.1)) 0 (fs.map (·.1)).length s.H
    rw [Nat.zero_add, List.take_length] at p1 p2
    rw [p1, p2, hlen2, ← k2, ← k3]
    exact k
def relax (i0 : Nat) (f : Nat → List Nat) : Nat → List Nat := fun i => cond (Nat.beq i i0) [] (f i)
theorem SegW.runS (i0 : Nat) (hT : T.Ok X.P) (mb : Nat → Bool) {b : Nat} (m : Nat) (hs : List (Nat × List A)) (hd : dstsOk X.nt ops = true) (hp : pieceOk ops b m = true) {S' : Slots} {H' : Hp} {fs : List (Eff × List Nat)} {ob : List Ob}
    (h : runMD X.P T mb ops s.c hs ((ops.toList.drop b).take m) 0 s.S s.H [] = some (S', H', fs, ob)) (hc : confB (masks ops.toList []) b m (namesW fs) (relax i0 (namesR fs)) = true)
    (soft : ∀ o f (L : Nat → Bool), ops[b + i0]? = some o → (fs.map (·.1))[i0]? = some f → (∀ j, j < m → i0 < j → ((masks ops.toList []).getD (b + j) 0).testBit (b + i0) = true → L j = false) →
      FireG X r ops o (rst ops o) [] (LS (fun k => Nat.blt k i0) (fs.map (·.1)) 0 s.S) (LH (fun k => Nat.blt k i0) (fs.map (·.1)) 0 s.H) f (s.c + i0) (fun H' => H' = LH L (fs.map (·.1)) 0 s.H)) (ho : AllP ob)
    (k : SegW X r ops Q (b + m) ⟨S', H', s.c + m⟩) : SegW X r ops Q b s := by
  simp only [pieceOk, Bool.and_eq_true] at hp
  obtain ⟨he, hle, hbar, hcs⟩ := hp
  have hle := Nat.le_of_ble_eq_true hle
  obtain ⟨_, k1, k2, k3, k4⟩ := runMD_ok (X := X) (r := r) hT _ _ h ho
  have hlen : fs.length = m := by rw [k1, List.length_take, List.length_drop]; simp; omega
  have hlen2 : (fs.map (·.1)).length = m := by simpa using hlen
  have at0 : ∀ i o, i < m → ops.toList[b + i]? = some o → ((ops.toList.drop b).take m)[i]? = some o := fun i o hi ho => by
    rw [List.getElem?_take, if_pos hi, List.getElem?_drop]; exact ho
  have at1 : ∀ i f, (fs.map (·.1))[i]? = some f → ∃ hr o, fs[i]? = some (f, hr) ∧ ops.toList[b + i]? = some o ∧ i < m := fun i f hf => by
    have hi : i < m := by rw [← hlen2]; exact (List.getElem?_eq_some_iff.1 hf).1
    obtain ⟨p, hp, rfl⟩ : ∃ p, fs[i]? = some p ∧ p.1 = f := by simpa [List.getElem?_map] using hf
    exact ⟨p.2, ops.toList[b + i]'(by simp; omega), hp, by simp [show b + i < ops.size by omega], hi⟩
  refine SegW.draw (fs.map (·.1)) ((List.range m).map (opsR ops b)) ((List.range m).map (relax i0 (namesR fs))) hd he (by omega) ?_ ?_ ?_ ?_
  · intro i j fi fj hij hi hj hb
    obtain ⟨hri, oi, a1, a2, a3⟩ := at1 i fi hi
    obtain ⟨hrj, oj, b1, b2, b3⟩ := at1 j fj hj
    have s1 := confB_ok hcs hij b3 hb
    have s2 := confB_ok hc hij b3 hb
    simp only [opsW, opsR, a2, b2] at s1
    simp only [namesW, namesR, a1, b1] at s2
    have wi := (k4 i oi fi hri (at0 i oi a3 a2) a1).2
    have wj := (k4 j oj fj hrj (at0 j oj b3 b2) b1).2
    have gi : ((List.range m).map (opsR ops b)).getD i [] = rst ops oi := by simp [List.getD_eq_getElem?_getD, List.getElem?_map, a3, opsR, a2, show (ops.toList[b + i]?) = some oi from a2]
    have gj : ((List.range m).map (opsR ops b)).getD j [] = rst ops oj := by simp [List.getD_eq_getElem?_getD, List.getElem?_map, b3, opsR, b2, show (ops.toList[b + j]?) = some oj from b2]
    have hi' : ((List.range m).map (relax i0 (namesR fs))).getD i [] = relax i0 (namesR fs) i := by simp [List.getD_eq_getElem?_getD, List.getElem?_map, a3]
    have hj' : ((List.range m).map (relax i0 (namesR fs))).getD j [] = relax i0 (namesR fs) j := by simp [List.getD_eq_getElem?_getD, List.getElem?_map, b3]
    rw [gi, gj, hi', hj']
    exact ⟨⟨fun t ht => ⟨(s1.1 t (wi t ht)).1, fun ht' => (s1.1 t (wi t ht)).2 (wj t ht')⟩, fun t ht ht' => s1.2 t ht (wj t ht')⟩, s2⟩
  · intro i k hi hi2 hk hk2
    rw [hlen2] at hi hk2
    exact barB_ok hbar i k hi hi2 hk hk2
  · intro i o f ho hf L hL
    obtain ⟨hr, o', a1, a2, a3⟩ := at1 i f hf
    have : o' = o := by rw [Array.getElem?_toList, ho] at a2; cases a2; rfl
    subst this
    have gi : ((List.range m).map (opsR ops b)).getD i [] = rst ops o' := by simp [List.getD_eq_getElem?_getD, List.getElem?_map, a3, opsR, a2, show (ops.toList[b + i]?) = some o' from a2]
    have hi' : ((List.range m).map (relax i0 (namesR fs))).getD i [] = relax i0 (namesR fs) i := by simp [List.getD_eq_getElem?_getD, List.getElem?_map, a3]
    by_cases e0 : i = i0
    · subst e0
      have : relax i (namesR fs) i = [] := by simp [relax]
      rw [gi, hi', this]
      exact soft o' f L ho hf fun j hj hij hb => hL j (by rw [hlen2]; exact hj) hij hb
    · refine FireOk.g ?_
      have := (k4 i o' f hr (at0 i o' a3 a2) a1).1
      have hr' : relax i0 (namesR fs) i = hr := by simp [relax, beq_no e0, namesR, a1]
      have p1 := LS_prefix (fs.map (·.1)) 0 i s.S
      have p2 := LH_prefix (fs.map (·.1)) 0 i s.H
      rw [Nat.zero_add] at p1 p2
      rw [gi, hi', hr', p1, p2]
      simpa using this
  · have p1 := LS_prefix (fs.map (·.1)) 0 (fs.map (·.1)).length s.S
    have p2 := LH_prefix (fs.map (·.1)) 0 (fs.map (·.1)).length s.H
    rw [Nat.zero_add, List.take_length] at p1 p2
    rw [p1, p2, hlen2, ← k2, ← k3]
    exact k
theorem Aw.sd (hT : T.Ok X.P) (hm : X.P.follows .mixedOrders = true) (mb : Nat → Bool) {id : Nat} {y : Code} (hs : List (Nat × List A)) (hd : dstsOk X.nt ops = true) (hp : pieceOk ops 0 ops.size = true) {S' : Slots} {H' : Hp} {fs : List (Eff × List Nat)} {ob : List Ob}
    (h : runMD X.P T mb ops s.c hs ops.toList 0 s.S s.H [] = some (S', H', fs, ob)) (hc : confB (masks ops.toList []) 0 ops.size (namesW fs) (namesR fs) = true) (ho : AllP ob)
    (k : Aw X r y Q ⟨S', H', s.c + ops.size⟩) : Aw X r (.seq (.region id ops true) y) Q s := by
  refine Aw.seq (SegW.start hm (SegW.run (b := 0) hT mb ops.size hs hd hp (by rw [List.drop_zero, List.take_of_length_le (by simp)]; exact h) hc ho ?_))
  have he : edgesOk ops.toList 0 = true := by simp only [pieceOk, Bool.and_eq_true] at hp; exact hp.1
  exact SegW.done he (by omega) k
theorem Aw.ed (hT : T.Ok X.P) (hm : X.P.follows .mixedOrders = true) (mb : Nat → Bool) {id : Nat} (hs : List (Nat × List A)) (hd : dstsOk X.nt ops = true) (hp : pieceOk ops 0 ops.size = true) {S' : Slots} {H' : Hp} {fs : List (Eff × List Nat)} {ob : List Ob}
    (h : runMD X.P T mb ops s.c hs ops.toList 0 s.S s.H [] = some (S', H', fs, ob)) (hc : confB (masks ops.toList []) 0 ops.size (namesW fs) (namesR fs) = true) (ho : AllP ob)
    (k : Q .normal ⟨S', H', s.c + ops.size⟩) : Aw X r (.region id ops true) Q s := by
  refine SegW.start hm (SegW.run (b := 0) hT mb ops.size hs hd hp (by rw [List.drop_zero, List.take_of_length_le (by simp)]; exact h) hc ho ?_)
  have he : edgesOk ops.toList 0 = true := by simp only [pieceOk, Bool.and_eq_true] at hp; exact hp.1
  exact SegW.done he (by omega) k
end
theorem resC {P : Program} {T : Tab} {s : St} {t ty id off : Nat} {cs : List A} {v : A} (h1 : s.S t = .ref id off) (h2 : s.H id = some (.cells cs)) (hty : (T.ty ty).isAgg = true) (hl : Nat.ble (off + T.sz ty) cs.length = true)
    (hv : A.agg (((cs.drop off).take (T.sz ty)).map A.down) = v) : ResV P T s (.cell t ty) v :=
  hv ▸ .cell (ty' := ty) (.loadRefAgg h1 h2 (fun h => by rw [h] at hty; cases hty) hty (Nat.le_of_ble_eq_true hl))
end Go.AL

namespace Go.AL
open Go Go.RowKit
def allZ (w : World) : Still := fun b o => ∃ u, w.cell? ⟨b, o, none⟩ = some u
section
variable {H : Type} {enc : TypeId × Value → H} {P : Program} {w : World} {base : Nat} {spare : Nat → Bool} {held : Bool} {φ : Names}
theorem cells_at {a : Addr} {n : Nat} {cs : List Value} (h : w.cells? base a n = some cs) : cs.length = n ∧ ∀ j, j < n → w.cell? (a.add j) = cs[j]? := by
  unfold World.cells? at h
  split at h
  · exact ⟨by simpa using mapM_some_length h, fun j hj => mapM_some_get h j j (by simp [hj])⟩
  · cases h
theorem add_plain (b off k : Nat) : (⟨b, off, none⟩ : Addr).add k = ⟨b, off + k, none⟩ := by
  unfold Addr.add; split
  · rename_i h; subst h; rfl
  · rfl
end
end Go.AL

namespace Go.AL
open Go Go.RowKit Go.ChangeShapes Go.WideShapes
theorem Quiet.below {w w' : World} (h : Quiet w w') : Below w.heap.size w w' := ⟨h.os, h.tape, h.output, h.size, h.block⟩
section
variable {H : Type} {enc : TypeId × Value → H} {P : Program}
theorem trodAll_below (hl : laidOutB P = true) {W W' : World} (hb : Below W.heap.size W W') {sp : Nat → Bool} (hsp : ∀ b, b < W.heap.size → sp b = true) : ∀ {ts : List TypeId} {vs : List Value} {ds : List (DataW H)} {ps : List MemPlace},
    (∀ t ∈ ts, P.readableRec t = true ∧ t < P.types.size) → DataW.TrodAll enc P W 0 (fun _ => true) true ts vs ds ps → (∀ x ∈ ps, x.block < W.heap.size) → DataW.TrodAll enc P W' 0 sp true ts vs ds ps
  | [], vs, ds, ps, _, h, _ => by
    obtain ⟨rfl, rfl, rfl⟩ := trodAll_nil h
    exact rfl
  | t :: ts, vs, ds, ps, ht, h, hlt => by
    obtain ⟨v, vs1, d, ds1, a, b, rfl, rfl, rfl, h1, h2⟩ := trodAll_cons h
    refine ⟨a, b, ?_, trodAll_below hl hb hsp (fun t ht' => ht t (List.mem_cons_of_mem _ ht')) h2 (fun x hx => hlt x (List.mem_append.2 (.inr hx))), rfl⟩
    have hlt1 : ∀ x ∈ a, x.block < W.heap.size := fun x hx => hlt x (List.mem_append.2 (.inl hx))
    exact WideElems.Trod_stays hl (ht t (List.mem_cons_self ..)).1 (ht t (List.mem_cons_self ..)).2 h1 (fun x hx => hb.same (hlt1 x hx)) (fun x hx => hsp _ (hlt1 x hx))
theorem post_below {f : Func} {s : ChangeSpec} {apart fresh handsOn again : Bool} {W W' : World} {args : Array Value} {v : Value} {ds : List (DataW H)} {before : List MemPlace}
    (hl : laidOutB P = true) (hts : ∀ t ∈ f.params.toList, P.readableRec t = true ∧ t < P.types.size) (hv : s.vars = [])
    (hW : DataW.Whole enc P f.params.toList s.vars apart W args.toList ds [] before) (hb : Below W.heap.size W W')
    (hsa : (s.fn H (ds ++ [])).args = ds) (hsv : (s.fn H (ds ++ [])).vars = [])
    (hres : ∀ (b : Nat) (sp : Nat → Bool) (hd : Bool), DataW.TrodAll enc P W' b sp hd f.resultTypes.toList (v.resultList f.resultTypes.size) (s.fn H (ds ++ [])).results [])
    (hok : ∀ (j : Nat) (t : TypeId) (r : Value), f.resultTypes[j]? = some t → (v.resultList f.resultTypes.size)[j]? = some r → Value.okWide P W' .any 0 t r) :
    s.post enc P f apart fresh handsOn again W args v W' := by
  have hlt := hW.lt
  have hW2 := hW
  obtain ⟨p, q, hA, hV, hpq, hz, hn⟩ := hW2
  rw [hv] at hV
  have hq : q = [] := by
    revert hV; unfold DataW.TrodVars; simp
  subst hq
  rw [List.append_nil] at hpq
  subst hpq
  have hvars : ∀ sp : Nat → Bool, DataW.TrodVars enc P W' sp s.vars (s.fn H (ds ++ [])).vars [] := fun sp => by rw [hv, hsv]; exact rfl
  have hargs : ∀ sp : Nat → Bool, (∀ b, b < W.heap.size → sp b = true) → DataW.TrodAll enc P W' 0 sp true f.params.toList args.toList (s.fn H (ds ++ [])).args before := fun sp hsp => by
    rw [hsa]; exact trodAll_below hl hb hsp hts hA hlt
  refine ⟨ds, [], before, [], before, [], hW, hres _ _ _, hargs _ (fun b hb => by simpa using hb), hvars _, hb.frame _, fun _ => ⟨hok, _, _, ([] ++ before) ++ [], ⟨[] ++ before, [], trodAll_append (hargs _ (fun _ _ => rfl)) (hres _ _ _), hvars _, rfl, ?_, ?_⟩, ?_⟩⟩
  · intro b off hp
    have hp' : MemPlace.cell b off ∈ before := by simpa using hp
    rw [hb.frozen (p := ⟨b, off, none⟩) (hlt _ hp')]
    exact hz b off hp'
  · intro ha
    simpa using hn ha
  · intro p hp _
    simpa using hp
theorem law_row {f : FuncId} {fn : Func} {s : ChangeSpec} {apart fresh handsOn again : Bool} {W : World} {args : Array Value} {ds : List (DataW H)} {before : List MemPlace} {as : List A} {φ : Names} {tb : TypeId}
    (hl : laidOutB P = true) (hts : ∀ t ∈ fn.params.toList, P.readableRec t = true ∧ t < P.types.size) (hv : s.vars = [])
    (hW : DataW.Whole enc P fn.params.toList s.vars apart W args.toList ds [] before)
    (hsa : (s.fn H (ds ++ [])).args = ds) (hsv : (s.fn H (ds ++ [])).vars = []) (hsr : (s.fn H (ds ++ [])).results = [.lit (.bool true)])
    (hr : fn.resultTypes = #[tb]) (htb : P.underlying tb = some .bool)
    (hvs : VRs φ (allZ W) W as args) (h : Ans P f as (.bool true)) :
    Calls P f args W fun e W' => ∃ v, e = .returned v ∧ s.post enc P fn apart fresh handsOn again W args v W' := by
  refine (h.pure φ (allZ W) W args (fun b o hb => hb) hvs).mono fun e W' hR => ?_
  obtain ⟨u, Z', rfl, hm, hu, _⟩ := hR
  cases inv_s hu
  refine ⟨_, rfl, post_below hl hts hv hW hm.quiet.below hsa hsv (fun _ _ _ => ?_) ?_⟩
  · rw [hr, hsr]; exact trodAll_mk1 (shut_bool htb true)
  · exact ok_one hr rfl (okWide_bool_mk htb true)
end
end Go.AL

namespace Go.AL
open Go
structure Sp where
  lo : Int
  hi : Int
  deriving DecidableEq
def Sp.c (s : Sp) : List A := [.int s.lo, .int s.hi]
theorem Sp.free (s : Sp) : ∀ x ∈ s.c, Free x := allC (.s _) (all1 (.s _))
namespace Q
theorem free_map {α : Type} {f : α → List A} (hf : ∀ a, ∀ x ∈ f a, Free x) (n : Bool) (c : Cap) (l : List α) : Free (.sl n c (l.map f)) := .sl _ _ _ fun e he x hx => by
  obtain ⟨a, _, rfl⟩ := List.mem_map.1 he
  exact hf a x hx
theorem get_map {α : Type} {f : α → List A} {l : List α} {k : Nat} (h : k < l.length) : (l.map f)[k]? = some (f l[k]) := by simp [h]
def ints (l : List Int) : List (List A) := l.map fun n => [.int n]
theorem ints_get {l : List Int} {k : Nat} (h : k < l.length) : (ints l)[k]? = some [.int l[k]] := by simp [ints, h]
theorem ints_getD {l : List Int} {k : Nat} (h : k < l.length) : (ints l)[k]? = some [.int (l.getD k 0)] := by rw [ints_get h]; simp [List.getD_eq_getElem?_getD, h]
theorem ints_len (l : List Int) : (ints l).length = l.length := by simp [ints]
theorem ints_lenI (l : List Int) : ((ints l).length : Int) = l.length := by simp [ints]
theorem ints_one (l : List Int) : ∀ z ∈ ints l, z.length = 1 := fun z hz => by obtain ⟨i, _, rfl⟩ := List.mem_map.1 hz; rfl
theorem ints_app (l k : List Int) : ints (l ++ k) = ints l ++ ints k := by simp [ints]
theorem free_ints (b : Bool) (c : Cap) (l : List Int) : Free (.sl b c (ints l)) := .sl _ _ _ fun e he x hx => by
  simp only [ints, List.mem_map] at he
  obtain ⟨n, _, rfl⟩ := he
  simp at hx; subst hx; exact .s _
theorem ints_under {n : Nat} (l : List Int) : ∀ x ∈ ints l, ∀ y ∈ x, Under n y := fun x hx y hy => by
  obtain ⟨i, _, rfl⟩ := List.mem_map.1 hx
  simp at hy; subst hy; exact .s _
def wi (n a b : Int) : Bool := cond (decide (a ≤ n)) (decide (n ≤ b)) false
theorem wi_iff {n a b : Int} : wi n a b = true ↔ a ≤ n ∧ n ≤ b := by
  unfold wi
  by_cases h : a ≤ n <;> by_cases h' : n ≤ b <;> simp [h, h']
theorem c_and (a b : Bool) : cond a b false = (a && b) := by cases a <;> rfl
theorem c_or (a b : Bool) : cond a true b = (a || b) := by cases a <;> rfl
theorem ac1 {a b : Bool} (h : cond a b false = true) : a = true := by cases a <;> simp_all
theorem ac2 {a b : Bool} (h : cond a b false = true) : b = true := by cases a <;> simp_all
theorem all_take_succ {α : Type} {p : α → Bool} {l : List α} {k : Nat} (h : k < l.length) : (l.take (k + 1)).all p = ((l.take k).all p && p l[k]) := by
  rw [List.take_succ_eq_append_getElem h, List.all_append]; simp
def andAll {α : Type} (b : Bool) (p : α → Bool) (l : List α) (k : Nat) : Bool := cond b ((l.take k).all p) false
theorem andAll_zero {α : Type} (b : Bool) (p : α → Bool) (l : List α) : andAll b p l 0 = b := by cases b <;> rfl
theorem andAll_step {α : Type} {b : Bool} {p : α → Bool} {l : List α} {k : Nat} (h : k < l.length) : andAll b p l (k + 1) = cond (andAll b p l k) (p l[k]) false := by
  unfold andAll
  rw [all_take_succ h]
  cases b <;> cases (l.take k).all p <;> rfl
theorem andAll_full {α : Type} {b : Bool} {p : α → Bool} {l : List α} : andAll b p l l.length = cond b (l.all p) false := by unfold andAll; rw [List.take_length]
theorem inrk (k : Nat) (h : (k : Int) ≤ 9223372036854775806) : inR ((k : Int) + 1) := by simp only [inR]; omega
theorem sum_bd {l : List Int} {b : Int} (h : ∀ x ∈ l, 0 ≤ x ∧ x ≤ b) : 0 ≤ l.sum ∧ l.sum ≤ b * l.length := by
  induction l with
  | nil => simp
  | cons a l ih =>
    have h1 := h a (by simp)
    have h2 := ih fun x hx => h x (by simp [hx])
    simp only [List.sum_cons, List.length_cons]
    have : b * ((l.length + 1 : Nat) : Int) = b * l.length + b := by push_cast; rw [Int.mul_add]; omega
    omega
theorem sum_take_succ {l : List Int} {k : Nat} (h : k < l.length) : (l.take (k + 1)).sum = (l.take k).sum + l[k] := by
  rw [List.take_succ_eq_append_getElem h, List.sum_append]; simp
theorem setSeg_app {l r : List A} {v : A} {i : Nat} (h : i < r.length) : setSeg (l ++ r) (l.length + i) [v] = l ++ r.set i v := by
  unfold setSeg
  have h1 : (l ++ r).take (l.length + i) = l ++ r.take i := by rw [List.take_append, List.take_of_length_le (by omega)]; simp
  have h2 : (l ++ r).drop (l.length + i + [v].length) = r.drop (i + 1) := by rw [List.drop_append]; simp [show l.length + i + 1 - l.length = i + 1 by omega, List.drop_eq_nil_of_le (show l.length ≤ l.length + i + 1 by omega)]
  rw [h1, h2, List.append_assoc, List.set_eq_take_append_cons_drop, if_pos h]; rfl
theorem ints_flatten (l : List Int) : (ints l).flatten.map A.down = l.map A.int := by
  induction l with
  | nil => rfl
  | cons x l ih => show A.int x :: ((ints l).flatten.map A.down) = _; rw [ih]; rfl
theorem map_down_int (l : List Int) : (l.map A.int).map A.down = l.map A.int := by rw [List.map_map]; rfl
def outA : List Int → A
  | [] => .sl true .exact []
  | x :: l => .sl false .any (ints (x :: l))
theorem outA_free : ∀ l : List Int, Free (outA l)
  | [] => .sl _ _ _ (fun _ h => by cases h)
  | x :: l => free_ints _ _ _
def grL (e : Nat) : List Int → A
  | [] => .sl true .exact []
  | x :: l => .sl false (.own e) (ints (x :: l))
theorem grL_under {e n : Nat} : ∀ l : List Int, Under n (grL e l)
  | [] => .sl _ _ _ (fun _ h => by cases h)
  | x :: l => .sl _ _ _ (ints_under _)
theorem grL_down {e : Nat} : ∀ l : List Int, (grL e l).down = outA l
  | [] => rfl
  | x :: l => rfl
def pickF (l : List Int) (n : Int) : Int := if l.length = 0 then 0 else l.getD (n % l.length).toNat 0
end Q
end Go.AL

namespace Go.AL
open Go Go.RowKit Go.ChangeShapes Go.WideShapes Go.ChangeAt
section
variable {H : Type} {enc : TypeId × Value → H} {P : Program} {w : World} {base : Nat} {spare : Nat → Bool} {held : Bool} {φ : Names}
theorem lifted2 {C : Checked} {os : Os} {f : FuncId} {fn : Func} {s : ChangeSpec} {apart fresh handsOn again : Bool} {tb : TypeId}
    (own : ownKnob C.prog.godebug = none) (started : os.Started) (noInit : C.prog.inits.idxOf? f = none) (hfn : C.prog.funcs[f]? = some fn)
    (witness : ∃ (w : World) (tape : Tape) (i : Input), w.os = os ∧ (w.forCall tape i).Shaped C.prog ∧ i.vars = [] ∧ Input.okWide C.prog (w.forCall tape i) .any w.heap.size f i ∧
      s.pre6 enc C.prog fn [] apart (w.forCall tape i).memory i.args ∧ ({} : Assume).holds C.prog (lone (Frame.enter C.prog f i.args .normal) [] (w.forCall tape i)))
    (hl : laidOutB C.prog = true) (hts : ∀ t ∈ fn.params.toList, C.prog.readableRec t = true ∧ t < C.prog.types.size) (hv : s.vars = []) (hvt : s.plain.varTypes C.prog = [])
    (hr : fn.resultTypes = #[tb]) (htb : C.prog.underlying tb = some .bool)
    (hs : ∀ ds : List (DataW H), ds.length = fn.params.size → s.fn H ds = { results := [.lit (.bool true)], args := ds })
    (key : ∀ (W : World) (base : Nat) (args : Array Value) (ds : List (DataW H)) (p : List MemPlace),
      (∀ (j : Nat) t v, fn.params[j]? = some t → args[j]? = some v → Value.okWide C.prog W .any base t v) →
      DataW.TrodAll enc C.prog W 0 (fun _ => true) true fn.params.toList args.toList ds p → (∀ k ∈ DataW.weightsEach C.prog fn.params.toList ds, k ≤ reachBytes) → ∃ (φ : Names) (az : List A), VRs φ (allZ W) W az args ∧ Ans C.prog f az (.bool true)) :
    ReturnsInHanded {} C os f .any (s.pre6 enc C.prog fn [] apart) (s.post enc C.prog fn apart fresh handsOn again) := by
  refine returnsInHanded_of_calls own started noInit witness ?_
  intro w tape i _ _ _ hok hpre hholds
  obtain ⟨_, _, _, fn', hfn', _, _, _, _, hval⟩ := hok
  have e : fn' = fn := Option.some.inj (hfn'.symm.trans hfn)
  subst e
  obtain ⟨⟨ds, gs, before, hw, hc⟩, hz⟩ := hpre
  have hzw := hz.weights hw
  have hW := DataW.Whole.of_heap (w' := w.forCall tape i) (by rfl) hw
  have hW2 := hW
  obtain ⟨p, q, hA, hV, hpq, hz, hn⟩ := hW2
  rw [hv] at hV
  have hg : gs = [] := by
    cases gs with
    | nil => rfl
    | cons a b => exact hV.elim
  subst hg
  have hlen : ∀ {ts : List TypeId} {vs : List Value} {ds : List (DataW H)} {p : List MemPlace}, DataW.TrodAll enc C.prog (w.forCall tape i) 0 (fun _ => true) true ts vs ds p → ds.length = ts.length := fun {ts} => by
    induction ts with
    | nil => intro vs ds p h; obtain ⟨_, rfl, _⟩ := trodAll_nil h; rfl
    | cons t ts ih => intro vs ds p h; obtain ⟨v, vs1, d, ds1, a, b, _, rfl, _, _, h2⟩ := trodAll_cons h; simp [ih h2]
  have hd : ds.length = fn'.params.size := by rw [hlen hA]; simp
  have hzw : ∀ k ∈ DataW.weightsEach C.prog fn'.params.toList ds, k ≤ reachBytes := fun k hk => by
    have e : (OpenSpec.ofChange s).bare.plain.varTypes C.prog = [] := hvt
    rw [e, List.append_nil, List.append_nil] at hzw
    exact of_decide_eq_true (List.all_eq_true.1 hzw k hk)
  obtain ⟨φ, az, hvs, ha⟩ := key (w.forCall tape i) w.heap.size i.args ds p hval hA hzw
  have e := hs (ds ++ []) (by simpa using hd)
  refine (law_row (apart := apart) (fresh := fresh) (handsOn := handsOn) (again := again) hl hts hv hW (by rw [e]; simp) (by rw [e]) (by rw [e]) hr htb hvs ha).mono fun e W' ⟨v, he, hp⟩ => ?_
  subst he
  exact ChangeSpec.post_blind hp
end
end Go.AL

namespace Go.AL
open Go Go.RowKit Go.ChangeShapes Go.WideShapes Go.ChangeAt
section
variable {H : Type} {enc : TypeId × Value → H} {P : Program} {w : World} {base : Nat} {held : Bool} {φ : Names}
def CellsAre (φ : Names) (w : World) (az : List A) (cs : List Value) : Prop :=
  cs.length = az.length ∧ ∀ i, i < az.length → VR φ (allZ w) w (az.getD i .un) (cs.getD i undef) ∧ (cs.getD i undef).oneCell' = true
theorem CellsAre.nil : CellsAre φ w [] [] := ⟨rfl, fun i h => by simp at h⟩
theorem CellsAre.one {a : A} {v : Value} (h : VR φ (allZ w) w a v) (h1 : v.oneCell' = true) : CellsAre φ w [a] [v] := ⟨rfl, fun i hi => by
  have : i = 0 := by simp at hi; exact hi
  subst this; exact ⟨h, h1⟩⟩
theorem CellsAre.app {az bz : List A} {cs ds : List Value} (h : CellsAre φ w az cs) (k : CellsAre φ w bz ds) : CellsAre φ w (az ++ bz) (cs ++ ds) := by
  refine ⟨by simp [h.1, k.1], fun i hi => ?_⟩
  by_cases h1 : i < az.length
  · have := h.2 i h1
    rw [show (az ++ bz).getD i .un = az.getD i .un by simp [List.getD_eq_getElem?_getD, List.getElem?_append, h1],
      show (cs ++ ds).getD i undef = cs.getD i undef by simp [List.getD_eq_getElem?_getD, List.getElem?_append, h.1, h1]]
    exact this
  · have hi2 : i - az.length < bz.length := by simp only [List.length_append] at hi; omega
    have := k.2 (i - az.length) hi2
    rw [show (az ++ bz).getD i .un = bz.getD (i - az.length) .un by simp [List.getD_eq_getElem?_getD, List.getElem?_append, h1],
      show (cs ++ ds).getD i undef = ds.getD (i - az.length) undef by simp [List.getD_eq_getElem?_getD, List.getElem?_append, h.1, h1]]
    exact this
theorem CellsAre.agg {az : List A} {cs : List Value} (h : CellsAre φ w az cs) : VR φ (allZ w) w (.agg az) (.agg cs.toArray) := by
  have e : ∀ i, cs.toArray.getD i undef = cs.getD i undef := fun i => by simp [Array.getD_eq_getD_getElem?, List.getD_eq_getElem?_getD]
  refine .agg _ _ (by simp [h.1]) (fun i hi => ?_) fun i hi => ?_
  · rw [e]; exact (h.2 i hi).2
  · rw [e]; exact (h.2 i hi).1
def Reads (enc : TypeId × Value → H) (P : Program) (w : World) (base : Nat) (held : Bool) (φ : Names) (e sz : Nat) {α : Type} (c : α → List A) (Q : α → Prop) : Prop :=
  ∀ n cs y, DataW.trod enc P w base (fun _ => true) held n e cs = some y → (∀ k ∈ y.1.weights P e, k ≤ reachBytes) → ∃ a : α, Q a ∧ (c a).length = sz ∧ CellsAre φ w (c a) cs
theorem Reads.imp {e sz : Nat} {α β : Type} {c : α → List A} {d : β → List A} {Q : α → Prop} {R : β → Prop} (h : Reads enc P w base held φ e sz c Q) (k : ∀ a, Q a → ∃ b, R b ∧ d b = c a) : Reads enc P w base held φ e sz d R := fun n cs y hy hw => by
  obtain ⟨a, q, l, r⟩ := h n cs y hy hw
  obtain ⟨b, q2, e2⟩ := k a q
  exact ⟨b, q2, by rw [e2]; exact l, by rw [e2]; exact r⟩
theorem Reads.int {e : Nat} (he : P.underlying e = some (.int .i64)) : Reads enc P w base held φ e 1 (fun n : Int => [A.int n]) fun _ => True := fun n cs y h _ => by
  obtain ⟨z, rfl, _, _⟩ := DataW.trod_int he h
  exact ⟨z, trivial, rfl, .one (.s _) rfl⟩
theorem weightsAll_at {e : Nat} : ∀ {l : List (DataW H)} {d : DataW H}, d ∈ l → ∀ k ∈ d.weights P e, k ∈ DataW.weightsAll P e l
  | x :: l, d, hm, k, hk => by
    rw [DataW.weightsAll, List.mem_append]
    rcases List.mem_cons.1 hm with rfl | hm
    · exact .inl hk
    · exact .inr (weightsAll_at hm k hk)
theorem cells_spot {a : Addr} {n : Nat} {cs : List Value} (h : w.cells? base a n = some cs) (hn : 0 < n) : a.spot = none := by
  obtain ⟨hl, hc⟩ := cells_at h
  have h0 := hc 0 hn
  rw [List.getElem?_eq_getElem (by omega)] at h0
  have := World.cell?_spot h0
  rwa [show a.add 0 = a from by unfold Addr.add; simp] at this
theorem told_list {α : Type} {c : α → List A} {Q : α → Prop} {R : α → Nat → Prop} (n : Nat) (h : ∀ i, i < n → ∃ a, Q a ∧ R a i) : ∃ l : List α, l.length = n ∧ (∀ a ∈ l, Q a) ∧ ∀ i (hi : i < l.length), R l[i] i := by
  induction n with
  | zero => exact ⟨[], rfl, fun _ h => by simp at h, fun i hi => by simp at hi⟩
  | succ n ih =>
    obtain ⟨l, hl, hq, hr⟩ := ih fun i hi => h i (by omega)
    obtain ⟨a, qa, ra⟩ := h n (by omega)
    refine ⟨l ++ [a], by simp [hl], fun x hx => ?_, fun i hi => ?_⟩
    · rcases List.mem_append.1 hx with hx | hx
      · exact hq x hx
      · rw [List.mem_singleton.1 hx]; exact qa
    · by_cases h1 : i < l.length
      · rw [List.getElem_append_left h1]; exact hr i h1
      · have : i = l.length := by simp at hi; omega
        subst this
        rw [List.getElem_append_right (by omega)]
        simp only [Nat.sub_self, List.getElem_cons_zero]
        rw [hl]; exact ra
theorem Reads.slice {t e sz : Nat} {α : Type} {c : α → List A} {Q : α → Prop} (ht : P.underlying t = some (.slice e)) (hc : P.cellsOf e = sz) (h0 : 0 < sz) (h : Reads enc P w base held φ e sz c Q) :
    Reads enc P w base held φ t 1 (fun x : Bool × List α => [A.sl x.1 .any (x.2.map c)]) fun x => (∀ a ∈ x.2, Q a) ∧ x.2.length * P.bytesOf e ≤ reachBytes := by
  intro fuel cs y hy hw
  rcases DataW.trod_slice ht hy with ⟨rfl, _⟩ | ⟨ad, len, cap, elems, rest, n, _, rfl, hx, hbl, hl, hm, hlen, hel, hre, _⟩
  · exact ⟨(true, []), ⟨fun a ha => (nomatch ha), by simp⟩, rfl, .one (.nil _) rfl⟩
  · obtain ⟨hrl, hre⟩ := hre rfl
    have hwt : (elems.map (·.1)).length * P.bytesOf e ≤ reachBytes ∧ ∀ d ∈ elems.map (·.1), ∀ k ∈ d.weights P e, k ≤ reachBytes := by
      rw [hx] at hw
      simp only [DataW.weights, ht] at hw
      refine ⟨Nat.le_trans (Nat.mul_le_mul_right _ (Nat.le_add_right _ (rest.map (·.1)).length)) (hw _ (List.mem_cons_self ..)), fun d hd k hk => hw k (List.mem_cons_of_mem _ (List.mem_append.2 (.inl (weightsAll_at hd k hk))))⟩
    have hsp : cap = 0 ∨ ad.spot = none := by
      rcases Nat.eq_zero_or_pos cap with h | hpos
      · exact .inl h
      right
      rcases Nat.eq_zero_or_pos len with hz | hlp
      · subst hz
        have h1 := hre 0 (by omega)
        rw [hc] at h1
        obtain ⟨r, hr⟩ : ∃ r, rest[0]? = some r := ⟨rest[0]'(by omega), List.getElem?_eq_getElem _⟩
        rw [hr, Option.bind_eq_some_iff] at h1
        obtain ⟨cs, h2, _⟩ := h1
        rw [show ad.add ((0 + 0) * sz) = ad from by unfold Addr.add; simp] at h2
        exact cells_spot h2 h0
      · have h1 := hel 0 hlp
        rw [hc] at h1
        obtain ⟨r, hr⟩ : ∃ r, elems[0]? = some r := ⟨elems[0]'(by omega), List.getElem?_eq_getElem _⟩
        rw [hr, Option.bind_eq_some_iff] at h1
        obtain ⟨cs, h2, _⟩ := h1
        rw [show ad.add (0 * sz) = ad from by unfold Addr.add; simp] at h2
        exact cells_spot h2 h0
    rcases hsp with hz | hsp
    · subst hz
      have : len = 0 := by omega
      subst this
      exact ⟨(false, []), ⟨fun a ha => (nomatch ha), by simp⟩, rfl, .one (.slz _ ad) rfl⟩
    obtain ⟨b, off, sp⟩ := ad
    simp only at hsp
    subst hsp
    have each : ∀ i, i < len → ∃ a : α, Q a ∧ ((c a).length = sz ∧ ∃ cs, w.cells? base ((⟨b, off, none⟩ : Addr).add (i * sz)) sz = some cs ∧ CellsAre φ w (c a) cs) := fun i hi => by
      have h1 := hel i hi
      rw [hc] at h1
      rw [List.getElem?_eq_getElem (by omega), Option.bind_eq_some_iff] at h1
      obtain ⟨cs, h2, h3⟩ := h1
      obtain ⟨a, qa, la, ra⟩ := h n cs _ h3 (hwt.2 _ (List.mem_map.2 ⟨_, List.getElem_mem (by omega), rfl⟩))
      exact ⟨a, qa, la, cs, h2, ra⟩
    obtain ⟨l, hll, hq, hr⟩ := told_list (c := c) len each
    have hcell : ∀ i j, i < l.length → j < sz → ∃ v, w.cell? ⟨b, off + i * sz + j, none⟩ = some v ∧ VR φ (allZ w) w ((((l.map c).getD i []).getD j .un)) v ∧ v.oneCell' = true := fun i j hi hj => by
      obtain ⟨q1, cs, q2, q3⟩ := hr i hi
      have h1 := (cells_at q2).2 j hj
      rw [add_plain, add_plain] at h1
      have hcl : cs.length = sz := by rw [q3.1, q1]
      rw [List.getElem?_eq_getElem (by omega)] at h1
      have h2 := q3.2 j (by omega)
      have e1 : cs.getD j undef = cs[j]'(by omega) := by rw [List.getD_eq_getElem?_getD, List.getElem?_eq_getElem (by omega)]; rfl
      have e2 : (l.map c).getD i [] = c l[i] := by rw [List.getD_eq_getElem?_getD, List.getElem?_map, List.getElem?_eq_getElem hi]; rfl
      rw [e1] at h2
      exact ⟨_, h1, by rw [e2]; exact h2.1, h2.2⟩
    let val : Nat → Nat → Value := fun i j => (w.cell? ⟨b, off + i * sz + j, none⟩).getD undef
    have hval : ∀ i j, i < l.length → j < sz → w.cell? ⟨b, off + i * sz + j, none⟩ = some (val i j) ∧ VR φ (allZ w) w ((((l.map c).getD i []).getD j .un)) (val i j) ∧ (val i j).oneCell' = true := fun i j hi hj => by
      obtain ⟨v, h1, h2, h3⟩ := hcell i j hi hj
      have : val i j = v := by simp only [val, h1]; rfl
      rw [this]; exact ⟨h1, h2, h3⟩
    have hl2 : (l.map c).length = l.length := by simp
    refine ⟨(false, l), ⟨hq, ?_⟩, rfl, .one ?_ rfl⟩
    · have := hwt.1
      rw [List.length_map, hlen] at this
      rw [hll]; exact this
    · have key : VR φ (allZ w) w (.sl false .any (l.map c)) (.slice (some ⟨b, off, none⟩) (l.map c).length cap) := by
        refine .sl .any _ b off sz cap val (by rw [hl2, hll]; exact hl) (fun h => by cases h) hm (fun z hz => ?_) (fun i j hi hj => ?_) (fun i j hi hj => ?_) (fun i j hi hj => ?_) fun i j hi hj => ?_
        · obtain ⟨a, ha, rfl⟩ := List.mem_map.1 hz
          obtain ⟨i, hi, rfl⟩ := List.mem_iff_getElem.1 ha
          exact (hr i hi).1
        all_goals rw [hl2] at hi
        · exact ⟨_, (hval i j hi hj).1⟩
        · exact (hval i j hi hj).1
        · exact (hval i j hi hj).2.2
        · exact (hval i j hi hj).2.1
      rw [hl2, hll] at key; exact key
inductive Flds (enc : TypeId × Value → H) (P : Program) (w : World) (base : Nat) (held : Bool) (φ : Names) : Nat → List Field → {α : Type} → (α → List A) → (α → Prop) → Nat → Prop
  | nil (off : Nat) : Flds enc P w base held φ off [] (fun _ : Unit => []) (fun _ => True) 0
  | cons {off : Nat} {f : Field} {fs : List Field} {sz m : Nat} {α β : Type} {c : α → List A} {Q : α → Prop} {d : β → List A} {R : β → Prop} (ho : f.offset = off) (hc : P.cellsOf f.type = sz) (h : Reads enc P w base held φ f.type sz c Q)
      (k : Flds enc P w base held φ (off + sz) fs d R m) : Flds enc P w base held φ off (f :: fs) (fun x : α × β => c x.1 ++ d x.2) (fun x => Q x.1 ∧ R x.2) (sz + m)
theorem Flds.read {n : Nat} {cs : List Value} : ∀ {fs : List Field} {off m : Nat} {α : Type} {c : α → List A} {Q : α → Prop} {xs : List (DataW H × List MemPlace)}, Flds enc P w base held φ off fs c Q m → xs.length = fs.length →
    (∀ (i : Nat) (f : Field), fs[i]? = some f → DataW.trod enc P w base (fun _ => true) held n f.type ((cs.drop f.offset).take (P.cellsOf f.type)) = xs[i]?) → (∀ k ∈ DataW.weightsEach P (fs.map (·.type)) (xs.map (·.1)), k ≤ reachBytes) →
    cs.length = off + m → ∃ a, Q a ∧ (c a).length = m ∧ CellsAre φ w (c a) (cs.drop off)
  | _, _, _, _, _, _, [], .nil off, _, _, _, hl => ⟨(), trivial, rfl, by rw [List.drop_of_length_le (by omega)]; exact .nil⟩
  | f :: fs, off, _, _, _, _, x :: xs, .cons (sz := sz) (m := m) ho hc h k, hxl, hx, hw, hl => by
    have h0 := hx 0 f rfl
    rw [ho, hc] at h0
    obtain ⟨a, qa, la, ra⟩ := h n _ x h0 fun k hk => hw k (by
      simp only [List.map_cons, DataW.weightsEach, List.mem_append]; exact .inl hk)
    obtain ⟨b, qb, lb, rb⟩ := Flds.read k (by simpa using hxl) (fun i f' hf => hx (i + 1) f' hf) (fun k hk => hw k (by
      simp only [List.map_cons, DataW.weightsEach, List.mem_append]; exact .inr hk)) (by omega)
    refine ⟨(a, b), ⟨qa, qb⟩, by simp only [List.length_append, la, lb], ?_⟩
    have e : cs.drop off = (cs.drop off).take sz ++ cs.drop (off + sz) := by
      rw [← List.drop_drop, List.take_append_drop]
    rw [e]
    exact ra.app rb
theorem Reads.struct {e m m' : Nat} {fs : Array Field} {l : List Field} {α : Type} {c : α → List A} {Q : α → Prop} (he : P.underlying e = some (.struct fs)) (hc : P.cellsOf e = m) (h : Flds enc P w base held φ 0 l c Q m') (hl : fs.toList = l) (hm : m' = m) : Reads enc P w base held φ e m c Q := by
  subst hl; subst hm
  intro fuel cs y hy hw
  obtain ⟨xs, n, _, hx, hl, hlen, hf⟩ := DataW.trod_struct he hy
  rw [hx] at hw
  simp only [DataW.weights, he] at hw
  obtain ⟨a, q, l, r⟩ := h.read (n := n) (cs := cs) (xs := xs) (by simpa using hlen) (fun i f hf' => hf i f (by simpa using hf')) hw (by omega)
  exact ⟨a, q, l, by simpa using r⟩
theorem Reads.ints {t n e : Nat} (hu : P.underlying t = some (.array n e)) (hc : P.cellsOf t = n) (ue : P.underlying e = some (.int .i64)) (ce : P.cellsOf e = 1) :
    Reads enc P w base held φ t n (fun l : List Int => l.map A.int) fun l => l.length = n := by
  intro fuel cs y hy _
  obtain ⟨xs, m, _, _, hl0, hl, hx⟩ := DataW.trod_array hu hy
  rw [ce] at hx
  have hcl : cs.length = n := by omega
  have each : ∀ i, i < n → ∃ z : Int, True ∧ cs[i]? = some (.int .i64 z) := fun i hi => by
    have h1 := hx i hi
    rw [List.getElem?_eq_getElem (by omega)] at h1
    obtain ⟨z, hz, _⟩ := DataW.trod_int ue h1
    refine ⟨z, trivial, ?_⟩
    have h5 := congrArg (fun l => l[0]?) hz
    simpa using h5
  obtain ⟨l, hll, _, hr⟩ := told_list (c := fun _ : Int => []) n each
  refine ⟨l, hll, by simp [hll], by simp [hll, hcl], fun i hi => ?_⟩
  have hi : i < l.length := by simpa using hi
  have h1 := hr i hi
  have e1 : cs.getD i undef = .int .i64 l[i] := by rw [List.getD_eq_getElem?_getD, h1]; rfl
  have e2 : (l.map A.int).getD i .un = A.int l[i] := by simp [List.getD_eq_getElem?_getD, hi]
  rw [e1, e2]
  exact ⟨.s _, rfl⟩
end
end Go.AL

namespace Go.AL
open Go Go.RowKit
inductive Ex where
  | normal
  | exit (id : Nat)
  | ret
def enterOk (fn : Func) : Bool := !(fn.name == "runtime.NumGoroutine")
theorem enters_of {P : Program} {g : Nat} {fn : Func} {c : Code} (h : P.funcs[g]? = some fn) (hb : fn.body = some c) (hn : enterOk fn = true) : Enters P g := by
  intro args w
  have hn' : (fn.name == "runtime.NumGoroutine") = false := by simpa [enterOk] using hn
  simp only [callFunc, Sem.run_bind, run_program, Result.andThen_ok, h, hn', hb, Bool.false_eq_true, if_false, Option.isNone_some, Sem.run_pure]
section
variable (P : Program) (T : Tab) (mb : Nat → Nat → Bool)
end
section
variable {P : Program} {T : Tab} {mb : Nat → Nat → Bool}
end
end Go.AL

namespace Go.AL
open Go Go.RowKit
def Sub (H : Hp) (J : Hp → Prop) : Prop := ∃ H', J H' ∧ ∀ i bx, H' i = some bx → H i = some bx
theorem Sub.self {H : Hp} {J : Hp → Prop} (h : J H) : Sub H J := ⟨H, h, fun _ _ h => h⟩
def Low (n : Nat) (H : Hp) : Prop := ∀ id bx, H id = some bx → id < n ∧ UnderB n bx
section
variable {X : Ctx} {r : Option Nat} {s : St} {Q : Exit → St → Prop}
structure KeepH (n : Nat) (cst v : List (Nat × A)) (J : Hp → Prop) (s : St) : Prop where
  cst : AllLe s.S cst
  var : AllLe s.S v
  hp : Sub s.H J
  c : n ≤ s.c
theorem Aw.keepH {x : Code} {n : Nat} {cst v : List (Nat × A)} {J : Hp → Prop} (h0 : ∀ id, n ≤ id → X.φ0 id = none) (uc : UnderL n cst) (uv : UnderL n v) (low : ∀ H, J H → Low n H) (hk : KeepH n cst v J s)
    (h : ∀ H, J H → Aw X r x Q ⟨ofL2 cst v, H, n⟩) : Aw X r x Q s := by
  obtain ⟨H', hJ, hs⟩ := hk.hp
  refine Aw.weaken (S' := ofL2 cst v) (H' := H') (c' := s.c) (AllLe.app hk.var hk.cst).le (fun id bx hb => ⟨bx, hs id bx hb, .refl _⟩) (Nat.le_refl _) ?_
  exact Aw.forget h0 hk.c (ofL2_under (uv.app uc)) (low H' hJ) (h H' hJ)
theorem Aw.roundsH {ι : Type} {x : Code} (n : Nat) (h0 : ∀ id, n ≤ id → X.φ0 id = none) (cst : List (Nat × A)) (v : ι → List (Nat × A)) (J : ι → Hp → Prop) (μ : ι → Nat) (i0 : ι)
    (hk : KeepH n cst (v i0) (J i0) s) (uc : UnderL n cst) (uv : ∀ i, UnderL n (v i)) (low : ∀ i H, J i H → Low n H)
    (round : ∀ i H, J i H → Aw X r x (thenQ (fun s' => ∃ j, μ j < μ i ∧ KeepH n cst (v j) (J j) s') Q) ⟨ofL2 cst (v i), H, n⟩) : Aw X r (.loop x) Q s := by
  refine Aw.loop (fun s m => ∃ i, m = μ i ∧ KeepH n cst (v i) (J i) s) (μ i0) ⟨i0, rfl, hk⟩ ?_
  rintro s m ⟨i, rfl, hk⟩
  refine Aw.keepH h0 uc (uv i) (low i) hk fun H hJ => (round i H hJ).mono fun e s' h => ?_
  cases e with
  | normal => obtain ⟨j, h2, h3⟩ := h; exact ⟨μ j, h2, j, rfl, h3⟩
  | _ => exact h
theorem RegL.part {T : Tab} {ops : Array Oper} {K : St → Prop} (hT : T.Ok X.P) (mb : Nat → Bool) (dec : Bool) (n i : Nat) (hs : List (Nat × List A)) {l l' : List Oper} {S' : Slots} {H' : Hp} {c' : Nat} {ob' : List Ob}
    (h : AL.runM X.P T mb dec ops hs n l i s.S s.H s.c [] = (l', ⟨S', H', c'⟩, ob')) (ho : AllP ob') (k : RegL X r ops l' ⟨S', H', c'⟩ K) : RegL X r ops l s K := RegL.goM hT mb dec n hs h ho k
def PartK (X : Ctx) (r : Option Nat) (ops : Array Oper) (K : St → Prop) (y : List Oper × St × List Ob) : Prop := AllP y.2.2 ∧ RegL X r ops y.1 y.2.1 K
theorem PartK.mk {X : Ctx} {r : Option Nat} {ops : Array Oper} {K : St → Prop} {l : List Oper} {S : Slots} {H : Hp} {c : Nat} {ob : List Ob} (h : AllP ob) (k : RegL X r ops l ⟨S, H, c⟩ K) : PartK X r ops K (l, ⟨S, H, c⟩, ob) := ⟨h, k⟩
theorem RegL.partE {T : Tab} {ops : Array Oper} {K : St → Prop} (hT : T.Ok X.P) (mb : Nat → Bool) (dec : Bool) (n i : Nat) (hs : List (Nat × List A)) {l : List Oper}
    (h : PartK X r ops K (AL.runM X.P T mb dec ops hs n l i s.S s.H s.c [])) : RegL X r ops l s K := RegL.goM hT mb dec n hs rfl h.1 h.2
theorem RegL.st {T : Tab} (hT : T.Ok X.P) {ops : Array Oper} {K : St → Prop} {l : List Oper} {t ty id off : Nat} {x v : Operand} {p : String} {af : Array Edge} {cs : List A} (hx : rd s.S x = .ref id off) (hi : s.H id = some (.cells cs)) (ht : T.ty t ≠ .none)
    (hp : okPart (rd s.S v) = true) (hl : (cellsA (rd s.S v)).length = T.sz t) (hle : off + T.sz t ≤ cs.length)
    (k : RegL X r ops l ⟨s.S, updH s.H id (some (.cells (setSeg cs off ((cellsA (rd s.S v)).map A.down)))), s.c⟩ K) : RegL X r ops (⟨none, .store t x v, ty, p, af, none⟩ :: l) s K :=
  Does.raw rfl (DoesP.toR (DoesP.store hT rfl rfl hx hi ht hp hl hle k))
end
structure Iter (P : Program) (c id : Nat) (S : Slots) (nt : Nat) (ps : Array Tmp) (asg body : Code) (L : List (List A)) (I : Nat → Hp → Prop) (D : Hp → Prop) : Prop where
  pok : ∀ t ∈ ps.toList, t < nt
  len : ∀ as ∈ L, as.length = ps.size
  lp : ∀ k H, I k H → ∃ pend, H id = some (.lp .ready pend S nt ps asg body)
  low : ∀ k H, I k H → Low c H
  round : ∀ k as, L[k]? = some as → ∀ H, I k H → ∀ (E : En) (b : Nat), (∀ i, c ≤ i → E.φ0 i = none) →
    Aw (E.cx P nt) (some b) asg (fun e s1 => e = .normal ∧ ∃ p1 S1 nt1 ps1 as1 bo1, s1.H id = some (.lp .ready p1 S1 nt1 ps1 as1 bo1) ∧
      Aw (E.cx P nt) (some b) body (roundQ id fun v H' c' => c ≤ c' ∧ ((v = .bool true ∧ Sub H' (I (k + 1))) ∨ (v = .bool false ∧ Sub H' D))) { s1 with H := updH s1.H id (some (.lp .busy p1 S1 nt1 ps1 as1 bo1)) })
      ⟨setPs (fun t => (S t).down) ps.toList as, H, c⟩
theorem Iter.yield {P : Program} {c id : Nat} {S : Slots} {nt : Nat} {ps : Array Tmp} {asg body : Code} {L : List (List A)} {I : Nat → Hp → Prop} {D : Hp → Prop} (it : Iter P c id S nt ps asg body L I D)
    {X : Ctx} (hP : X.P = P) {r : Option Nat} {s : St} {o : Oper} {K : St → Prop} {f : Operand} {args : Array Operand} {at' : Array TypeId} (ho : o.op = .call { callee := .value f, args := args, argTypes := at' }) (hf : rd s.S f = .yl id) (hc : s.c = c)
    {k : Nat} (ha : L[k]? = some (rds s.S args.toList)) (hI : I k s.H)
    (hK : ∀ v H' c', c ≤ c' ∧ ((v = .bool true ∧ Sub H' (I (k + 1))) ∨ (v = .bool false ∧ Sub H' D)) → K ⟨putO s.S o.dst v, H', c'⟩) : DoesR X r o s K := by
  subst hP
  obtain ⟨pend, hl⟩ := it.lp k s.H hI
  have hlen := it.len _ (List.mem_of_getElem? ha)
  refine DoesR.yieldN ho hf hl (by simpa [rds] using hlen) it.pok (fun E b hE => ?_) hK
  have := it.round k _ ha s.H hI E b (by rw [← hc]; exact hE)
  rw [← hc] at this
  rw [← hc]
  exact this
end Go.AL

namespace Go.AL
open Go Go.RowKit
theorem low_none {n : Nat} {H : Hp} (h : Low n H) {m : Nat} (hm : n ≤ m) : H m = none := by
  cases e : H m with
  | none => rfl
  | some bx => have := (h m bx e).1; omega
theorem UnderB.mono {n m : Nat} {b : B} (h : UnderB n b) (hm : n ≤ m) : UnderB m b := by
  cases h with
  | cells cs h => exact .cells _ fun x hx => (h x hx).mono hm
  | map kvs h => exact .map _ fun p hp => ⟨(h p hp).1.mono hm, (h p hp).2.mono hm⟩
  | lp st pend S nt ps asg body h => exact .lp _ _ _ _ _ _ _ fun t => (h t).mono hm
section
variable {X : Ctx} {s : St} {Q : Exit → St → Prop}
end
end Go.AL

namespace Go.AL
open Go Go.RowKit
section
variable {X : Ctx} {T : Tab} {r : Option Nat} {s : St} {o : Oper} {K : St → Prop}
end
end Go.AL

namespace Go.AL
open Go Go.RowKit
def cutH (c : Nat) (H : Hp) : Hp := fun id => if id < c then H id else none
def glueN (c : Nat) (φ' φ : Names) : Names := fun id => if id < c then φ' id else φ id
def glueH (c : Nat) (H' H : Hp) : Hp := fun id => if id < c then H' id else H id
theorem cutH_some {c : Nat} {H : Hp} {id : Nat} (h : (cutH c H id).isSome = true) : id < c ∧ (H id).isSome = true ∧ cutH c H id = H id := by
  unfold cutH at h ⊢
  split at h
  · rename_i h1; exact ⟨h1, h, if_pos h1⟩
  · cases h
section
variable {P : Program} {φ φ' : Names} {Z Z' : Still} {H H' : Hp} {c c2 c' : Nat} {w w' : World}
theorem HRel.cut (hr : HRel P φ Z H c2 w) (low : Low c (cutH c H)) : HRel P (cutN c φ) Z (cutH c H) c w := by
  have φin : ∀ id, id < c → cutN c φ id = φ id := fun id hi => by unfold cutN; rw [if_pos hi]
  have φout : ∀ id b, cutN c φ id = some b → φ id = some b := fun id b hb => (cutN_up hb).1
  have absS : ∀ id j, id < c → absAt ⟨fun _ => .un, cutH c H, c⟩ (.box id j) = absAt ⟨fun _ => .un, H, c2⟩ (.box id j) := fun id j hi => by simp only [absAt, cutH, if_pos hi]
  have conS : ∀ id j w, id < c → conAt (cutN c φ) ⟨#[], []⟩ w (.box id j) = conAt φ ⟨#[], []⟩ w (.box id j) := fun id j w hi => by simp only [conAt, φin id hi]
  have abs_some : ∀ {id j : Nat} {v : Value} {p : Nat × Nat}, spareOf (absAt ⟨fun _ => .un, cutH c H, c⟩ (.box id j)) v = some p → id < c := fun {id j v p} hs => by
    cases e : cutH c H id with
    | some b => exact (cutH_some (by rw [e]; rfl)).1
    | none => simp [absAt, e, spareOf] at hs
  exact {
    boxes := fun id bx hb => by
      obtain ⟨h1, h2, h3⟩ := cutH_some (c := c) (H := H) (id := id) (by rw [hb]; rfl)
      obtain ⟨b, k1, k2⟩ := hr.boxes id bx (h3 ▸ hb)
      exact ⟨b, by rw [φin id h1]; exact k1, k2.under (low id bx hb).2 fun i b hi hb => by rw [φin i hi]; exact hb⟩
    inj := fun id id' b hi hi' h1 h2 => hr.inj id id' b (cutH_some hi).2.1 (cutH_some hi').2.1 (φout _ _ h1) (φout _ _ h2)
    zok := hr.zok
    zbox := fun b o id hz hi hb => hr.zbox b o id hz (cutH_some hi).2.1 (φout _ _ hb)
    own1 := fun id j b e hl => by
      have hi := abs_some hl
      rw [absS id j hi, conS id j w hi] at hl
      obtain ⟨k0, k⟩ := hr.own1 id j b e hl
      rw [conS id j w hi]
      exact ⟨fun i hi hb => k0 i (cutH_some hi).2.1 (φout _ _ hb), k⟩
    own2 := fun id j id' j' b e e' hl hl' => by
      have hi := abs_some hl
      have hi' := abs_some hl'
      rw [absS id j hi, conS id j w hi] at hl
      rw [absS id' j' hi', conS id' j' w hi'] at hl'
      exact hr.own2 id j id' j' b e e' hl hl'
    fresh := fun id hi => by unfold cutN; rw [if_neg (by omega)] }
theorem HRel.glue (hr : HRel P φ Z H c2 w) (hc : c ≤ c2) (hr' : HRel P φ' Z' H' c' w') (g : Grew P (cutN c φ) φ' Z Z' (cutH c H) H' w w') (low' : ∀ id bx, H' id = some bx → id < c ∧ UnderB c bx) :
    HRel P (glueN c φ' φ) Z' (glueH c H' H) c2 w' ∧ Grew P φ (glueN c φ' φ) Z Z' H (glueH c H' H) w w' := by
  have φin : ∀ id, id < c → cutN c φ id = φ id := fun id hi => by unfold cutN; rw [if_pos hi]
  have φout : ∀ id b, cutN c φ id = some b → φ id = some b := fun id b hb => (cutN_up hb).1
  have gin : ∀ id, id < c → glueN c φ' φ id = φ' id := fun id hi => by unfold glueN; rw [if_pos hi]
  have gout : ∀ id, ¬ id < c → glueN c φ' φ id = φ id := fun id hi => by unfold glueN; rw [if_neg hi]
  have hin : ∀ id, id < c → glueH c H' H id = H' id := fun id hi => by unfold glueH; rw [if_pos hi]
  have hout : ∀ id, ¬ id < c → glueH c H' H id = H id := fun id hi => by unfold glueH; rw [if_neg hi]
  have cin : ∀ id, id < c → cutH c H id = H id := fun id hi => by unfold cutH; rw [if_pos hi]
  have names : ∀ id b, φ id = some b → glueN c φ' φ id = some b := fun id b hb => by
    by_cases hi : id < c
    · rw [gin id hi]; exact g.names id b (by rw [φin id hi]; exact hb)
    · rw [gout id hi]; exact hb
  have abs_some : ∀ {Hx : Hp} {k id j : Nat} {v : Value} {p : Nat × Nat}, spareOf (absAt ⟨fun _ => .un, Hx, k⟩ (.box id j)) v = some p → (Hx id).isSome = true := fun {Hx k id j v p} hs => by
    cases e : Hx id with
    | some b => rfl
    | none => simp [absAt, e, spareOf] at hs
  have mineS : ∀ b, Mine (cutN c φ) (cutH c H) w b → Mine φ H w b := fun b hm => by
    rcases hm with ⟨id, h1, h2⟩ | ⟨id, j, e, h1⟩
    · exact .inl ⟨id, (cutH_some h1).2.1, φout _ _ h2⟩
    · have hi := (cutH_some (abs_some h1)).1
      refine .inr ⟨id, j, e, ?_⟩
      simp only [absAt, conAt, φin id hi, cin id hi] at h1 ⊢
      exact h1
  have boxOut : ∀ id b, (H id).isSome = true → ¬ id < c → φ id = some b → ¬ Mine (cutN c φ) (cutH c H) w b := fun id b h1 h2 h3 hm => by
    rcases hm with ⟨i, k1, k2⟩ | ⟨i, j, e, k1⟩
    · have := hr.inj id i b h1 (cutH_some k1).2.1 h3 (φout _ _ k2)
      subst this; exact h2 (cutH_some k1).1
    · have hi := (cutH_some (abs_some k1)).1
      have k1' : spareOf (absAt ⟨fun _ => .un, H, c2⟩ (.box i j)) (conAt φ ⟨#[], []⟩ w (.box i j)) = some (b, e) := by
        simp only [absAt, conAt, φin i hi, cin i hi] at k1 ⊢; exact k1
      exact (hr.own1 i j b e k1').1 id h1 h3
  have spareOut : ∀ id j b e, ¬ id < c → spareOf (absAt ⟨fun _ => .un, H, c2⟩ (.box id j)) (conAt φ ⟨#[], []⟩ w (.box id j)) = some (b, e) → ¬ Mine (cutN c φ) (cutH c H) w b := fun id j b e h1 h2 hm => by
    rcases hm with ⟨i, k1, k2⟩ | ⟨i, j', e', k1⟩
    · exact (hr.own1 id j b e h2).1 i (cutH_some k1).2.1 (φout _ _ k2)
    · have hi := (cutH_some (abs_some k1)).1
      have k1' : spareOf (absAt ⟨fun _ => .un, H, c2⟩ (.box i j')) (conAt φ ⟨#[], []⟩ w (.box i j')) = some (b, e') := by
        simp only [absAt, conAt, φin i hi, cin i hi] at k1 ⊢; exact k1
      have := hr.own2 id j i j' b e e' h2 k1'
      cases this; exact h1 hi
  have blt : ∀ id b, (H id).isSome = true → φ id = some b → b < w.heap.size := fun id b h1 h2 => by
    obtain ⟨bx, hbx⟩ := Option.isSome_iff_exists.1 h1
    obtain ⟨b0, h3, h4⟩ := hr.boxes id bx hbx
    rw [h2] at h3; cases h3; exact h4.lt
  have keep : ∀ b, b < w.heap.size → ¬ Mine (cutN c φ) (cutH c H) w b → w'.heap[b]? = w.heap[b]? := g.frame
  have conO : ∀ id j, (H id).isSome = true → ¬ id < c → conAt (glueN c φ' φ) ⟨#[], []⟩ w' (.box id j) = conAt φ ⟨#[], []⟩ w (.box id j) := fun id j h1 h2 => by
    cases e : φ id with
    | none => simp only [conAt, gout id h2, e]
    | some b =>
      simp only [conAt, gout id h2, e]
      rw [World.cell?_of_block (w := w) (w' := w') (a := ⟨b, j, none⟩) (keep b (blt id b h1 e) (boxOut id b h1 h2 e))]
  have absO : ∀ id j, ¬ id < c → absAt ⟨fun _ => .un, glueH c H' H, c2⟩ (.box id j) = absAt ⟨fun _ => .un, H, c2⟩ (.box id j) := fun id j h2 => by simp only [absAt, hout id h2]
  have absI : ∀ id j, id < c → absAt ⟨fun _ => .un, glueH c H' H, c2⟩ (.box id j) = absAt ⟨fun _ => .un, H', c'⟩ (.box id j) := fun id j h2 => by simp only [absAt, hin id h2]
  have conI : ∀ id j, id < c → conAt (glueN c φ' φ) ⟨#[], []⟩ w' (.box id j) = conAt φ' ⟨#[], []⟩ w' (.box id j) := fun id j h2 => by simp only [conAt, gin id h2]
  have domO : ∀ {id j : Nat} {v : Value} {p : Nat × Nat}, spareOf (absAt ⟨fun _ => .un, glueH c H' H, c2⟩ (.box id j)) v = some p → ¬ id < c → (H id).isSome = true := fun {id j v p} hs hi => by
    have := abs_some hs
    change (glueH c H' H id).isSome = true at this
    rwa [hout id hi] at this
  have mineO : ∀ id j b e, spareOf (absAt ⟨fun _ => .un, glueH c H' H, c2⟩ (.box id j)) (conAt (glueN c φ' φ) ⟨#[], []⟩ w' (.box id j)) = some (b, e) → ¬ id < c →
      spareOf (absAt ⟨fun _ => .un, H, c2⟩ (.box id j)) (conAt φ ⟨#[], []⟩ w (.box id j)) = some (b, e) := fun id j b e hl hi => by
    have h1 := domO hl hi
    rw [absO id j hi, conO id j h1 hi] at hl; exact hl
  have mineI : ∀ id j b e, spareOf (absAt ⟨fun _ => .un, glueH c H' H, c2⟩ (.box id j)) (conAt (glueN c φ' φ) ⟨#[], []⟩ w' (.box id j)) = some (b, e) → id < c →
      spareOf (absAt ⟨fun _ => .un, H', c'⟩ (.box id j)) (conAt φ' ⟨#[], []⟩ w' (.box id j)) = some (b, e) := fun id j b e hl hi => by
    rw [absI id j hi, conI id j hi] at hl; exact hl
  have newBox : ∀ id b, (H' id).isSome = true → φ' id = some b → Mine (cutN c φ) (cutH c H) w b ∨ w.heap.size ≤ b := fun id b h1 h2 => g.mine b (.inl ⟨id, h1, h2⟩)
  have newMine : ∀ id j b e, spareOf (absAt ⟨fun _ => .un, H', c'⟩ (.box id j)) (conAt φ' ⟨#[], []⟩ w' (.box id j)) = some (b, e) → Mine (cutN c φ) (cutH c H) w b ∨ w.heap.size ≤ b := fun id j b e hl => g.mine b (.inr ⟨id, j, e, by simpa only [absAt] using hl⟩)
  have spLt : ∀ {s : St} {φ : Names} {Z : Still} {w : World} {v : Value} {b e : Nat}, SpareOk P s φ Z w v b e → b < w.heap.size := fun hk => by
    obtain ⟨_, _, _, _, _, _, _, k3, _⟩ := hk; exact lt_of_block k3
  have isI : ∀ id, id < c → (glueH c H' H id).isSome = true → (H' id).isSome = true := fun id hi h => by rwa [hin id hi] at h
  have isO : ∀ id, ¬ id < c → (glueH c H' H id).isSome = true → (H id).isSome = true := fun id hi h => by rwa [hout id hi] at h
  have apart : ∀ i o b, i < c → (glueH c H' H i).isSome = true → ¬ o < c → (glueH c H' H o).isSome = true → φ' i = some b → φ o = some b → False := fun i o b hi h1 ho h2 h3 h4 => by
    have k2 := isO o ho h2
    have hlt := blt o b k2 h4
    exact (newBox i b (isI i hi h1) h3).elim (boxOut o b k2 ho h4) (fun h5 => by omega)
  refine ⟨{
    boxes := fun id bx hb => by
      by_cases hi : id < c
      · rw [hin id hi] at hb
        obtain ⟨b, h1, h2⟩ := hr'.boxes id bx hb
        exact ⟨b, by rw [gin id hi]; exact h1, h2.under (low' id bx hb).2 fun i b hi hb => by rw [gin i hi]; exact hb⟩
      · rw [hout id hi] at hb
        obtain ⟨b, h1, h2⟩ := hr.boxes id bx hb
        exact ⟨b, by rw [gout id hi]; exact h1, h2.mono names (fun b o hz => (g.up b o hz).1) (fun b o hz => (g.up b o hz).2) (keep b h2.lt (boxOut id b (by rw [hb]; rfl) hi h1))⟩
    inj := fun id id' b hi hi' h1 h2 => by
      by_cases k1 : id < c <;> by_cases k2 : id' < c
      · rw [gin id k1] at h1; rw [gin id' k2] at h2
        exact hr'.inj id id' b (isI id k1 hi) (isI id' k2 hi') h1 h2
      · rw [gin id k1] at h1; rw [gout id' k2] at h2
        exact (apart id id' b k1 hi k2 hi' h1 h2).elim
      · rw [gout id k1] at h1; rw [gin id' k2] at h2
        exact (apart id' id b k2 hi' k1 hi h2 h1).elim
      · rw [gout id k1] at h1; rw [gout id' k2] at h2
        exact hr.inj id id' b (isO id k1 hi) (isO id' k2 hi') h1 h2
    zok := hr'.zok
    zbox := fun b o id hz hi hb => by
      by_cases h1 : id < c
      · rw [gin id h1] at hb
        exact hr'.zbox b o id hz (isI id h1 hi) hb
      · rw [gout id h1] at hb
        have h2 := isO id h1 hi
        have hlt := blt id b h2 hb
        exact (g.back b o hz hlt).elim (fun h3 => hr.zbox b o id h3 h2 hb) (boxOut id b h2 h1 hb)
    own1 := fun id j b e hl => by
      by_cases hi : id < c
      · have hl' := mineI id j b e hl hi
        obtain ⟨k0, k⟩ := hr'.own1 id j b e hl'
        rw [conI id j hi]
        refine ⟨fun i h1 h2 => ?_, k⟩
        change (glueH c H' H i).isSome = true at h1
        by_cases h3 : i < c
        · rw [gin i h3] at h2
          exact k0 i (isI i h3 h1) h2
        · rw [gout i h3] at h2
          have h4 := isO i h3 h1
          have hlt := blt i b h4 h2
          exact (newMine id j b e hl').elim (boxOut i b h4 h3 h2) (fun h5 => by omega)
      · have hl' := mineO id j b e hl hi
        have h1 := domO hl hi
        obtain ⟨k0, n', c'', i, cur, k1, k2, k3, k4, k5⟩ := hr.own1 id j b e hl'
        have hlt := lt_of_block k3
        have hnm := spareOut id j b e hi hl'
        rw [conO id j h1 hi]
        refine ⟨fun i hi' hb => ?_, n', c'', i, cur, k1, k2, (keep b hlt hnm).trans k3, k4, fun o ho hz => (g.back b o hz hlt).elim (k5 o ho) hnm⟩
        change (glueH c H' H i).isSome = true at hi'
        by_cases h3 : i < c
        · rw [gin i h3] at hb
          exact (newBox i b (isI i h3 hi') hb).elim hnm (fun h5 => by omega)
        · rw [gout i h3] at hb
          exact k0 i (isO i h3 hi') hb
    own2 := fun id j id' j' b e e' hl hl' => by
      by_cases hi : id < c <;> by_cases hi' : id' < c
      · exact hr'.own2 id j id' j' b e e' (mineI id j b e hl hi) (mineI id' j' b e' hl' hi')
      · exfalso
        have h2 := mineO id' j' b e' hl' hi'
        have hlt := spLt (hr.own1 id' j' b e' h2)
        exact (newMine id j b e (mineI id j b e hl hi)).elim (spareOut id' j' b e' hi' h2) (fun h5 => by omega)
      · exfalso
        have h2 := mineO id j b e hl hi
        have hlt := spLt (hr.own1 id j b e h2)
        exact (newMine id' j' b e' (mineI id' j' b e' hl' hi')).elim (spareOut id j b e hi h2) (fun h5 => by omega)
      · exact hr.own2 id j id' j' b e e' (mineO id j b e hl hi) (mineO id' j' b e' hl' hi')
    fresh := fun id hi => by rw [gout id (by omega)]; exact hr.fresh id hi }, {
    size := g.size
    frame := fun b hb hm => g.frame b hb fun h1 => hm (mineS b h1)
    os := g.os
    tape := g.tape
    output := g.output
    up := g.up
    back := fun b o hz hb => (g.back b o hz hb).elim .inl fun h1 => .inr (mineS b h1)
    names := names
    mine := fun b hm => by
      rcases hm with ⟨id, h1, h2⟩ | ⟨id, j, e, h1⟩
      · by_cases hi : id < c
        · rw [gin id hi] at h2
          exact (newBox id b (isI id hi h1) h2).elim (fun h2 => .inl (mineS b h2)) .inr
        · rw [gout id hi] at h2
          exact .inl (.inl ⟨id, isO id hi h1, h2⟩)
      · have h1' : spareOf (absAt ⟨fun _ => .un, glueH c H' H, c2⟩ (.box id j)) (conAt (glueN c φ' φ) ⟨#[], []⟩ w' (.box id j)) = some (b, e) := by simpa only [absAt] using h1
        by_cases hi : id < c
        · exact (newMine id j b e (mineI id j b e h1' hi)).elim (fun h2 => .inl (mineS b h2)) .inr
        · have h2 := mineO id j b e h1' hi
          exact .inl (.inr ⟨id, j, e, by simpa only [absAt] using h2⟩) }⟩
theorem HRel.less (hr : HRel P φ Z H c w) {H2 : Hp} (hs : ∀ id bx, H2 id = some bx → H id = some bx) : HRel P φ Z H2 c w := by
  have some_of : ∀ id, (H2 id).isSome = true → (H id).isSome = true := fun id hi => by
    obtain ⟨bx, hbx⟩ := Option.isSome_iff_exists.1 hi; rw [hs id bx hbx]; rfl
  have same : ∀ {id j : Nat} {v : Value} {p : Nat × Nat}, spareOf (absAt ⟨fun _ => .un, H2, c⟩ (.box id j)) v = some p → absAt ⟨fun _ => .un, H2, c⟩ (.box id j) = absAt ⟨fun _ => .un, H, c⟩ (.box id j) := fun {id j v p} hl => by
    cases e : H2 id with
    | none => simp [absAt, e, spareOf] at hl
    | some bx => simp only [absAt, e, hs id bx e]
  exact {
    boxes := fun id bx hb => hr.boxes id bx (hs id bx hb)
    inj := fun id id' b hi hi' => hr.inj id id' b (some_of id hi) (some_of id' hi')
    zok := hr.zok
    zbox := fun b o id hz hi => hr.zbox b o id hz (some_of id hi)
    own1 := fun id j b e hl => by
      obtain ⟨k0, k⟩ := hr.own1 id j b e (by rw [← same hl]; exact hl)
      exact ⟨fun i hi => k0 i (some_of i hi), k⟩
    own2 := fun id j id' j' b e e' hl hl' => hr.own2 id j id' j' b e e' (by rw [← same hl]; exact hl) (by rw [← same hl']; exact hl')
    fresh := hr.fresh }
theorem Grew.less (g : Grew P φ φ' Z Z' H H' w w') {H2 : Hp} (hs : ∀ id bx, H2 id = some bx → H' id = some bx) : Grew P φ φ' Z Z' H H2 w w' := { g with
  mine := fun b hm => g.mine b (by
    have some_of : ∀ id, (H2 id).isSome = true → (H' id).isSome = true := fun id hi => by
      obtain ⟨bx, hbx⟩ := Option.isSome_iff_exists.1 hi; rw [hs id bx hbx]; rfl
    have same : ∀ {id j : Nat} {v : Value} {p : Nat × Nat}, spareOf (absAt ⟨fun _ => .un, H2, 0⟩ (.box id j)) v = some p → absAt ⟨fun _ => .un, H2, 0⟩ (.box id j) = absAt ⟨fun _ => .un, H', 0⟩ (.box id j) := fun {id j v p} hl => by
      cases e : H2 id with
      | none => simp [absAt, e, spareOf] at hl
      | some bx => simp only [absAt, e, hs id bx e]
    rcases hm with ⟨id, h1, h2⟩ | ⟨id, j, e, h1⟩
    · exact .inl ⟨id, some_of id h1, h2⟩
    · refine .inr ⟨id, j, e, ?_⟩
      rw [← same h1]; exact h1) }
end
theorem Iter.yieldF {P : Program} {c id : Nat} {S : Slots} {nt : Nat} {ps : Array Tmp} {asg body : Code} {L : List (List A)} {I : Nat → Hp → Prop} (it : Iter P c id S nt ps asg body L I fun _ => False)
    {X : Ctx} (hP : X.P = P) {r : Option Nat} {s : St} {o : Oper} {K : St → Prop} {f : Operand} {args : Array Operand} {at' : Array TypeId} (ho : o.op = .call { callee := .value f, args := args, argTypes := at' }) (hf : rd s.S f = .yl id) (hid : id < c) (hc : c ≤ s.c)
    {k : Nat} (ha : L[k]? = some (rds s.S args.toList)) (hfree : ∀ x ∈ rds s.S args.toList, Free x) (hI : I k (cutH c s.H))
    (hK : ∀ H', I (k + 1) H' → K ⟨putO s.S o.dst (.bool true), glueH c H' s.H, s.c⟩) : DoesR X r o s K := by
  subst hP
  obtain ⟨pend, hi⟩ := it.lp k _ hI
  have low := it.low k _ hI
  have hlen := it.len _ (List.mem_of_getElem? ha)
  intro hdn φ Z a w hr next Q hn
  obtain ⟨dst, op, ty, pos, aft, gd⟩ := o
  simp only at ho
  subst ho
  obtain ⟨b, e0, hb⟩ := inv_yl (hf ▸ hr.sees.rd f)
  have hcut := hr.hrel.cut low
  obtain ⟨b', hb', hbr⟩ := hcut.boxes id _ hi
  have hbb : b' = b := by
    have := (cutN_up hb').1
    rw [hb] at this; cases this; rfl
  subst hbb
  obtain ⟨fn, tmps, d, hl, hsz, htv⟩ := hbr
  have hargs := vrs_rds hr.slots args
  have hset := setPs_vr (φ := cutN c φ) (Z := Z) (w := w) ps.toList (rds s.S args.toList) (args.map a.eval).toList (S := fun t => (S t).down) (tmps := tmps) (fun t ht => by rw [hsz]; exact it.pok t ht) (by simpa using hargs.1) (fun i hi => by
    have := hargs.2 i hi
    have h2 := this.under (φ' := cutN c φ) (n := 0) (hfree _ (mem_getD hi)).under (fun _ _ h => by omega)
    simpa [Array.getD_eq_getD_getElem?, List.getD_eq_getElem?_getD] using h2) (fun t => (htv t).down)
  have hrun : (execOp a.eval { dst := dst, op := Op.call { callee := .value f, args := args, argTypes := at' }, type := ty, pos := pos, after := aft, guard := gd }).run X.P w =
      .ok (.round b' fn ((ps.toList.zip (args.map a.eval).toList).foldl (fun tmps p => tmps.setIfInBounds p.1 p.2) tmps) asg body) w := by
    simp only [ex_call, resolve, e0, Deferred.ofValue, invoke, Sem.run_bind, Sem.run_pure, Result.andThen_ok]
    simp only [Instr.yield, Sem.run_bind, run_getLoop hl, Result.andThen_ok]
    rw [if_neg (by
      have h1 : args.size = ps.size := by simpa [rds] using hlen
      simp [h1])]
    simp only [Sem.run_pure, Array.toList_map, ← Array.foldl_toList, Array.toList_zip, Array.empty_append, Array.append_empty]
  refine ⟨fun f _ => trivial, ?_⟩
  rw [Oper.semAt_eq _ _ _ (fun c => by simp), hrun, Oper.uponIn_round]
  refine ⟨fun h0 => (by cases h0), roundIn_of_wpIn trivial ?_⟩
  have hrel0 := hcut.enter (S := setPs (fun t => (S t).down) ps.toList (rds s.S args.toList)) (nt := nt) (hset.1.trans hsz) hset.2 (setPs_own _ _ (fun v hv u => by
    obtain ⟨x, _, rfl⟩ := List.mem_map.1 hv
    exact spare_down _ _) (fun t u => spare_down _ _))
  have h := it.round k _ ha _ hI ⟨w, Mine (cutN c φ) (cutH c s.H) w, Z, cutN c φ⟩ b' hcut.fresh
  refine wpIn_mono (h (cutN c φ) Z _ w hrel0) ?_
  rintro e a1 w1 ⟨s1, φ1, Z1, ⟨rfl, p1, S1, nt1, ps1, as1, bo1, hi1, hbody⟩, hr1⟩
  have hb1 : φ1 id = some b' := hr1.names id b' hb'
  obtain ⟨fn1, tmps1, d1, hl1, _, _, hset1⟩ := hr1.setLp hi1 hb1
  refine ⟨_, by simp only [Instr.beginRound, Sem.run_bind, run_getLoop hl1, run_setLoop hl1, Result.andThen_ok, Sem.run_pure]; rfl, ?_⟩
  refine wpIn_mono (hbody φ1 Z1 a1 _ (hset1 .busy p1)) ?_
  rintro e a2 w2 ⟨s2, φ2, Z2, hq, hr2⟩
  have hb2 : φ2 id = some b' := hr2.names id b' hb'
  cases e with
  | normal =>
    obtain ⟨st2, pend2, S2, nt2, ps2, as2, bo2, hi2, hcc, hp⟩ := hq
    rcases hp with ⟨_, H2, hI2, hsub⟩ | ⟨h, _⟩
    case inr => cases h
    obtain ⟨fn2, tmps2, d2, hl2, _, _, hset2⟩ := hr2.setLp hi2 hb2
    have hr3 := hset2 .ready none
    obtain ⟨k1, k2⟩ := hr3.leave
    obtain ⟨g1, g2⟩ := hr.hrel.glue hc (k1.less hsub) (k2.less hsub) (it.low _ _ hI2)
    have hr4 := hr.called g1 g2
    have hk := hK H2 hI2
    refine ⟨.bool true, _, by simp only [Instr.endRound, Sem.run_bind, run_getLoop hl2, run_setLoop hl2, Result.andThen_ok, Sem.run_pure]; rfl, ?_⟩
    cases dst with
    | none => exact hn _ _ Z2 _ _ hk hr4
    | some d => exact hn _ _ Z2 _ _ hk (hr4.put_down hr4.more_refl (hdn d rfl) (.s _) (fun p hs => by simp [spareOf] at hs))
  | ret =>
    obtain ⟨st2, pend2, S2, nt2, ps2, as2, bo2, hi2, hcc, hp⟩ := hq
    rcases hp with ⟨h, _⟩ | ⟨_, H2, h, _⟩
    · cases h
    · exact h.elim
  | exit j =>
    obtain ⟨st2, pend2, S2, nt2, ps2, as2, bo2, hi2, hcc, hp⟩ := hq
    rcases hp with ⟨h, _⟩ | ⟨_, H2, h, _⟩
    · cases h
    · exact h.elim
  | goto t => exact hq.elim
  | panic ch => exact hq.elim
  | outgrown => exact hq.elim
section
variable {X : Ctx} {s : St} {Q : Exit → St → Prop}
def RQN (lpB : LoopState → Option Code → B) (c : Nat) (I : Hp → Prop) : Exit → St → Prop
  | .normal, s => (∃ st p, s.H c = some (lpB st p)) ∧ c + 1 ≤ s.c ∧ Sub s.H I
  | _, _ => False
theorem Aw.iterN {g : Operand} {ps : Array Tmp} {asg body : Code} {f : Nat} {fst cap : List A} (hf : rd s.S g = .fn (.func f) fst cap) (he : Enters X.P f) (L : List (List A)) (I : Nat → Hp → Prop)
    (hps : (ps.toList.all fun t => Nat.blt t X.nt) = true) (hlen : ∀ as ∈ L, as.length = ps.size) (hS : ∀ t, Under s.c (s.S t)) (low : ∀ k H, I k H → Low s.c H)
    (iterf : ∀ {I' : Nat → Hp → Prop}, Iter X.P (s.c + 1) s.c (fun t => (s.S t).down) X.nt ps asg body L I' (fun _ => False) → ∀ H, I' 0 H →
      SCall X.P f ((fst ++ [.yl s.c]) ++ cap) H (s.c + 1) fun v H' c' => s.c + 1 ≤ c' ∧ Sub H' (I' L.length))
    (hI : I 0 s.H)
    (round : ∀ (lpB : LoopState → Option Code → B), (∀ st p, UnderB s.c (lpB st p)) → ∀ k as, L[k]? = some as → ∀ H, I k H → ∀ (E : En) (b : Nat), (∀ i, s.c + 1 ≤ i → E.φ0 i = none) →
      Aw (E.cx X.P X.nt) (some b) asg (fun e s1 => e = .normal ∧ s1.H s.c = some (lpB .ready none) ∧ Aw (E.cx X.P X.nt) (some b) body (RQN lpB s.c (I (k + 1))) { s1 with H := updH s1.H s.c (some (lpB .busy none)) })
        ⟨setPs (fun t => (s.S t).down.down) ps.toList as, updH H s.c (some (lpB .ready none)), s.c + 1⟩)
    (k1 : ∀ H c', s.c ≤ c' → Sub H (I L.length) → Q .normal ⟨s.S, H, c'⟩) : Aw X none (.rangeFunc g ps asg body) Q s := by
  let lpB : LoopState → Option Code → B := fun st p => .lp st p (fun t => (s.S t).down) X.nt ps asg body
  have ulp : ∀ st p, UnderB s.c (lpB st p) := fun st p => .lp _ _ _ _ _ _ _ fun t => (hS t).down
  let I' : Nat → Hp → Prop := fun k H => ∃ H0, I k H0 ∧ H = updH H0 s.c (some (lpB .ready none))
  have sub_ne : ∀ {H : Hp} {J : Hp → Prop} {b : B}, Sub H J → Sub (updH H s.c (some b)) fun H => ∃ H0, J H0 ∧ H = updH H0 s.c (some b) := by
    rintro H J b ⟨H0, h1, h2⟩
    refine ⟨_, ⟨H0, h1, rfl⟩, fun i bx hb => ?_⟩
    rw [updH_apply] at hb ⊢
    split
    · rename_i e; rw [if_pos e] at hb; exact hb
    · rename_i e; rw [if_neg e] at hb; exact h2 i bx hb
  have it : Iter X.P (s.c + 1) s.c (fun t => (s.S t).down) X.nt ps asg body L I' (fun _ => False) := {
    pok := fun t ht => by have := List.all_eq_true.1 hps t ht; simpa [Nat.blt_eq] using this
    len := hlen
    lp := by
      rintro k H ⟨H0, _, rfl⟩
      exact ⟨none, updH_same _ _ _⟩
    low := by
      rintro k H ⟨H0, h0, rfl⟩ id bx hb
      rw [updH_apply] at hb
      split at hb
      · rename_i e; cases hb; exact ⟨by omega, (ulp _ _).mono (Nat.le_succ _)⟩
      · have := low k H0 h0 id bx hb; exact ⟨by omega, this.2.mono (Nat.le_succ _)⟩
    round := by
      rintro k as ha H ⟨H0, h0, rfl⟩ E b hE
      refine (round lpB ulp k as ha H0 h0 E b hE).mono ?_
      rintro e s1 ⟨rfl, h1, h2⟩
      refine ⟨rfl, none, _, _, _, _, _, h1, h2.mono fun e2 s2 h3 => ?_⟩
      cases e2 with
      | normal =>
        obtain ⟨⟨st, p, hl⟩, hc, hsub⟩ := h3
        exact ⟨st, p, _, _, _, _, _, hl, hc, .inl ⟨rfl, sub_ne hsub⟩⟩
      | ret => exact h3.elim
      | exit j => exact h3.elim
      | goto t => exact h3.elim
      | panic ch => exact h3.elim
      | outgrown => exact h3.elim }
  refine Aw.rangeFunc hf he (iterf it (updH s.H s.c (some (lpB .ready none))) ⟨s.H, hI, rfl⟩) ?_
  rintro v H' c' ⟨hc, hs⟩
  obtain ⟨H1, ⟨H0, h0, rfl⟩, hs⟩ := hs
  refine ⟨_, none, _, _, _, _, _, hs s.c _ (updH_same _ _ _), by decide, k1 _ _ (by omega) ⟨H0, h0, fun i bx hb => ?_⟩⟩
  have hi := (low _ _ h0 i bx hb).1
  rw [updH_other _ _ (by omega)]
  exact hs i bx (by rw [updH_other _ _ (by omega)]; exact hb)
end
end Go.AL

namespace Go.AL
open Go Go.RowKit
theorem inv_gs {φ : Names} {Z : Still} {w : World} {id n cap : Nat} {u : Value} (h : VR φ Z w (.gs id n cap) u) : ∃ b, u = .slice (some ⟨b, 0, none⟩) n cap ∧ φ id = some b ∧ n ≤ cap ∧ cap ≤ maxLen := by
  cases h with | gs _ _ _ b h hc hm => exact ⟨b, rfl, h, hc, hm⟩
theorem A.Le.ms (id n cap : Nat) : A.Le (.ms id 0 n) (.gs id n cap) :=
  ⟨fun φ Z w v h => by obtain ⟨b, rfl, hb, h1, h2⟩ := inv_gs h; exact .ms id 0 n b cap hb h1 h2, fun v p h => by simp [spareOf] at h⟩
theorem VRc.app {φ : Names} {Z : Still} {w : World} {l m : List A} {us vs : Array Value} (h1 : VRc φ Z w l us) (h2 : VRc φ Z w m vs) : VRc φ Z w (l ++ m) (us ++ vs) := by
  refine ⟨by rw [Array.size_append, List.length_append, h1.1, h2.1], fun i hi => ?_⟩
  rw [List.length_append] at hi
  by_cases h : i < l.length
  · have e1 : (us ++ vs).getD i undef = us.getD i undef := by
      rw [Array.getD_eq_getD_getElem?, Array.getD_eq_getD_getElem?, Array.getElem?_append_left (by rw [h1.1]; exact h)]
    have e2 : (l ++ m).getD i .un = l.getD i .un := by rw [List.getD_eq_getElem?_getD, List.getD_eq_getElem?_getD, List.getElem?_append_left h]
    rw [e1, e2]; exact h1.2 i h
  · have e1 : (us ++ vs).getD i undef = vs.getD (i - l.length) undef := by
      rw [Array.getD_eq_getD_getElem?, Array.getD_eq_getD_getElem?, Array.getElem?_append_right (by rw [h1.1]; omega), h1.1]
    have e2 : (l ++ m).getD i .un = m.getD (i - l.length) .un := by rw [List.getD_eq_getElem?_getD, List.getD_eq_getElem?_getD, List.getElem?_append_right (by omega)]
    rw [e1, e2]; exact h2.2 _ (by omega)
theorem VRc.junk {φ : Names} {Z : Still} {w : World} {t : Ty} {n : Nat} {cs : List A} {z : Value} (h : zeroFits t n cs z) (h0 : 0 < n) (k : Nat) : VRc φ Z w (List.replicate (k * n) .un) (Builtin.zeroCells z.cells k) := by
  have hz := zero_vrc (φ := φ) (Z := Z) (w := w) h
  refine ⟨by rw [size_zeroCells, List.length_replicate, h.1], fun i hi => ⟨?_, ?_⟩⟩
  · rw [List.length_replicate] at hi
    have hm : i % n < n := Nat.mod_lt _ h0
    have h5 : i % n < z.cells.size := by rw [h.1]; exact hm
    have g1 : (Builtin.zeroCells z.cells k).getD i undef = z.cells.getD (i % n) undef := by
      unfold Builtin.zeroCells
      simp [Array.getD_eq_getD_getElem?, h.1, hi, h5, getElem!_pos z.cells (i % n) h5]
      rw [Array.getElem?_eq_getElem h5]; rfl
    rw [g1]
    exact (hz.2 (i % n) (by rw [h.2.1]; exact hm)).1
  · rw [List.length_replicate] at hi
    simp [List.getD_eq_getElem?_getD, hi]
    exact .un _
theorem rows_vrc {φ : Names} {Z : Still} {w : World} {es : List (List A)} {sz : Nat} {vals : List Value} (hs : ∀ z ∈ es, z.length = sz) (hl : vals.length = es.length * sz) (h1 : ∀ x ∈ vals, x.oneCell' = true)
    (h : ∀ i j, i < es.length → j < sz → VR φ Z w ((es.getD i []).getD j .un) (vals.getD (i * sz + j) undef)) : VRc φ Z w es.flatten vals.toArray := by
  have hfl := flat_len hs
  refine ⟨by rw [List.size_toArray, hfl, hl], fun k hk => ?_⟩
  rw [hfl] at hk
  have h0 : 0 < sz := Nat.pos_of_ne_zero fun e => by subst e; simp at hk
  have hk2 : k < vals.length := by omega
  refine ⟨?_, ?_⟩
  · have := h1 (vals[k]) (List.getElem_mem hk2)
    simpa [Array.getD, hk2] using this
  · rw [flat_get hs k hk]
    have h8 := h (k / sz) (k % sz) (Nat.div_lt_of_lt_mul (by rw [Nat.mul_comm]; exact hk)) (Nat.mod_lt _ h0)
    rw [Nat.div_add_mod' k sz] at h8
    simpa [Array.getD_eq_getD_getElem?, List.getD_eq_getElem?_getD] using h8
theorem down_junk (l : List A) (k : Nat) : (l ++ List.replicate k A.un).map A.down = l.map A.down ++ List.replicate k A.un := by
  rw [List.map_append, List.map_replicate]; rfl
section
variable {X : Ctx} {T : Tab} {r : Option Nat} {s : St} {o : Oper} {K : St → Prop}
theorem DoesR.appNil (hT : T.Ok X.P) {d t e : Nat} {x y : Operand} {cap1 : Cap} {nil2 : Bool} {cap2 : Cap} {ys : List (List A)} (ho : o.op = .call { callee := .builtin .append, args := #[x, y], argTypes := #[t, t] }) (hd : o.dst = some d)
    (ht : T.ty t = .slice e) (he : T.ty e ≠ .none) (h0 : 0 < T.sz e) (hx : rd s.S x = .sl true cap1 []) (hy : rd s.S y = .sl nil2 cap2 ys)
    (hne : ys ≠ []) (hs : ∀ z ∈ ys, z.length = T.sz e) (hb : ys.length * T.by' e ≤ 140737488355328) (hm : ys.length ≤ maxLen)
    (k : ∀ cap, ys.length ≤ cap → K ⟨upd s.S d (.gs s.c ys.length cap), updH s.H s.c (some (.cells (ys.flatten.map A.down ++ List.replicate ((cap - ys.length) * T.sz e) .un))), s.c + 1⟩) : DoesR X r o s K := by
  intro hdn φ Z a w hr next Q hn
  obtain ⟨dst, op, ty, pos, aft, gd⟩ := o
  simp only at ho hd
  subst ho; subst hd
  obtain ⟨i, hi, hi1, hi2, z, hiz, hzf⟩ := hT.inf e he
  have hvx := hx ▸ hr.sees.rd x
  have hvy := hy ▸ hr.sees.rd y
  have hev : (#[x, y] : Array Operand).map a.eval = #[a.eval x, a.eval y] := by simp
  have hpos : 0 < ys.length := by cases ys with | nil => exact absurd rfl hne | cons y ys => simp
  have hn2 : nil2 = false := by
    rcases inv_sl hvy with ⟨_, h1, _⟩ | ⟨h1, _⟩ | ⟨h1, _⟩
    · exact absurd h1 hne
    · exact h1
    · exact h1
  subst hn2
  obtain ⟨by1, offy, cy, valsy, ey, ky1, ky2, ky3, ky4, ky5, ky6, ky7, ky8⟩ := sl_flat hvy hne hs
  have ex : a.eval x = .slice none 0 0 := by
    rcases inv_sl hvx with ⟨_, _, h⟩ | ⟨h, _⟩ | ⟨h, _⟩
    · exact h
    · cases h
    · cases h
  have hnews : ∀ j x, valsy[j]? = some x → w.cell? ((⟨by1, offy, none⟩ : Addr).add j) = some x := fun j x hj => by rw [add_addr]; exact ky6 j x hj
  have hsmall : ((ys.length : Nat) : Int) ≤ 9223372036854775807 := by simp only [maxLen] at hm; omega
  have hrun := run_append_nil (P := X.P) w t ty e i z (und_slice hT ht) hi hiz ⟨by1, offy, none⟩ ys.length cy valsy (by rw [ky4, hi1]) hnews hpos hsmall (by rw [hi2]; omega)
  have hge := grownCap_ge w ys.length 0 e
  have hcm := grownCap_le_maxLen w ys.length 0 e (by simpa using hm)
  generalize hcap : grownCap w ys.length 0 e = cap at *
  have hfl := flat_len hs
  have hr1 : Rel X φ Z s a w.drew := hr.drew _
  have hvc : VRc φ Z w.drew (ys.flatten ++ List.replicate ((cap - ys.length) * T.sz e) .un) (valsy.toArray ++ Builtin.zeroCells z.cells (cap - ys.length)) := by
    refine VRc.app (rows_vrc hs ky4 ky7 fun i j hi hj => ?_) (VRc.junk hzf h0 _)
    exact VR.mono (φ := φ) (φ' := φ) (Z := Z) (Z' := Z) (w := w) (w' := w.drew) (fun _ _ h => h) (fun _ _ h => h) (fun b o _ => rfl) (ky8 i j hi hj)
  have hnm := hr.fresh _ (Nat.le_refl s.c)
  have h2 := hr1.newCells (ty := e) (hdn d rfl) hnm (Nat.le_succ _) (Nat.lt_succ_self _) hvc (x := .gs s.c ys.length cap) (u := .slice (some ⟨w.heap.size, 0, none⟩) ys.length cap) (.gs _ _ _ _ (by simp) hge hcm) (fun p => by simp [spareOf])
  rw [down_junk] at h2
  refine wp_run (fun c => by simp) ?_ (hn _ _ Z _ _ (k cap hge) h2)
  rw [ex_builtin, bi_append, Sem.run_bind, hev, ex, ey, hrun]; rfl
theorem run_append_roomT (P : Program) (w : World) (t ty e ty' : TypeId) (i : TypeInfo) (ht : P.underlying t = some (.slice e)) (hi : P.info? e = some i)
    (g sLen sCap : Nat) (cur : Array Value) (hg : w.heap[g]? = some (.cells cur ty' (0, 0)))
    (a : Addr) (m c : Nat) (news : List Value) (hl : news.length = m * i.size) (hnews : ∀ j u, news[j]? = some u → w.cell? (a.add j) = some u) (h1 : ∀ u ∈ news, u.oneCell' = true)
    (hroom : sLen + m ≤ sCap) (hfit : sLen * i.size + news.length ≤ cur.size) :
    (Builtin.append_ #[t, t] ty #[.slice (some ⟨g, 0, none⟩) sLen sCap, .slice (some a) m c]).run P w =
      .ok (.slice (some ⟨g, 0, none⟩) (sLen + m) sCap) (w.setRow g (cur.toList.take (sLen * i.size) ++ news ++ cur.toList.drop (sLen * i.size + news.length)).toArray) := by
  have hf := run_firstCells_some (P := P) w i.size m a m c news hl hnews
  have hst := run_storeCells_at P g (sLen * i.size) ty' news 0 cur w hg (by simpa using hfit) h1
  simp only [Nat.add_zero] at hst
  simp [Builtin.append_, run_underlying ht, sizeOf, typeInfo, hi, Builtin.lenOf, hroom, hf, Addr.add_lit, hst]
theorem DoesR.appGs (hT : T.Ok X.P) {d t e id n cap : Nat} {x y : Operand} {nil2 : Bool} {cap2 : Cap} {ys : List (List A)} {cs : List A} (ho : o.op = .call { callee := .builtin .append, args := #[x, y], argTypes := #[t, t] }) (hd : o.dst = some d)
    (ht : T.ty t = .slice e) (he : T.ty e ≠ .none) (h0 : 0 < T.sz e) (hx : rd s.S x = .gs id n cap) (hi : s.H id = some (.cells cs)) (hcl : cs.length = cap * T.sz e) (hy : rd s.S y = .sl nil2 cap2 ys)
    (hne : ys ≠ []) (hs : ∀ z ∈ ys, z.length = T.sz e) (hb : (n + ys.length) * T.by' e ≤ 140737488355328) (hm : n + ys.length ≤ maxLen)
    (k1 : n + ys.length ≤ cap → K ⟨upd s.S d (.gs id (n + ys.length) cap), updH s.H id (some (.cells (setSeg cs (n * T.sz e) (ys.flatten.map A.down)))), s.c⟩)
    (k2 : ∀ cap', n + ys.length ≤ cap' → K ⟨upd s.S d (.gs s.c (n + ys.length) cap'), updH s.H s.c (some (.cells ((cs.take (n * T.sz e)).map A.down ++ ys.flatten.map A.down ++ List.replicate ((cap' - (n + ys.length)) * T.sz e) .un))), s.c + 1⟩) : DoesR X r o s K := by
  intro hdn φ Z a w hr next Q hn
  obtain ⟨dst, op, ty, pos, aft, gd⟩ := o
  simp only at ho hd
  subst ho; subst hd
  obtain ⟨i, hif, hi1, hi2, z, hiz, hzf⟩ := hT.inf e he
  have hvy := hy ▸ hr.sees.rd y
  obtain ⟨b, ex, hbk, hnc, hcm0⟩ := inv_gs (hx ▸ hr.sees.rd x)
  have hev : (#[x, y] : Array Operand).map a.eval = #[a.eval x, a.eval y] := by simp
  have hpos : 0 < ys.length := by cases ys with | nil => exact absurd rfl hne | cons y ys => simp
  have hn2 : nil2 = false := by
    rcases inv_sl hvy with ⟨_, h1, _⟩ | ⟨h1, _⟩ | ⟨h1, _⟩
    · exact absurd h1 hne
    · exact h1
    · exact h1
  subst hn2
  obtain ⟨by1, offy, cy, valsy, ey, ky1, ky2, ky3, ky4, ky5, ky6, ky7, ky8⟩ := sl_flat hvy hne hs
  have hnews : ∀ j x, valsy[j]? = some x → w.cell? ((⟨by1, offy, none⟩ : Addr).add j) = some x := fun j x hj => by rw [add_addr]; exact ky6 j x hj
  have hfl := flat_len hs
  have hle : n * T.sz e ≤ cs.length := by rw [hcl]; exact Nat.mul_le_mul_right _ hnc
  by_cases hroom : n + ys.length ≤ cap
  · have hfit : n * T.sz e + (ys.flatten.map A.down).length ≤ cs.length := by
      rw [List.length_map, hfl, hcl, ← Nat.add_mul]; exact Nat.mul_le_mul_right _ hroom
    have hv : VRc φ Z w (ys.flatten.map A.down) valsy.toArray := VRc.down (rows_vrc hs ky4 ky7 ky8)
    obtain ⟨c, ty', hblk, hsz, hrel⟩ := hr.setCells hi hbk hv (off := n * T.sz e) hfit (fun j b1 e hj hs => by rw [getD_map_dn, spare_down] at hs; cases hs)
    have h2 := hrel.put_down hrel.more_refl (hdn d rfl) (x := .gs id (n + ys.length) cap) (v := .slice (some ⟨b, 0, none⟩) (n + ys.length) cap) (.gs _ _ _ _ hbk hroom hcm0) (fun p => by simp [spareOf])
    have hrun := run_append_roomT X.P w t ty e ty' i (und_slice hT ht) hif b n cap c hblk ⟨by1, offy, none⟩ ys.length cy valsy (by rw [ky4, hi1]) hnews ky7 hroom (by rw [hi1]; simpa using hsz)
    rw [hi1] at hrun
    refine wp_run (fun c => by simp) ?_ (hn _ _ Z _ _ (k1 hroom) h2)
    rw [ex_builtin, bi_append, Sem.run_bind, hev, ex, ey, hrun]; rfl
  · obtain ⟨c, ty', hblk, hlen, hcell⟩ := hr.bl hi hbk
    have hsmall : ((n + ys.length : Nat) : Int) ≤ 9223372036854775807 := by simp only [maxLen] at hm; omega
    have hns : n * T.sz e ≤ c.size := by omega
    have hol : (c.toList.take (n * T.sz e)).length = n * i.size := by rw [hi1]; simp; omega
    have holds : ∀ j v, (c.toList.take (n * T.sz e))[j]? = some v → w.cell? ((⟨b, 0, none⟩ : Addr).add j) = some v := fun j v hj => by
      rw [add_addr, Nat.zero_add]
      rw [List.getElem?_take] at hj
      split at hj
      · simp only [World.cell?, hblk, Option.isSome_none, Bool.false_eq_true, if_false]; simpa using hj
      · cases hj
    have hrun := run_append_grow (P := X.P) w t ty e i z (und_slice hT ht) hif hiz ⟨b, 0, none⟩ n cap (c.toList.take (n * T.sz e)) hol holds ⟨by1, offy, none⟩ ys.length cy valsy (by rw [ky4, hi1]) hnews (by omega) hsmall (growslice_fits (by omega) (by rw [hi2]; exact hb))
    have hge := grownCap_ge w (n + ys.length) cap e
    have hcm := grownCap_le_maxLen w (n + ys.length) cap e (by simpa using hm)
    generalize hcap : grownCap w (n + ys.length) cap e = cap' at *
    have hr1 : Rel X φ Z s a w.drew := hr.drew _
    have up : ∀ {x : A} {v : Value}, VR φ Z w x v → VR φ Z w.drew x v := fun h => VR.mono (φ := φ) (φ' := φ) (Z := Z) (Z' := Z) (w := w) (w' := w.drew) (fun _ _ h => h) (fun _ _ h => h) (fun b o _ => rfl) h
    have hvo : VRc φ Z w.drew (cs.take (n * T.sz e)) (c.toList.take (n * T.sz e)).toArray := by
      refine ⟨by simp; omega, fun j hj => ?_⟩
      have hj1 : j < n * T.sz e := by rw [List.length_take] at hj; omega
      have hj2 : j < c.size := by omega
      have e1 : ((c.toList.take (n * T.sz e)).toArray).getD j undef = c.getD j undef := by
        simp [Array.getD_eq_getD_getElem?, List.getElem?_take, hj1]
      have e2 : (cs.take (n * T.sz e)).getD j .un = cs.getD j .un := by simp [List.getD_eq_getElem?_getD, List.getElem?_take, hj1]
      rw [e1, e2]
      have := hcell j (by omega)
      exact ⟨this.2, up this.1⟩
    have hvc : VRc φ Z w.drew (cs.take (n * T.sz e) ++ ys.flatten ++ List.replicate ((cap' - (n + ys.length)) * T.sz e) .un) ((c.toList.take (n * T.sz e)).toArray ++ valsy.toArray ++ Builtin.zeroCells z.cells (cap' - (n + ys.length))) :=
      VRc.app (VRc.app hvo (rows_vrc hs ky4 ky7 fun i j hi hj => up (ky8 i j hi hj))) (VRc.junk hzf h0 _)
    have hnm := hr.fresh _ (Nat.le_refl s.c)
    have h2 := hr1.newCells (ty := e) (hdn d rfl) hnm (Nat.le_succ _) (Nat.lt_succ_self _) hvc (x := .gs s.c (n + ys.length) cap') (u := .slice (some ⟨w.heap.size, 0, none⟩) (n + ys.length) cap') (.gs _ _ _ _ (by simp) hge hcm) (fun p => by simp [spareOf])
    rw [down_junk, List.map_append] at h2
    refine wp_run (fun c => by simp) ?_ (hn _ _ Z _ _ (k2 cap' hge) h2)
    rw [ex_builtin, bi_append, Sem.run_bind, hev, ex, ey, hrun]; rfl
end
section
variable {X : Ctx} {r : Option Nat} {φ : Names} {Z : Still} {s : St} {a : Act} {w : World} {Q : Exit → St → Prop}
end
end Go.AL

namespace Go.AL
open Go Go.RowKit
def cutD (D : Nat → Bool) (φ : Names) : Names := fun id => if D id = true then φ id else none
def cutHD (D : Nat → Bool) (H : Hp) : Hp := fun id => if D id = true then H id else none
def glueND (D : Nat → Bool) (φ' φ : Names) : Names := fun id => if D id = true then φ' id else φ id
def glueHD (D : Nat → Bool) (H' H : Hp) : Hp := fun id => if D id = true then H' id else H id
theorem cutD_up {D : Nat → Bool} {φ : Names} {id b : Nat} (h : cutD D φ id = some b) : φ id = some b ∧ D id = true := by
  unfold cutD at h; split at h
  · exact ⟨h, by assumption⟩
  · cases h
def InD (D : Nat → Bool) (H : Hp) : Prop := ∀ id bx, H id = some bx → D id = true ∧ NmsB (fun i => D i = true) bx
theorem cutHD_some {D : Nat → Bool} {H : Hp} {id : Nat} (h : (cutHD D H id).isSome = true) : D id = true ∧ (H id).isSome = true ∧ cutHD D H id = H id := by
  unfold cutHD at h ⊢
  split at h
  · rename_i h1; exact ⟨h1, h, if_pos h1⟩
  · cases h
section
variable {P : Program} {D : Nat → Bool} {φ φ' : Names} {Z Z' : Still} {H H' : Hp} {c c2 c3 c' : Nat} {w w' : World}
theorem HRel.cutD (hr : HRel P φ Z H c2 w) (low : InD D (cutHD D H)) (hfr : ∀ id, c ≤ id → D id = true → c2 ≤ id) : HRel P (AL.cutD D φ) Z (cutHD D H) c w := by
  have φin : ∀ id, D id = true → AL.cutD D φ id = φ id := fun id hi => by unfold AL.cutD; rw [if_pos hi]
  have φout : ∀ id b, AL.cutD D φ id = some b → φ id = some b := fun id b hb => (cutD_up hb).1
  have absS : ∀ id j, D id = true → absAt ⟨fun _ => .un, cutHD D H, c⟩ (.box id j) = absAt ⟨fun _ => .un, H, c2⟩ (.box id j) := fun id j hi => by simp only [absAt, cutHD, if_pos hi]
  have conS : ∀ id j w, D id = true → conAt (AL.cutD D φ) ⟨#[], []⟩ w (.box id j) = conAt φ ⟨#[], []⟩ w (.box id j) := fun id j w hi => by simp only [conAt, φin id hi]
  have abs_some : ∀ {id j : Nat} {v : Value} {p : Nat × Nat}, spareOf (absAt ⟨fun _ => .un, cutHD D H, c⟩ (.box id j)) v = some p → D id = true := fun {id j v p} hs => by
    cases e : cutHD D H id with
    | some b => exact (cutHD_some (by rw [e]; rfl)).1
    | none => simp [absAt, e, spareOf] at hs
  exact {
    boxes := fun id bx hb => by
      obtain ⟨h1, h2, h3⟩ := cutHD_some (D := D) (H := H) (id := id) (by rw [hb]; rfl)
      obtain ⟨b, k1, k2⟩ := hr.boxes id bx (h3 ▸ hb)
      exact ⟨b, by rw [φin id h1]; exact k1, k2.nms (low id bx hb).2 fun i b hi hb => by rw [φin i hi]; exact hb⟩
    inj := fun id id' b hi hi' h1 h2 => hr.inj id id' b (cutHD_some hi).2.1 (cutHD_some hi').2.1 (φout _ _ h1) (φout _ _ h2)
    zok := hr.zok
    zbox := fun b o id hz hi hb => hr.zbox b o id hz (cutHD_some hi).2.1 (φout _ _ hb)
    own1 := fun id j b e hl => by
      have hi := abs_some hl
      rw [absS id j hi, conS id j w hi] at hl
      obtain ⟨k0, k⟩ := hr.own1 id j b e hl
      rw [conS id j w hi]
      exact ⟨fun i hi hb => k0 i (cutHD_some hi).2.1 (φout _ _ hb), k⟩
    own2 := fun id j id' j' b e e' hl hl' => by
      have hi := abs_some hl
      have hi' := abs_some hl'
      rw [absS id j hi, conS id j w hi] at hl
      rw [absS id' j' hi', conS id' j' w hi'] at hl'
      exact hr.own2 id j id' j' b e e' hl hl'
    fresh := fun id hi => by
      unfold AL.cutD
      split
      · rename_i h1; exact hr.fresh id (hfr id hi h1)
      · rfl }
theorem HRel.glueD (hr : HRel P φ Z H c2 w) (hc : c2 ≤ c3) (hr' : HRel P φ' Z' H' c' w') (g : Grew P (AL.cutD D φ) φ' Z Z' (cutHD D H) H' w w') (low' : InD D H') (hfr : ∀ id, c3 ≤ id → D id = true → c' ≤ id) :
    HRel P (glueND D φ' φ) Z' (glueHD D H' H) c3 w' ∧ Grew P φ (glueND D φ' φ) Z Z' H (glueHD D H' H) w w' := by
  have φin : ∀ id, D id = true → AL.cutD D φ id = φ id := fun id hi => by unfold AL.cutD; rw [if_pos hi]
  have φout : ∀ id b, AL.cutD D φ id = some b → φ id = some b := fun id b hb => (cutD_up hb).1
  have gin : ∀ id, D id = true → glueND D φ' φ id = φ' id := fun id hi => by unfold glueND; rw [if_pos hi]
  have gout : ∀ id, ¬ D id = true → glueND D φ' φ id = φ id := fun id hi => by unfold glueND; rw [if_neg hi]
  have hin : ∀ id, D id = true → glueHD D H' H id = H' id := fun id hi => by unfold glueHD; rw [if_pos hi]
  have hout : ∀ id, ¬ D id = true → glueHD D H' H id = H id := fun id hi => by unfold glueHD; rw [if_neg hi]
  have cin : ∀ id, D id = true → cutHD D H id = H id := fun id hi => by unfold cutHD; rw [if_pos hi]
  have names : ∀ id b, φ id = some b → glueND D φ' φ id = some b := fun id b hb => by
    by_cases hi : D id = true
    · rw [gin id hi]; exact g.names id b (by rw [φin id hi]; exact hb)
    · rw [gout id hi]; exact hb
  have abs_some : ∀ {Hx : Hp} {k id j : Nat} {v : Value} {p : Nat × Nat}, spareOf (absAt ⟨fun _ => .un, Hx, k⟩ (.box id j)) v = some p → (Hx id).isSome = true := fun {Hx k id j v p} hs => by
    cases e : Hx id with
    | some b => rfl
    | none => simp [absAt, e, spareOf] at hs
  have mineS : ∀ b, Mine (AL.cutD D φ) (cutHD D H) w b → Mine φ H w b := fun b hm => by
    rcases hm with ⟨id, h1, h2⟩ | ⟨id, j, e, h1⟩
    · exact .inl ⟨id, (cutHD_some h1).2.1, φout _ _ h2⟩
    · have hi := (cutHD_some (abs_some h1)).1
      refine .inr ⟨id, j, e, ?_⟩
      simp only [absAt, conAt, φin id hi, cin id hi] at h1 ⊢
      exact h1
  have boxOut : ∀ id b, (H id).isSome = true → ¬ D id = true → φ id = some b → ¬ Mine (AL.cutD D φ) (cutHD D H) w b := fun id b h1 h2 h3 hm => by
    rcases hm with ⟨i, k1, k2⟩ | ⟨i, j, e, k1⟩
    · have := hr.inj id i b h1 (cutHD_some k1).2.1 h3 (φout _ _ k2)
      subst this; exact h2 (cutHD_some k1).1
    · have hi := (cutHD_some (abs_some k1)).1
      have k1' : spareOf (absAt ⟨fun _ => .un, H, c2⟩ (.box i j)) (conAt φ ⟨#[], []⟩ w (.box i j)) = some (b, e) := by
        simp only [absAt, conAt, φin i hi, cin i hi] at k1 ⊢; exact k1
      exact (hr.own1 i j b e k1').1 id h1 h3
  have spareOut : ∀ id j b e, ¬ D id = true → spareOf (absAt ⟨fun _ => .un, H, c2⟩ (.box id j)) (conAt φ ⟨#[], []⟩ w (.box id j)) = some (b, e) → ¬ Mine (AL.cutD D φ) (cutHD D H) w b := fun id j b e h1 h2 hm => by
    rcases hm with ⟨i, k1, k2⟩ | ⟨i, j', e', k1⟩
    · exact (hr.own1 id j b e h2).1 i (cutHD_some k1).2.1 (φout _ _ k2)
    · have hi := (cutHD_some (abs_some k1)).1
      have k1' : spareOf (absAt ⟨fun _ => .un, H, c2⟩ (.box i j')) (conAt φ ⟨#[], []⟩ w (.box i j')) = some (b, e') := by
        simp only [absAt, conAt, φin i hi, cin i hi] at k1 ⊢; exact k1
      have := hr.own2 id j i j' b e e' h2 k1'
      cases this; exact h1 hi
  have blt : ∀ id b, (H id).isSome = true → φ id = some b → b < w.heap.size := fun id b h1 h2 => by
    obtain ⟨bx, hbx⟩ := Option.isSome_iff_exists.1 h1
    obtain ⟨b0, h3, h4⟩ := hr.boxes id bx hbx
    rw [h2] at h3; cases h3; exact h4.lt
  have keep : ∀ b, b < w.heap.size → ¬ Mine (AL.cutD D φ) (cutHD D H) w b → w'.heap[b]? = w.heap[b]? := g.frame
  have conO : ∀ id j, (H id).isSome = true → ¬ D id = true → conAt (glueND D φ' φ) ⟨#[], []⟩ w' (.box id j) = conAt φ ⟨#[], []⟩ w (.box id j) := fun id j h1 h2 => by
    cases e : φ id with
    | none => simp only [conAt, gout id h2, e]
    | some b =>
      simp only [conAt, gout id h2, e]
      rw [World.cell?_of_block (w := w) (w' := w') (a := ⟨b, j, none⟩) (keep b (blt id b h1 e) (boxOut id b h1 h2 e))]
  have absO : ∀ id j, ¬ D id = true → absAt ⟨fun _ => .un, glueHD D H' H, c3⟩ (.box id j) = absAt ⟨fun _ => .un, H, c2⟩ (.box id j) := fun id j h2 => by simp only [absAt, hout id h2]
  have absI : ∀ id j, D id = true → absAt ⟨fun _ => .un, glueHD D H' H, c3⟩ (.box id j) = absAt ⟨fun _ => .un, H', c'⟩ (.box id j) := fun id j h2 => by simp only [absAt, hin id h2]
  have conI : ∀ id j, D id = true → conAt (glueND D φ' φ) ⟨#[], []⟩ w' (.box id j) = conAt φ' ⟨#[], []⟩ w' (.box id j) := fun id j h2 => by simp only [conAt, gin id h2]
  have domO : ∀ {id j : Nat} {v : Value} {p : Nat × Nat}, spareOf (absAt ⟨fun _ => .un, glueHD D H' H, c3⟩ (.box id j)) v = some p → ¬ D id = true → (H id).isSome = true := fun {id j v p} hs hi => by
    have := abs_some hs
    change (glueHD D H' H id).isSome = true at this
    rwa [hout id hi] at this
  have mineO : ∀ id j b e, spareOf (absAt ⟨fun _ => .un, glueHD D H' H, c3⟩ (.box id j)) (conAt (glueND D φ' φ) ⟨#[], []⟩ w' (.box id j)) = some (b, e) → ¬ D id = true →
      spareOf (absAt ⟨fun _ => .un, H, c2⟩ (.box id j)) (conAt φ ⟨#[], []⟩ w (.box id j)) = some (b, e) := fun id j b e hl hi => by
    have h1 := domO hl hi
    rw [absO id j hi, conO id j h1 hi] at hl; exact hl
  have mineI : ∀ id j b e, spareOf (absAt ⟨fun _ => .un, glueHD D H' H, c3⟩ (.box id j)) (conAt (glueND D φ' φ) ⟨#[], []⟩ w' (.box id j)) = some (b, e) → D id = true →
      spareOf (absAt ⟨fun _ => .un, H', c'⟩ (.box id j)) (conAt φ' ⟨#[], []⟩ w' (.box id j)) = some (b, e) := fun id j b e hl hi => by
    rw [absI id j hi, conI id j hi] at hl; exact hl
  have newBox : ∀ id b, (H' id).isSome = true → φ' id = some b → Mine (AL.cutD D φ) (cutHD D H) w b ∨ w.heap.size ≤ b := fun id b h1 h2 => g.mine b (.inl ⟨id, h1, h2⟩)
  have newMine : ∀ id j b e, spareOf (absAt ⟨fun _ => .un, H', c'⟩ (.box id j)) (conAt φ' ⟨#[], []⟩ w' (.box id j)) = some (b, e) → Mine (AL.cutD D φ) (cutHD D H) w b ∨ w.heap.size ≤ b := fun id j b e hl => g.mine b (.inr ⟨id, j, e, by simpa only [absAt] using hl⟩)
  have spLt : ∀ {s : St} {φ : Names} {Z : Still} {w : World} {v : Value} {b e : Nat}, SpareOk P s φ Z w v b e → b < w.heap.size := fun hk => by
    obtain ⟨_, _, _, _, _, _, _, k3, _⟩ := hk; exact lt_of_block k3
  have isI : ∀ id, D id = true → (glueHD D H' H id).isSome = true → (H' id).isSome = true := fun id hi h => by rwa [hin id hi] at h
  have isO : ∀ id, ¬ D id = true → (glueHD D H' H id).isSome = true → (H id).isSome = true := fun id hi h => by rwa [hout id hi] at h
  have apart : ∀ i o b, D i = true → (glueHD D H' H i).isSome = true → ¬ D o = true → (glueHD D H' H o).isSome = true → φ' i = some b → φ o = some b → False := fun i o b hi h1 ho h2 h3 h4 => by
    have k2 := isO o ho h2
    have hlt := blt o b k2 h4
    exact (newBox i b (isI i hi h1) h3).elim (boxOut o b k2 ho h4) (fun h5 => by omega)
  refine ⟨{
    boxes := fun id bx hb => by
      by_cases hi : D id = true
      · rw [hin id hi] at hb
        obtain ⟨b, h1, h2⟩ := hr'.boxes id bx hb
        exact ⟨b, by rw [gin id hi]; exact h1, h2.nms (low' id bx hb).2 fun i b hi hb => by rw [gin i hi]; exact hb⟩
      · rw [hout id hi] at hb
        obtain ⟨b, h1, h2⟩ := hr.boxes id bx hb
        exact ⟨b, by rw [gout id hi]; exact h1, h2.mono names (fun b o hz => (g.up b o hz).1) (fun b o hz => (g.up b o hz).2) (keep b h2.lt (boxOut id b (by rw [hb]; rfl) hi h1))⟩
    inj := fun id id' b hi hi' h1 h2 => by
      by_cases k1 : D id = true <;> by_cases k2 : D id' = true
      · rw [gin id k1] at h1; rw [gin id' k2] at h2
        exact hr'.inj id id' b (isI id k1 hi) (isI id' k2 hi') h1 h2
      · rw [gin id k1] at h1; rw [gout id' k2] at h2
        exact (apart id id' b k1 hi k2 hi' h1 h2).elim
      · rw [gout id k1] at h1; rw [gin id' k2] at h2
        exact (apart id' id b k2 hi' k1 hi h2 h1).elim
      · rw [gout id k1] at h1; rw [gout id' k2] at h2
        exact hr.inj id id' b (isO id k1 hi) (isO id' k2 hi') h1 h2
    zok := hr'.zok
    zbox := fun b o id hz hi hb => by
      by_cases h1 : D id = true
      · rw [gin id h1] at hb
        exact hr'.zbox b o id hz (isI id h1 hi) hb
      · rw [gout id h1] at hb
        have h2 := isO id h1 hi
        have hlt := blt id b h2 hb
        exact (g.back b o hz hlt).elim (fun h3 => hr.zbox b o id h3 h2 hb) (boxOut id b h2 h1 hb)
    own1 := fun id j b e hl => by
      by_cases hi : D id = true
      · have hl' := mineI id j b e hl hi
        obtain ⟨k0, k⟩ := hr'.own1 id j b e hl'
        rw [conI id j hi]
        refine ⟨fun i h1 h2 => ?_, k⟩
        change (glueHD D H' H i).isSome = true at h1
        by_cases h3 : D i = true
        · rw [gin i h3] at h2
          exact k0 i (isI i h3 h1) h2
        · rw [gout i h3] at h2
          have h4 := isO i h3 h1
          have hlt := blt i b h4 h2
          exact (newMine id j b e hl').elim (boxOut i b h4 h3 h2) (fun h5 => by omega)
      · have hl' := mineO id j b e hl hi
        have h1 := domO hl hi
        obtain ⟨k0, n', c'', i, cur, k1, k2, k3, k4, k5⟩ := hr.own1 id j b e hl'
        have hlt := lt_of_block k3
        have hnm := spareOut id j b e hi hl'
        rw [conO id j h1 hi]
        refine ⟨fun i hi' hb => ?_, n', c'', i, cur, k1, k2, (keep b hlt hnm).trans k3, k4, fun o ho hz => (g.back b o hz hlt).elim (k5 o ho) hnm⟩
        change (glueHD D H' H i).isSome = true at hi'
        by_cases h3 : D i = true
        · rw [gin i h3] at hb
          exact (newBox i b (isI i h3 hi') hb).elim hnm (fun h5 => by omega)
        · rw [gout i h3] at hb
          exact k0 i (isO i h3 hi') hb
    own2 := fun id j id' j' b e e' hl hl' => by
      by_cases hi : D id = true <;> by_cases hi' : D id' = true
      · exact hr'.own2 id j id' j' b e e' (mineI id j b e hl hi) (mineI id' j' b e' hl' hi')
      · exfalso
        have h2 := mineO id' j' b e' hl' hi'
        have hlt := spLt (hr.own1 id' j' b e' h2)
        exact (newMine id j b e (mineI id j b e hl hi)).elim (spareOut id' j' b e' hi' h2) (fun h5 => by omega)
      · exfalso
        have h2 := mineO id j b e hl hi
        have hlt := spLt (hr.own1 id j b e h2)
        exact (newMine id' j' b e' (mineI id' j' b e' hl' hi')).elim (spareOut id j b e hi h2) (fun h5 => by omega)
      · exact hr.own2 id j id' j' b e e' (mineO id j b e hl hi) (mineO id' j' b e' hl' hi')
    fresh := fun id hi => by
      by_cases h1 : D id = true
      · rw [gin id h1]; exact hr'.fresh id (hfr id hi h1)
      · rw [gout id h1]; exact hr.fresh id (by omega) }, {
    size := g.size
    frame := fun b hb hm => g.frame b hb fun h1 => hm (mineS b h1)
    os := g.os
    tape := g.tape
    output := g.output
    up := g.up
    back := fun b o hz hb => (g.back b o hz hb).elim .inl fun h1 => .inr (mineS b h1)
    names := names
    mine := fun b hm => by
      rcases hm with ⟨id, h1, h2⟩ | ⟨id, j, e, h1⟩
      · by_cases hi : D id = true
        · rw [gin id hi] at h2
          exact (newBox id b (isI id hi h1) h2).elim (fun h2 => .inl (mineS b h2)) .inr
        · rw [gout id hi] at h2
          exact .inl (.inl ⟨id, isO id hi h1, h2⟩)
      · have h1' : spareOf (absAt ⟨fun _ => .un, glueHD D H' H, c3⟩ (.box id j)) (conAt (glueND D φ' φ) ⟨#[], []⟩ w' (.box id j)) = some (b, e) := by simpa only [absAt] using h1
        by_cases hi : D id = true
        · exact (newMine id j b e (mineI id j b e h1' hi)).elim (fun h2 => .inl (mineS b h2)) .inr
        · have h2 := mineO id j b e h1' hi
          exact .inl (.inr ⟨id, j, e, by simpa only [absAt] using h2⟩) }⟩
end
structure IterD (P : Program) (D : Nat → Bool) (id : Nat) (S : Slots) (nt : Nat) (ps : Array Tmp) (asg body : Code) (L : List (List A)) (I : Nat → Hp → Prop) (cn : Nat → Nat) : Prop where
  pok : ∀ t ∈ ps.toList, t < nt
  len : ∀ as ∈ L, as.length = ps.size
  lp : ∀ k H, I k H → ∃ pend, H id = some (.lp .ready pend S nt ps asg body)
  dom : ∀ k H, I k H → InD D H
  low : ∀ k H, I k H → Low (cn k) H
  round : ∀ k as, L[k]? = some as → ∀ H, I k H → ∀ (E : En) (b : Nat), (∀ i, cn k ≤ i → E.φ0 i = none) →
    Aw (E.cx P nt) (some b) asg (fun e s1 => e = .normal ∧ ∃ p1 S1 nt1 ps1 as1 bo1, s1.H id = some (.lp .ready p1 S1 nt1 ps1 as1 bo1) ∧
      Aw (E.cx P nt) (some b) body (roundQ id fun v H' c' => v = .bool true ∧ c' = cn (k + 1) ∧ Sub H' (I (k + 1))) { s1 with H := updH s1.H id (some (.lp .busy p1 S1 nt1 ps1 as1 bo1)) })
      ⟨setPs (fun t => (S t).down) ps.toList as, H, cn k⟩
theorem IterD.yield {P : Program} {D : Nat → Bool} {id : Nat} {S : Slots} {nt : Nat} {ps : Array Tmp} {asg body : Code} {L : List (List A)} {I : Nat → Hp → Prop} {cn : Nat → Nat} (it : IterD P D id S nt ps asg body L I cn)
    {X : Ctx} (hP : X.P = P) {r : Option Nat} {s : St} {o : Oper} {K : St → Prop} {f : Operand} {args : Array Operand} {at' : Array TypeId} (ho : o.op = .call { callee := .value f, args := args, argTypes := at' }) (hf : rd s.S f = .yl id)
    {k c3 : Nat} (hcn : ∀ i, cn k ≤ i → D i = true → s.c ≤ i) (hc3 : s.c ≤ c3) (hcn3 : ∀ i, c3 ≤ i → D i = true → cn (k + 1) ≤ i) (ha : L[k]? = some (rds s.S args.toList)) (hfree : ∀ x ∈ rds s.S args.toList, Free x) (hI : I k (cutHD D s.H))
    (hK : ∀ H', I (k + 1) H' → K ⟨putO s.S o.dst (.bool true), glueHD D H' s.H, c3⟩) : DoesR X r o s K := by
  subst hP
  obtain ⟨pend, hi⟩ := it.lp k _ hI
  have low := it.dom k _ hI
  have hlen := it.len _ (List.mem_of_getElem? ha)
  intro hdn φ Z a w hr next Q hn
  obtain ⟨dst, op, ty, pos, aft, gd⟩ := o
  simp only at ho
  subst ho
  obtain ⟨b, e0, hb⟩ := inv_yl (hf ▸ hr.sees.rd f)
  have hcut := hr.hrel.cutD low hcn
  obtain ⟨b', hb', hbr⟩ := hcut.boxes id _ hi
  have hbb : b' = b := by
    have := (cutD_up hb').1
    rw [hb] at this; cases this; rfl
  subst hbb
  obtain ⟨fn, tmps, d, hl, hsz, htv⟩ := hbr
  have hargs := vrs_rds hr.slots args
  have hset := setPs_vr (φ := cutD D φ) (Z := Z) (w := w) ps.toList (rds s.S args.toList) (args.map a.eval).toList (S := fun t => (S t).down) (tmps := tmps) (fun t ht => by rw [hsz]; exact it.pok t ht) (by simpa using hargs.1) (fun i hi => by
    have := hargs.2 i hi
    have h2 := this.nms (φ' := cutD D φ) (D := fun _ => False) (hfree _ (mem_getD hi)).nms (fun _ _ h => h.elim)
    simpa [Array.getD_eq_getD_getElem?, List.getD_eq_getElem?_getD] using h2) (fun t => (htv t).down)
  have hrun : (execOp a.eval { dst := dst, op := Op.call { callee := .value f, args := args, argTypes := at' }, type := ty, pos := pos, after := aft, guard := gd }).run X.P w =
      .ok (.round b' fn ((ps.toList.zip (args.map a.eval).toList).foldl (fun tmps p => tmps.setIfInBounds p.1 p.2) tmps) asg body) w := by
    simp only [ex_call, resolve, e0, Deferred.ofValue, invoke, Sem.run_bind, Sem.run_pure, Result.andThen_ok]
    simp only [Instr.yield, Sem.run_bind, run_getLoop hl, Result.andThen_ok]
    rw [if_neg (by
      have h1 : args.size = ps.size := by simpa [rds] using hlen
      simp [h1])]
    simp only [Sem.run_pure, Array.toList_map, ← Array.foldl_toList, Array.toList_zip, Array.empty_append, Array.append_empty]
  refine ⟨fun f _ => trivial, ?_⟩
  rw [Oper.semAt_eq _ _ _ (fun c => by simp), hrun, Oper.uponIn_round]
  refine ⟨fun h0 => (by cases h0), roundIn_of_wpIn trivial ?_⟩
  have hrel0 := hcut.enter (S := setPs (fun t => (S t).down) ps.toList (rds s.S args.toList)) (nt := nt) (hset.1.trans hsz) hset.2 (setPs_own _ _ (fun v hv u => by
    obtain ⟨x, _, rfl⟩ := List.mem_map.1 hv
    exact spare_down _ _) (fun t u => spare_down _ _))
  have h := it.round k _ ha _ hI ⟨w, Mine (cutD D φ) (cutHD D s.H) w, Z, cutD D φ⟩ b' hcut.fresh
  refine wpIn_mono (h (cutD D φ) Z _ w hrel0) ?_
  rintro e a1 w1 ⟨s1, φ1, Z1, ⟨rfl, p1, S1, nt1, ps1, as1, bo1, hi1, hbody⟩, hr1⟩
  have hb1 : φ1 id = some b' := hr1.names id b' hb'
  obtain ⟨fn1, tmps1, d1, hl1, _, _, hset1⟩ := hr1.setLp hi1 hb1
  refine ⟨_, by simp only [Instr.beginRound, Sem.run_bind, run_getLoop hl1, run_setLoop hl1, Result.andThen_ok, Sem.run_pure]; rfl, ?_⟩
  refine wpIn_mono (hbody φ1 Z1 a1 _ (hset1 .busy p1)) ?_
  rintro e a2 w2 ⟨s2, φ2, Z2, hq, hr2⟩
  have hb2 : φ2 id = some b' := hr2.names id b' hb'
  cases e with
  | normal =>
    obtain ⟨st2, pend2, S2, nt2, ps2, as2, bo2, hi2, _, hcc, H2, hI2, hsub⟩ := hq
    obtain ⟨fn2, tmps2, d2, hl2, _, _, hset2⟩ := hr2.setLp hi2 hb2
    have hr3 := hset2 .ready none
    obtain ⟨k1, k2⟩ := hr3.leave
    obtain ⟨g1, g2⟩ := hr.hrel.glueD hc3 (k1.less hsub) (k2.less hsub) (it.dom _ _ hI2) (fun i h1 h2 => by have := hcn3 i h1 h2; show s2.c ≤ i; omega)
    have hr4 := hr.called g1 g2
    have hk := hK H2 hI2
    refine ⟨.bool true, _, by simp only [Instr.endRound, Sem.run_bind, run_getLoop hl2, run_setLoop hl2, Result.andThen_ok, Sem.run_pure]; rfl, ?_⟩
    cases dst with
    | none => exact hn _ _ Z2 _ _ hk hr4
    | some d => exact hn _ _ Z2 _ _ hk (hr4.put_down hr4.more_refl (hdn d rfl) (.s _) (fun p hs => by simp [spareOf] at hs))
  | ret =>
    obtain ⟨st2, pend2, S2, nt2, ps2, as2, bo2, hi2, h, _⟩ := hq
    cases h
  | exit j =>
    obtain ⟨st2, pend2, S2, nt2, ps2, as2, bo2, hi2, h, _⟩ := hq
    cases h
  | goto t => exact hq.elim
  | panic ch => exact hq.elim
  | outgrown => exact hq.elim
section
variable {X : Ctx} {s : St} {Q : Exit → St → Prop}
end
section
variable {X : Ctx} {r : Option Nat} {s : St} {Q : Exit → St → Prop}
theorem Aw.raise {x : Code} {c' : Nat} (hc : s.c ≤ c') (h : Aw X r x Q ⟨s.S, s.H, c'⟩) : Aw X r x Q s :=
  Aw.weaken (S' := s.S) (H' := s.H) (c' := c') (fun _ => .refl _) (fun _ bx hb => ⟨bx, hb, .refl _⟩) hc h
end
end Go.AL

namespace Go.AL
open Go Go.RowKit
section
variable {X : Ctx} {T : Tab} {r : Option Nat} {s : St} {o : Oper} {K : St → Prop}
end
theorem B.Le.cell1 {a a' : A} (h : A.Le a' a) : B.Le (.cells [a']) (.cells [a]) := ⟨fun φ Z w b hb => by
    obtain ⟨c, T, h1, h2, h3⟩ := hb
    refine ⟨c, T, h1, h2, fun j hj => ?_⟩
    obtain rfl : j = 0 := by simp at hj; omega
    obtain ⟨k1, k2⟩ := h3 0 (by simp)
    exact ⟨h.vr _ _ _ _ k1, k2⟩, fun j v p hp => by
    cases j with
    | zero => exact h.own v p hp
    | succ j => simp [cellOf, spareOf] at hp⟩
inductive LeL : List A → List A → Prop
  | nil : LeL [] []
  | cons {a b : A} {l m : List A} (h : A.Le a b) (t : LeL l m) : LeL (a :: l) (b :: m)
inductive LeR : List (List A) → List (List A) → Prop
  | nil : LeR [] []
  | cons {a b : List A} {l m : List (List A)} (h : LeL a b) (t : LeR l m) : LeR (a :: l) (b :: m)
theorem LeL.len {l m : List A} (h : LeL l m) : l.length = m.length := by induction h with | nil => rfl | cons _ _ ih => simp [ih]
theorem LeL.get {l m : List A} (h : LeL l m) : ∀ i, A.Le (l.getD i .un) (m.getD i .un) := by
  induction h with
  | nil => intro i; exact .refl _
  | cons h _ ih => intro i; cases i with | zero => exact h | succ i => exact ih i
theorem LeR.len {l m : List (List A)} (h : LeR l m) : l.length = m.length := by induction h with | nil => rfl | cons _ _ ih => simp [ih]
theorem LeR.get {l m : List (List A)} (h : LeR l m) : ∀ i, LeL (l.getD i []) (m.getD i []) := by
  induction h with
  | nil => intro i; exact .nil
  | cons h _ ih => intro i; cases i with | zero => exact h | succ i => exact ih i
theorem LeL.refl : ∀ l : List A, LeL l l
  | [] => .nil
  | a :: l => .cons (.refl a) (LeL.refl l)
theorem A.Le.agg {l m : List A} (h : LeL l m) : A.Le (.agg l) (.agg m) := ⟨fun φ Z w v hv => by
  obtain ⟨vs, e0, e1, e2, e3⟩ := inv_agg hv
  subst e0
  exact .agg _ _ (by rw [e1, h.len]) (fun i hi => e2 i (by rw [← h.len]; exact hi)) fun i hi => (h.get i).vr _ _ _ _ (e3 i (by rw [← h.len]; exact hi)), fun v p e => by simp [spareOf] at e⟩
theorem A.Le.rows {n : Bool} {c : Cap} {l m : List (List A)} (h : LeR l m) : A.Le (.sl n .any l) (.sl n c m) := ⟨fun φ Z w v hv => by
  have hl := h.len
  cases hv with
  | nil => cases h; exact .nil _
  | slz _ a => cases h; exact .slz _ a
  | sl _ _ b off sz c val hc hx hm hs hz hv ho hr =>
    have hs' : ∀ e ∈ l, e.length = sz := fun e he => by
      obtain ⟨i, hi, rfl⟩ := List.mem_iff_getElem.1 he
      have h1 := (h.get i).len
      rw [List.getD_eq_getElem?_getD, List.getD_eq_getElem?_getD, List.getElem?_eq_getElem hi, List.getElem?_eq_getElem (by omega)] at h1
      exact h1.trans (hs _ (List.getElem_mem (by omega)))
    have key : VR φ Z w (.sl false .any l) (.slice (some ⟨b, off, none⟩) l.length c) := .sl .any l b off sz c val (by rw [hl]; exact hc) (fun h => by cases h) hm hs' (fun i j hi hj => hz i j (by omega) hj) (fun i j hi hj => hv i j (by omega) hj) (fun i j hi hj => ho i j (by omega) hj)
      fun i j hi hj => ((h.get i).get j).vr _ _ _ _ (hr i j (by omega) hj)
    rw [hl] at key; exact key, fun v p e => by simp [spareOf] at e⟩
end Go.AL

namespace Go.AL
open Go Go.RowKit
def keyA {α : Type} (enc : α → List Value) (a : α) : A := .agg ((enc a).map A.s)
structure KeyTy (P : Program) (kt : TypeId) {α : Type} [BEq α] (enc : α → List Value) : Prop where
  und : ∃ d, P.underlying kt = some d ∧ ∀ cs ds, Instr.sameNow d (.agg cs) (.agg ds) = none
  eq : ∀ a b, pureRun P (Op.equal kt (.agg (enc a).toArray) (.agg (enc b).toArray)) = some (a == b)
  ck : ∀ e a, pureRun P (Instr.checkKey e 10000 kt (.agg (enc a).toArray)) = some ()
  bits : ∀ a, Instr.sameBits 10000 (.agg (enc a).toArray) (.agg (enc a).toArray) = true
section
variable {α V : Type} [BEq α] [LawfulBEq α] {P : Program} {kt : TypeId} {enc : α → List Value}
def encM (enc : α → List Value) (val : V → A) (m : List (α × V)) : List (A × A) := m.map fun p => (keyA enc p.1, val p.2)
def ixM (m : List (α × V)) (a : α) : Option Nat := m.findIdx? (·.1 == a)
def mget (m : List (α × V)) (a : α) : Option V := match ixM m a with
  | some j => (m[j]?).map (·.2)
  | none => none
def mput (m : List (α × V)) (a : α) (v : V) : List (α × V) := match ixM m a with
  | some j => m.set j (a, v)
  | none => m ++ [(a, v)]
theorem concCells_s : ∀ (l : List Value), concCells (l.map A.s) = some l
  | [] => rfl
  | v :: l => by simp only [List.map_cons, concCells, concCells_s l]
theorem conc_key (a : α) : concA (keyA enc a) = some (.agg (enc a).toArray) := by simp only [keyA, concA, concCells_s]
theorem conc_keys (val : V → A) : ∀ (m : List (α × V)), concKeys (encM enc val m) = some (m.map fun p => .agg (enc p.1).toArray)
  | [] => rfl
  | p :: m => by
    have := conc_keys val m
    simp only [encM] at this
    simp only [encM, List.map_cons, concKeys, conc_key, this]
theorem ask_keys (h : KeyTy P kt enc) (a : α) : ∀ (l : List α) (i : Nat), (pureRun P (Instr.findAsking kt (.agg (enc a).toArray) (bare (l.map fun b => .agg (enc b).toArray)) i)).map (Option.map (·.1)) = some ((l.findIdx? (· == a)).map (i + ·))
  | [], i => rfl
  | b :: l, i => by
    have ih := ask_keys h a l (i + 1)
    simp only [bare, List.map_cons, Instr.findAsking, pureRun_bind, h.eq, Option.bind_some] at ih ⊢
    by_cases e : a == b
    · have e2 : (b == a) = true := by have := eq_of_beq e; subst this; exact e
      simp only [e, if_true, pureRun, List.findIdx?_cons, e2]
      simp [Pure.pure, pureRun]
    · have e2 : (b == a) = false := by
        cases e3 : (b == a) with
        | false => rfl
        | true => have := eq_of_beq e3; subst this; exact absurd (beq_self_eq_true _) e
      rw [if_neg e, ih, List.findIdx?_cons, e2]
      cases l.findIdx? (· == a) <;> simp; omega
theorem findIx_keys (h : KeyTy P kt enc) (a : α) (l : List α) : findIx P kt (.agg (enc a).toArray) (l.map fun b => .agg (enc b).toArray) = some (l.findIdx? (· == a)) := by
  obtain ⟨d, hu, hs⟩ := h.und
  have hund : pureRun P (underlying kt) = some d := by
    simp only [underlying, pureRun_bind]
    simp [program, pureRun, hu, Pure.pure]
  have key := ask_keys h a l 0
  unfold findIx
  cases l with
  | nil =>
    simp only [List.map_nil, bare, Instr.findKey, pureRun_bind, hund, Option.bind_some, Instr.findNow]
    rfl
  | cons b l =>
    have e : pureRun P (Instr.findKey kt (.agg (enc a).toArray) (bare ((b :: l).map fun b => .agg (enc b).toArray))) = pureRun P (Instr.findAsking kt (.agg (enc a).toArray) (bare ((b :: l).map fun b => .agg (enc b).toArray)) 0) := by
      simp only [Instr.findKey, pureRun_bind, hund, Option.bind_some, List.map_cons, bare, Instr.findNow, hs]
    rw [e]
    generalize pureRun P (Instr.findAsking kt (.agg (enc a).toArray) (bare ((b :: l).map fun b => .agg (enc b).toArray)) 0) = r at key
    have z : ((b :: l).findIdx? (· == a)).map (0 + ·) = (b :: l).findIdx? (· == a) := by
      cases (b :: l).findIdx? (· == a) <;> simp
    rw [z] at key
    cases r with
    | none => simp at key
    | some o => cases o with
      | none => simp only [Option.map_some, Option.map_none, Option.some.injEq] at key; rw [← key]
      | some p => simp only [Option.map_some, Option.some.injEq] at key; rw [← key]
theorem ixM_map (m : List (α × V)) (a : α) : (m.map (·.1)).findIdx? (· == a) = ixM m a := by
  unfold ixM; rw [List.findIdx?_map]; rfl
theorem ixM_some {m : List (α × V)} {a : α} {j : Nat} (h : ixM m a = some j) : ∃ v, m[j]? = some (a, v) := by
  unfold ixM at h
  obtain ⟨hj, h1, _⟩ := List.findIdx?_eq_some_iff_getElem.1 h
  have := eq_of_beq h1
  exact ⟨m[j].2, by rw [List.getElem?_eq_getElem hj, ← this]⟩
theorem KeyTy.at (h : KeyTy P kt enc) (val : V → A) (m : List (α × V)) (a : α) : KeyAt P kt (encM enc val m) (keyA enc a) (ixM m a) := by
  refine ⟨_, _, conc_key a, conc_keys val m, h.ck _ a, h.ck _ a, ?_, fun i hi => ?_⟩
  · have := findIx_keys h a (m.map (·.1))
    rw [ixM_map, List.map_map] at this
    exact this
  · obtain ⟨v, hv⟩ := ixM_some hi
    simp only [List.getD_eq_getElem?_getD, List.getElem?_map, hv, Option.map_some, Option.getD_some]
    exact h.bits a
theorem KeyTy.ix (h : KeyTy P kt enc) (val : V → A) (m : List (α × V)) (a : α) : ixOf P kt (encM enc val m) (keyA enc a) = ixM m a := (h.at val m a).ix
theorem KeyTy.has (h : KeyTy P kt enc) (val : V → A) (m : List (α × V)) (a : α) : ∃ j, KeyAt P kt (encM enc val m) (keyA enc a) j := ⟨_, h.at val m a⟩
theorem KeyTy.lk {T : Tab} {et : Nat} (h : KeyTy P kt enc) (val : V → A) (m : List (α × V)) (a : α) {v : A} {is : Bool}
    (hv : v = match mget m a with | some x => (val x).down | none => (zeroA T et).down) (his : is = (mget m a).isSome) : LkIs P T kt et (encM enc val m) (keyA enc a) v is := by
  refine ⟨_, h.at val m a, ?_, ?_⟩
  · rw [hv]; unfold mget
    cases e : ixM m a with
    | none => rfl
    | some j =>
      obtain ⟨x, hx⟩ := ixM_some e
      simp [hx, lkA, encM, List.getD_eq_getElem?_getD]
  · rw [his]; unfold mget
    cases e : ixM m a with
    | none => rfl
    | some j =>
      obtain ⟨x, hx⟩ := ixM_some e
      simp [hx]
theorem KeyTy.up (h : KeyTy P kt enc) (val : V → A) (m : List (α × V)) (a : α) (v : V) : upKV (encM enc val m) (keyA enc a) (val v) (ixOf P kt (encM enc val m) (keyA enc a)) = encM enc val (mput m a v) := by
  rw [h.ix val m a]
  unfold mput
  cases ixM m a with
  | none => simp [upKV, encM]
  | some j => simp [upKV, encM, List.map_set]
end
end Go.AL

namespace Go.AL
open Go Go.RowKit
theorem pr_pure {α : Type} {P : Program} (x : α) : pureRun P (pure x) = some x := rfl
theorem pureRun_eqArr {P : Program} {d t e n : Nat} (hu : pureRun P (underlying t) = some (.array n e)) (hsz : pureRun P (sizeOf e) = some 1) (xs ys : Array Value) (f : Nat → Bool)
    (hf : ∀ i, i < n → ∃ x y, pureRun P (part e xs (i * 1)) = some x ∧ pureRun P (part e ys (i * 1)) = some y ∧ pureRun P (Op.equalIn d e x y) = some (f i)) :
    pureRun P (Op.equalIn (d + 1) t (.agg xs) (.agg ys)) = some ((List.range n).all f) := by
  simp only [Op.equalIn, pureRun_bind, hu, Option.bind_some, hsz]
  simp only [Std.Legacy.Range.forIn_eq_forIn_range', Std.Legacy.Range.size, Nat.sub_zero, Nat.add_one_sub_one, Nat.div_one, List.range_eq_range']
  have hm : ∀ i ∈ List.range' 0 n, i < n := fun i hi => by simpa using hi
  revert hm
  generalize List.range' 0 n = is
  intro hm
  induction is with
  | nil => simp [List.forIn_nil, pr_pure]
  | cons j is ih =>
    obtain ⟨x, y, h1, h2, h3⟩ := hf j (hm j (by simp))
    have ih := ih fun i hi => hm i (by simp [hi])
    simp only [List.forIn_cons, pureRun_bind, h1, h2, h3, Option.bind_some]
    cases hj : f j with
    | false => simp [pr_pure, hj]
    | true =>
      simp only [Bool.not_true, Bool.false_eq_true, if_false, pr_pure, Option.bind_some, List.all_cons, hj, Bool.true_and]
      exact ih
theorem pureRun_eqRow {α : Type} [BEq α] [LawfulBEq α] {P : Program} {d t e n : Nat} (hu : pureRun P (underlying t) = some (.array n e)) (hsz : pureRun P (sizeOf e) = some 1) (val : α → Value)
    (hp : ∀ (xs : Array Value) (i : Nat) (x : Value), xs[i]? = some x → (∃ a, x = val a) → pureRun P (part e xs (i * 1)) = some x) (he : ∀ a b, pureRun P (Op.equalIn d e (val a) (val b)) = some (a == b)) {l m : List α} (hl : l.length = n) (hm : m.length = n) :
    pureRun P (Op.equalIn (d + 1) t (.agg (l.map val).toArray) (.agg (m.map val).toArray)) = some (l == m) := by
  rw [pureRun_eqArr hu hsz _ _ (fun i => l[i]? == m[i]?) fun i hi => ⟨val l[i], val m[i], hp _ _ _ (by simp [show i < l.length by omega]) ⟨_, rfl⟩, hp _ _ _ (by simp [show i < m.length by omega]) ⟨_, rfl⟩, by rw [he]; simp [show i < l.length by omega, show i < m.length by omega]⟩]
  congr 1
  rw [Bool.eq_iff_iff, List.all_eq_true, beq_iff_eq]
  constructor
  · intro h
    refine List.ext_getElem (by omega) fun i h1 h2 => ?_
    have := h i (by simp; omega)
    simpa [h1, h2] using this
  · rintro rfl i _; simp
theorem conc_row {α : Type} (val : α → Value) (l : List α) : concA (.agg (l.map fun a => A.s (val a))) = some (.agg (l.map val).toArray) := by
  have h : ∀ l : List α, concCells (l.map fun a => A.s (val a)) = some (l.map val) := fun l => by
    induction l with
    | nil => rfl
    | cons a l ih => simp only [List.map_cons, concCells, ih]
  simp only [concA, h]
theorem EqIs.row {T : Tab} {P : Program} (hT : T.Ok P) {α : Type} [BEq α] [LawfulBEq α] {t e n : Nat} (hu : pureRun P (underlying t) = some (.array n e)) (hsz : pureRun P (sizeOf e) = some 1) (hg : P.eqGuardType P.depth t = false) (val : α → Value)
    (hp : ∀ (xs : Array Value) (i : Nat) (x : Value), xs[i]? = some x → (∃ a, x = val a) → pureRun P (part e xs (i * 1)) = some x) (he : ∀ a b, pureRun P (Op.equalIn 9999 e (val a) (val b)) = some (a == b)) {l m : List α} (hl : l.length = n) (hm : m.length = n) (x y : Operand) :
    EqIs T .neq t x y (.agg (l.map fun a => A.s (val a))) (.agg (m.map fun a => A.s (val a))) (!(l == m)) ∧ EqIs T .eql t x y (.agg (l.map fun a => A.s (val a))) (.agg (m.map fun a => A.s (val a))) (l == m) := by
  have h9 : pureRun P (Op.equal t (.agg (l.map val).toArray) (.agg (m.map val).toArray)) = some (l == m) := pureRun_eqRow hu hsz val hp he hl hm
  have hpr : pureRun P program = some P := rfl
  have e1 : ∀ op, pureRun P (eqGuard op t x y (.agg (l.map val).toArray) (.agg (m.map val).toArray)) = some () := fun op => by
    cases op <;> simp [eqGuard, pureRun_bind, hpr, hg, pr_pure]
  constructor
  · refine ⟨_, _, conc_row val l, conc_row val m, ?_⟩
    rw [hT.eqv]; unfold pureEq
    rw [pureRun_bind, e1]
    have : binOp .neq t (.agg (l.map val).toArray) (.agg (m.map val).toArray) = (Op.equal t (.agg (l.map val).toArray) (.agg (m.map val).toArray) >>= fun b => pure (.bool (!b))) := rfl
    rw [Option.bind_some, this, pureRun_bind, h9]; rfl
  · refine ⟨_, _, conc_row val l, conc_row val m, ?_⟩
    rw [hT.eqv]; unfold pureEq
    rw [pureRun_bind, e1]
    have : binOp .eql t (.agg (l.map val).toArray) (.agg (m.map val).toArray) = (Op.equal t (.agg (l.map val).toArray) (.agg (m.map val).toArray) >>= fun b => pure (.bool b)) := rfl
    rw [Option.bind_some, this, pureRun_bind, h9]; rfl
end Go.AL

namespace Go.AL
open Go Go.RowKit
section
variable {X : Ctx} {T : Tab} {r : Option Nat} {s : St} {o : Oper} {K : St → Prop}
theorem DoesP.gives {d : Nat} {v : A} (hd : o.dst = some d) (h : ∀ φ Z a w, Rel X φ Z s a w → Gives X.P r φ Z o v a w) (k : K { s with S := upd s.S d v }) : DoesP X r o s K := by
  intro hdn φ Z a w hr next Q hn
  refine h φ Z a w hr next Q fun u w' Z' m hv hs => ?_
  rw [hd]
  exact hn _ Z' _ w' k (hr.put m (hdn d hd) hv (hs.ok hr d))
theorem DoesP.slicePt3 (hT : T.Ok X.P) {d t n e : Nat} {x h m : Operand} {cs : List A} {a : Int} (ho : o.op = .slice t x none (some h) (some m)) (hd : o.dst = some d) (ht : T.ty t = .arr n e) (he : T.ty e ≠ .none) (h1 : T.sz e = 1) (hm : n ≤ maxLen)
    (hx : rd s.S x = .pt cs) (hh : rd s.S h = .int a) (hmx : rd s.S m = .int a) (h0 : 0 < a) (han : a ≤ n) (hl : n ≤ cs.length)
    (k : K { s with S := upd s.S d (.sl false .exact ((cs.take a.toNat).map fun c => [c])) }) : DoesP X r o s K := by
  refine DoesP.gives hd (fun φ Z ac w hr => ?_) k
  have hs := hr.sees
  obtain ⟨dst, op, ty, pos, aft, gd⟩ := o
  simp only at ho
  subst ho
  obtain ⟨q, rfl⟩ : ∃ q : Nat, a = q := ⟨a.toNat, by omega⟩
  have q0 : 0 < q := by omega
  have qn : q ≤ n := by omega
  obtain ⟨b, off, val, e0, k1, k2, k3, k4⟩ := inv_pt (hx ▸ hs.rd x)
  have e1 := inv_s (hh ▸ hs.rd h)
  have e2 := inv_s (hmx ▸ hs.rd m)
  have k1' := fun code => run_sliceBound (w := w) (P := X.P) code qn
  have k3' := fun code => run_sliceBound (w := w) (P := X.P) code (Nat.le_refl q)
  have run : (Instr.sliceBounds false n n none (some (.int .i64 q)) (some (.int .i64 q))).run X.P w = .ok (0, q, q) w := by
    simp [Instr.sliceBounds, k1', k3']
  have hr' : (Instr.sliceAt t (ac.eval x) none (some (.int .i64 q)) (some (.int .i64 q))).run X.P w = .ok (.slice (some ⟨b, off, none⟩) q q) w := by
    rw [e0]
    unfold Instr.sliceAt
    simp only [Sem.run_bind, run_und (und_arr hT ht), Result.andThen_ok, Instr.sureAddr, Sem.run_pure, run_size hT he, run]
    simp [show q ≠ 0 by omega, add_addr]
  simp only [Int.toNat_natCast]
  have hlen : ((cs.take q).map fun c => [c]).length = q := by simp; omega
  have hget : ∀ i, i < q → ((((cs.take q).map fun c => [c]).getD i []).getD 0 .un) = cs.getD i .un := fun i hi => by
    simp [List.getD_eq_getElem?_getD, List.getElem?_take, hi, show i < cs.length by omega]
  have hv : VR φ Z w (.sl false .exact ((cs.take q).map fun c => [c])) (.slice (some ⟨b, off, none⟩) ((cs.take q).map fun c => [c]).length q) :=
    .sl .exact ((cs.take q).map fun c => [c]) b off 1 q (fun i j => val i) (by rw [hlen]; exact Nat.le_refl _) (fun _ => hlen.symm) (Nat.le_trans qn hm) (fun e he => by obtain ⟨c, _, rfl⟩ := List.mem_map.1 he; rfl)
      (fun i j hi hj => by rw [hlen] at hi; rw [show off + i * 1 + j = off + i by omega]; exact k1 i (by omega)) (fun i j hi hj => by rw [hlen] at hi; rw [show off + i * 1 + j = off + i by omega]; exact k2 i (by omega))
      (fun i j hi hj => by rw [hlen] at hi; exact k3 i (by omega)) (fun i j hi hj => by rw [hlen] at hi; rw [show j = 0 by omega, hget i hi]; exact k4 i (by omega))
  rw [hlen] at hv
  exact gives_run hs.zok (fun c => by simp) (u := .slice (some ⟨b, off, none⟩) q q) (by rw [ex_slice, Option.map_none, Option.map_some, Option.map_some, e1, e2, Sem.run_bind, hr']; rfl) hv (fun p => by simp [spareOf])
end
end Go.AL

namespace Go.AL
open Go Go.RowKit
def setI (l : List Int) : List (A × A) := l.map fun x => (.int x, .bool true)
theorem setI_keys : ∀ l : List Int, concKeys (setI l) = some (l.map (Value.int .i64))
  | [] => rfl
  | x :: l => by
    have := setI_keys l
    simp only [setI] at this
    simp only [setI, List.map_cons, concKeys, concA, this]
theorem setI_free (l : List Int) : ∀ p ∈ setI l, Free p.1 ∧ Free p.2 := fun p hp => by
  obtain ⟨x, _, rfl⟩ := List.mem_map.1 hp
  exact ⟨.s _, .s _⟩
theorem now_ints (a : Int) : ∀ (l : List Int) (i : Nat), Instr.findNow (.int .i64) (.int .i64 a) (bare (l.map (Value.int .i64))) i = some (((l.findIdx? (· == a)).map (i + ·)).map fun j => (j, undef))
  | [], i => rfl
  | b :: l, i => by
    have ih := now_ints a l (i + 1)
    simp only [bare, List.map_cons, Instr.findNow, Instr.sameNow, if_true] at ih ⊢
    by_cases e : a = b
    · subst e; simp [List.findIdx?_cons]
    · have e1 : (a == b) = false := by simpa using e
      have e2 : (b == a) = false := by simpa using Ne.symm e
      rw [e1, List.findIdx?_cons, e2]
      simp only [ih]
      cases l.findIdx? (· == a) <;> simp; omega
theorem findIx_ints {P : Program} {kt : TypeId} (hu : P.underlying kt = some (.int .i64)) (a : Int) (l : List Int) : findIx P kt (.int .i64 a) (l.map (Value.int .i64)) = some (l.findIdx? (· == a)) := by
  have hund : pureRun P (underlying kt) = some (.int .i64) := by
    simp only [underlying, pureRun_bind]
    simp [program, pureRun, hu, Pure.pure]
  have key := now_ints a l 0
  have z : (l.findIdx? (· == a)).map (0 + ·) = l.findIdx? (· == a) := by cases l.findIdx? (· == a) <;> simp
  rw [z] at key
  unfold findIx
  simp only [Instr.findKey, pureRun_bind, hund, Option.bind_some, key]
  cases l.findIdx? (· == a) <;> rfl
theorem ck_int {P : Program} {kt : TypeId} (hu : P.underlying kt = some (.int .i64)) (e : Bool) (a : Int) : pureRun P (Instr.checkKey e 10000 kt (.int .i64 a)) = some () := by
  have hund : pureRun P (underlying kt) = some (.int .i64) := by
    simp only [underlying, pureRun_bind]
    simp [program, pureRun, hu, Pure.pure]
  show pureRun P (Instr.checkKey e (9999 + 1) kt (.int .i64 a)) = _
  rw [Instr.checkKey, pureRun_bind, hund]
  rfl
theorem setI_at {P : Program} {kt : TypeId} (hu : P.underlying kt = some (.int .i64)) (l : List Int) (a : Int) : KeyAt P kt (setI l) (.int a) (l.findIdx? (· == a)) := by
  refine ⟨_, _, rfl, setI_keys l, ck_int hu _ a, ck_int hu _ a, findIx_ints hu a l, fun i hi => ?_⟩
  obtain ⟨hj, h1, _⟩ := List.findIdx?_eq_some_iff_getElem.1 hi
  have := eq_of_beq h1
  simp only [List.getD_eq_getElem?_getD, List.getElem?_map, List.getElem?_eq_getElem hj, Option.map_some, Option.getD_some, this]
  show Instr.sameBits (9999 + 1) (.int .i64 a) (.int .i64 a) = true
  rw [Instr.sameBits]; simp
theorem setI_has {P : Program} {kt : TypeId} (hu : P.underlying kt = some (.int .i64)) (l : List Int) (a : Int) : ∃ j, KeyAt P kt (setI l) (.int a) j := ⟨_, setI_at hu l a⟩
theorem isSome_idx (l : List Int) (a : Int) : (l.findIdx? (· == a)).isSome = l.contains a := by
  rw [List.findIdx?_isSome, List.contains_eq_any_beq]
  congr 1; funext x; rw [Bool.eq_iff_iff, beq_iff_eq, beq_iff_eq]; exact ⟨Eq.symm, Eq.symm⟩
theorem setI_lk {P : Program} {T : Tab} {kt et : TypeId} (hu : P.underlying kt = some (.int .i64)) (hz : (zeroA T et).down = .bool false) (l : List Int) (a : Int) : LkIs P T kt et (setI l) (.int a) (.bool (l.contains a)) (l.contains a) := by
  refine ⟨_, setI_at hu l a, ?_, (isSome_idx l a).symm⟩
  rw [← isSome_idx]
  cases e : l.findIdx? (· == a) with
  | none => exact hz.symm
  | some j =>
    obtain ⟨hj, _, _⟩ := List.findIdx?_eq_some_iff_getElem.1 e
    simp [lkA, setI, List.getD_eq_getElem?_getD, List.getElem?_eq_getElem hj]; rfl
theorem setI_up {P : Program} {kt : TypeId} (hu : P.underlying kt = some (.int .i64)) {l : List Int} {a : Int} (h : l.contains a = false) : upKV (setI l) (.int a) (.bool true) (ixOf P kt (setI l) (.int a)) = setI (l ++ [a]) := by
  rw [(setI_at hu l a).ix]
  have := isSome_idx l a
  rw [h] at this
  cases e : l.findIdx? (· == a) with
  | none => simp [upKV, setI]
  | some j => rw [e] at this; cases this
end Go.AL

namespace Go.AL
open Go Go.RowKit
section
variable {X : Ctx} {r : Option Nat} {φ : Names} {Z : Still} {s : St} {a : Act} {w : World} {Q : Exit → St → Prop}
theorem Rel.renameS (h : Rel X φ Z s a w) {id1 id2 j n cap : Nat} {cs : List A} (hi : s.H id1 = some (.cells cs)) (ht : s.S j = .gs id1 n cap) (h12 : id2 ≠ id1) (h2 : s.H id2 = none) (h0 : X.φ0 id2 = none) (hc : id2 < s.c)
    (hS : ∀ t, Nms (· ≠ id2) (s.S t)) (hH : ∀ id bx, s.H id = some bx → NmsB (· ≠ id2) bx) (hown : ∀ v ∈ cs, ∀ u, spareOf v u = none) :
    Rel X (fun id => if id = id2 then φ id1 else φ id) Z ⟨upd s.S j (.gs id2 n cap), updH (updH s.H id1 none) id2 (some (.cells cs)), s.c⟩ a w := by
  obtain ⟨b1, hb1, hbr1⟩ := h.boxes id1 _ hi
  let ψ : Names := fun id => if id = id2 then φ id1 else φ id
  have ψo : ∀ id, id ≠ id2 → ψ id = φ id := fun id h => if_neg h
  have ψ2 : ψ id2 = some b1 := (if_pos rfl).trans hb1
  have nm : ∀ id b, id ≠ id2 → φ id = some b → ψ id = some b := fun id b h1 h2 => by rw [ψo id h1]; exact h2
  let H' : Hp := updH (updH s.H id1 none) id2 (some (.cells cs))
  have H2 : H' id2 = some (.cells cs) := updH_same _ _ _
  have H1 : H' id1 = none := by show updH _ id2 _ id1 = _; rw [updH_other _ _ h12.symm]; exact updH_same _ _ _
  have Ho : ∀ id, id ≠ id1 → id ≠ id2 → H' id = s.H id := fun id e1 e2 => by show updH _ id2 _ id = _; rw [updH_other _ _ e2, updH_other _ _ e1]
  let old : Nat → Nat := fun id => if id = id2 then id1 else id
  have oldo : ∀ id, id ≠ id2 → old id = id := fun id h => if_neg h
  have old2 : old id2 = id1 := if_pos rfl
  have ψold : ∀ id, ψ id = φ (old id) := fun id => by
    by_cases e : id = id2
    · subst e; rw [old2]; exact if_pos rfl
    · rw [oldo id e, ψo id e]
  have isold : ∀ id, (H' id).isSome = true → (s.H (old id)).isSome = true ∧ id ≠ id1 := fun id hid => by
    have hne : id ≠ id1 := fun e => by subst e; rw [H1] at hid; cases hid
    refine ⟨?_, hne⟩
    by_cases e : id = id2
    · subst e; rw [old2, hi]; rfl
    · rw [oldo id e]
      rw [← Ho id hne e]; exact hid
  have oldinj : ∀ id id', id ≠ id1 → id' ≠ id1 → old id = old id' → id = id' := fun id id' e1 e2 e => by
    by_cases k1 : id = id2 <;> by_cases k2 : id' = id2
    · rw [k1, k2]
    · subst k1; rw [old2, oldo id' k2] at e; exact absurd e.symm e2
    · subst k2; rw [old2, oldo id k1] at e; exact absurd e e1
    · rwa [oldo id k1, oldo id' k2] at e
  let s' : St := ⟨upd s.S j (.gs id2 n cap), H', s.c⟩
  have no2 : ∀ j' v p, spareOf (absAt s' (.box id2 j')) v ≠ some p := fun j' v p => by
    have H2' : s'.H id2 = some (.cells cs) := H2
    simp only [absAt, H2', cellOf]
    rw [List.getD_eq_getElem?_getD]
    cases e : cs[j']? with
    | none => simp [spareOf]
    | some x => rw [Option.getD_some, hown x (List.mem_of_getElem? e)]; simp
  have con : ∀ l v p, spareOf (absAt s' l) v = some p → absAt s' l = absAt s l ∧ conAt ψ a w l = conAt φ a w l := fun l v p hl => by
    cases l with
    | slot t =>
      refine ⟨?_, rfl⟩
      show upd s.S j (.gs id2 n cap) t = s.S t
      by_cases e : t = j
      · subst e
        have hl : spareOf (upd s.S t (.gs id2 n cap) t) v = some p := hl
        rw [upd_same] at hl; simp [spareOf] at hl
      · exact upd_other _ _ e
    | box id j' =>
      have hid : (H' id).isSome = true := by
        cases e : H' id with
        | none => have e : s'.H id = none := e; simp only [absAt] at hl; rw [e] at hl; simp [spareOf] at hl
        | some bx => rfl
      have e2 : id ≠ id2 := fun e => by subst e; exact no2 _ _ _ hl
      have e1 := (isold id hid).2
      refine ⟨?_, ?_⟩
      · show (match H' id with | some (.cells cs) => cs.getD j' .un | _ => .un) = _
        rw [Ho id e1 e2]; rfl
      · simp only [conAt, ψo id e2]
  exact { h with
    slots := fun t => by
      show VR ψ Z w (upd s.S j (.gs id2 n cap) t) _
      by_cases e : t = j
      · subst e
        rw [upd_same]
        have q1 := h.slots t
        rw [ht] at q1
        obtain ⟨b', e0, hb', p1, p2⟩ := inv_gs q1
        rw [e0]
        rw [hb1] at hb'; cases hb'
        exact .gs _ _ _ _ ψ2 p1 p2
      · rw [upd_other _ _ e]; exact (h.slots t).nms (hS t) nm
    boxes := fun id bx hb => by
      have hid : (H' id).isSome = true := by rw [show H' id = some bx from hb]; rfl
      by_cases e2 : id = id2
      · subst e2
        rw [show H' id = some bx from hb] at H2
        cases H2
        exact ⟨b1, ψ2, hbr1.nms (hH id1 _ hi) nm⟩
      · have e1 := (isold id hid).2
        have hb' : s.H id = some bx := by rw [← Ho id e1 e2]; exact hb
        obtain ⟨b, k1, k2⟩ := h.boxes id bx hb'
        exact ⟨b, nm id b e2 k1, k2.nms (hH id bx hb') nm⟩
    inj := fun id id' b hid hid' k1 k2 => by
      obtain ⟨q1, q2⟩ := isold id hid
      obtain ⟨q3, q4⟩ := isold id' hid'
      have k1 : φ (old id) = some b := (ψold id).symm.trans k1
      have k2 : φ (old id') = some b := (ψold id').symm.trans k2
      exact oldinj id id' q2 q4 (h.inj _ _ b q1 q3 k1 k2)
    zbox := fun b o id hz hid hb => h.zbox b o (old id) hz (isold id hid).1 ((ψold id).symm.trans hb)
    own1 := fun l b e hl => by
      obtain ⟨c1, c2⟩ := con l _ _ hl
      have hl' : spareOf (absAt s l) (conAt φ a w l) = some (b, e) := by rw [← c1, ← c2]; exact hl
      obtain ⟨k0, k⟩ := h.own1 l b e hl'
      rw [c2]
      exact ⟨fun id hid hb => k0 (old id) (isold id hid).1 ((ψold id).symm.trans hb), k⟩
    own2 := fun l l' b e e' hl hl' => by
      obtain ⟨c1, c2⟩ := con l _ _ hl
      obtain ⟨c3, c4⟩ := con l' _ _ hl'
      exact h.own2 l l' b e e' (by rw [← c1, ← c2]; exact hl) (by rw [← c3, ← c4]; exact hl')
    mut1 := fun id b hid hb => h.mut1 (old id) b (isold id hid).1 ((ψold id).symm.trans hb)
    mut2 := fun l b e hl => by
      obtain ⟨c1, c2⟩ := con l _ _ hl
      exact h.mut2 l b e (by rw [← c1, ← c2]; exact hl)
    names := fun id b hb => by
      have e : id ≠ id2 := fun e => by subst e; rw [h0] at hb; cases hb
      exact nm id b e (h.names id b hb)
    fresh := fun id hid => by
      have e : id ≠ id2 := fun e => by subst e; exact absurd hid (by show ¬ s.c ≤ id; omega)
      show ψ id = none
      rw [ψo id e]; exact h.fresh id hid
    defs := fun d hd => by
      obtain ⟨r, k1, k2, k3, k4⟩ := h.defs d hd
      exact ⟨r, k1, k2, k3, fun id hid hb => k4 (old id) (isold id hid).1 ((ψold id).symm.trans hb)⟩ }
theorem Aw.renameS {x : Code} {id1 id2 j n cap : Nat} {cs : List A} (hi : s.H id1 = some (.cells cs)) (ht : s.S j = .gs id1 n cap) (h12 : id2 ≠ id1) (h2 : s.H id2 = none) (h0 : X.φ0 id2 = none) (hc : id2 < s.c)
    (hS : ∀ t, Nms (· ≠ id2) (s.S t)) (hH : ∀ id bx, s.H id = some bx → NmsB (· ≠ id2) bx) (hown : ∀ v ∈ cs, ∀ u, spareOf v u = none)
    (h : Aw X r x Q ⟨upd s.S j (.gs id2 n cap), updH (updH s.H id1 none) id2 (some (.cells cs)), s.c⟩) : Aw X r x Q s :=
  fun φ Z a w hr => h _ Z a w (hr.renameS hi ht h12 h2 h0 hc hS hH hown)
end
section
variable {X : Ctx} {T : Tab} {r : Option Nat} {s : St} {o : Oper} {K : St → Prop}
theorem DoesR.litG (hT : T.Ok X.P) {d t n : Nat} {parts : Array (Nat × Operand)} {cs : List A} {p : List Ob} (ho : o.op = .buildSlice t n parts) (hd : o.dst = some d) (hl : litW T s.S t n parts = some (cs, p)) (hp : AllP p)
    (k : K ⟨upd s.S d (.gs s.c n n), updH s.H s.c (some (.cells cs)), s.c + 1⟩) : DoesR X r o s K := by
  intro hdn φ Z a w hr next Q hn
  obtain ⟨dst, op, ty, pos, aft, gd⟩ := o
  simp only at ho hd
  subst ho; subst hd
  obtain ⟨e, cs0, cells', rfl, k1, k2, k3⟩ := litW_run hT hr.sees hl hp
  exact wp_run (fun c => by simp) (by rw [ex_lit, Sem.run_bind, k2]; rfl) (hn _ _ Z _ _ k (hr.newCells (ty := e) (hdn d rfl) (hr.fresh _ (Nat.le_refl _)) (Nat.le_succ _) (Nat.lt_succ_self _) k1 (.gs _ _ _ _ (by simp) (Nat.le_refl _) k3) (fun p => by simp [spareOf])))
theorem run_append_none (P : Program) (w : World) (t ty e : TypeId) (i : TypeInfo) (ht : P.underlying t = some (.slice e)) (hi : P.info? e = some i) (g n cap : Nat) (hroom : n ≤ cap) :
    (Builtin.append_ #[t, t] ty #[.slice (some ⟨g, 0, none⟩) n cap, .slice none 0 0]).run P w = .ok (.slice (some ⟨g, 0, none⟩) n cap) w := by
  simp [Builtin.append_, run_underlying ht, sizeOf, typeInfo, hi, Builtin.lenOf, hroom, Builtin.firstCells, storeCells]
theorem DoesR.appGs0 (hT : T.Ok X.P) {d t e id n cap : Nat} {x y : Operand} {cap2 : Cap} (ho : o.op = .call { callee := .builtin .append, args := #[x, y], argTypes := #[t, t] }) (hd : o.dst = some d)
    (ht : T.ty t = .slice e) (he : T.ty e ≠ .none) (hx : rd s.S x = .gs id n cap) (hy : rd s.S y = .sl true cap2 [])
    (k : K ⟨upd s.S d (.gs id n cap), s.H, s.c⟩) : DoesR X r o s K := by
  intro hdn φ Z a w hr next Q hn
  obtain ⟨dst, op, ty, pos, aft, gd⟩ := o
  simp only at ho hd
  subst ho; subst hd
  obtain ⟨i, hif, hi1, hi2, z, hiz, hzf⟩ := hT.inf e he
  obtain ⟨b, ex, hbk, hnc, hcm0⟩ := inv_gs (hx ▸ hr.sees.rd x)
  have hvy := hy ▸ hr.sees.rd y
  have ey : a.eval y = .slice none 0 0 := by
    rcases inv_sl hvy with ⟨_, _, h⟩ | ⟨h, _⟩ | ⟨h, _⟩
    · exact h
    · cases h
    · cases h
  have hev : (#[x, y] : Array Operand).map a.eval = #[a.eval x, a.eval y] := by simp
  have h2 := hr.put_down hr.more_refl (hdn d rfl) (x := .gs id n cap) (v := .slice (some ⟨b, 0, none⟩) n cap) (.gs _ _ _ _ hbk hnc hcm0) (fun p => by simp [spareOf])
  refine wp_run (fun c => by simp) ?_ (hn _ _ Z _ _ k h2)
  rw [ex_builtin, bi_append, Sem.run_bind, hev, ex, ey, run_append_none X.P w t ty e i (und_slice hT ht) hif b n cap hnc]; rfl
theorem Does.post {ops : Array Oper} {K' : St → Prop} (h : Does X r ops o s K') (hk : ∀ s1, K' s1 → ∀ φ Z a w, Rel X φ Z s1 a w → ∃ s2 φ2 Z2, K s2 ∧ Rel X φ2 Z2 s2 a w) : Does X r ops o s K :=
  fun hd φ Z a w hr next Q hn => h hd φ Z a w hr next Q fun s' φ' Z' a' w' k hr' => by
    obtain ⟨s2, φ2, Z2, h1, h2⟩ := hk s' k φ' Z' a' w' hr'
    exact hn s2 φ2 Z2 a' w' h1 h2
end
section
variable {X : Ctx} {r : Option Nat} {φ : Names} {Z : Still} {s : St} {a : Act} {w : World} {Q : Exit → St → Prop}
theorem Rel.freezeG (hrel : Rel X φ Z s a w) {id t n cap sz : Nat} {cs : List A} (es : List (List A)) (hi : s.H id = some (.cells cs)) (ht : s.S t = .gs id n cap) (hr : RowsAre cs es sz) (hn : es.length = n) :
    ∃ Z', Rel X φ Z' ⟨upd s.S t (.sl false .any es), updH s.H id none, s.c⟩ a w := by
  have hw : Rel X φ Z ⟨upd s.S t (.ms id 0 n), s.H, s.c⟩ a w := hrel.weaken (fun t' => by
    by_cases e : t' = t
    · subst e; rw [upd_same, ht]; exact A.Le.ms _ _ _
    · rw [upd_other _ _ e]; exact .refl _) (fun id bx h => ⟨bx, h, .refl _⟩) (Nat.le_refl _)
  obtain ⟨b, hb, _⟩ := hw.boxes id _ hi
  obtain ⟨Z', h1, h2, h3⟩ := hw.freeze hi hb
  have h4 := h3.slots t
  rw [show (⟨upd s.S t (.ms id 0 n), updH s.H id none, s.c⟩ : St).S t = .ms id 0 n from upd_same _ _ _] at h4
  have h5 := Rel.reslot (s := ⟨upd s.S t (.ms id 0 n), updH s.H id none, s.c⟩) h3 (hw.sl_of hi hb hr hn h1 h2 h4) (fun v p e => by simp [spareOf] at e)
  have e : upd (upd s.S t (.ms id 0 n)) t (.sl false .any es) = upd s.S t (.sl false .any es) := by
    funext t'
    by_cases e : t' = t
    · subst e; rw [upd_same, upd_same]
    · rw [upd_other _ _ e, upd_other _ _ e, upd_other _ _ e]
  refine ⟨Z', ?_⟩
  simp only at h5
  rw [e] at h5
  exact h5
theorem Aw.freezeG {x : Code} {id t n cap sz : Nat} {cs : List A} (es : List (List A)) (hi : s.H id = some (.cells cs)) (ht : s.S t = .gs id n cap) (hr : RowsAre cs es sz) (hn : es.length = n)
    (h : Aw X r x Q ⟨upd s.S t (.sl false .any es), updH s.H id none, s.c⟩) : Aw X r x Q s := fun φ Z a w hrel => by
  obtain ⟨Z', h1⟩ := hrel.freezeG es hi ht hr hn
  exact h φ Z' a w h1
end
end Go.AL

namespace Go.AL
open Go Go.RowKit
section
variable (ρ : Operand → Value) (d : Option Tmp) (ty : TypeId) (p : String) (af : Array Edge) (g : Option (Nat × Bool))
theorem ex_insert (t : TypeId) (x k v : Operand) : execOp ρ ⟨d, .insert t x k v, ty, p, af, g⟩ = (do Instr.mapUpdate t (ρ x) (ρ k) (ρ v); pure .skip) := rfl
end
section
variable {X : Ctx} {T : Tab} {r : Option Nat} {s : St} {o : Oper} {K : St → Prop}
theorem DoesP.mapInsert (hT : T.Ok X.P) {t kt et id : Nat} {x k v : Operand} {kvs : List (A × A)} {ks : List Value} {kv : Value} {j : Option Nat} (ho : o.op = .insert t x k v) (hd : o.dst = none) (ht : T.ty t = .map kt et)
    (hx : rd s.S x = .mp id) (hi : s.H id = some (.map kvs)) (hk : concA (rd s.S k) = some kv) (hks : concKeys kvs = some ks) (hc : pureRun X.P (Instr.checkKey false 10000 kt kv) = some ()) (hf : findIx X.P kt kv ks = some j)
    (hsame : ∀ i, j = some i → Instr.sameBits 10000 (ks.getD i undef) kv = true) (hK : K { s with H := updH s.H id (some (.map (upKV kvs (rd s.S k) (rd s.S v).down j))) }) : DoesP X r o s K := by
  intro hdn φ Z a w hr next Q hn
  obtain ⟨dst, op, ty, pos, aft, gd⟩ := o
  simp only at ho hd
  subst ho; subst hd
  obtain ⟨b, e0, hb⟩ := inv_mp (hx ▸ hr.sees.rd x)
  obtain ⟨es, h1, h2, h3, hset⟩ := hr.setMap hi hb
  have ek := conc_vr (hr.sees.rd k) hk
  have hkeys : es.toList.map (·.key) = ks := concKeys_ok hks (by simpa using h2) fun i hi => by
    obtain ⟨e, e1, _, e3, _⟩ := h3 i hi
    exact ⟨e, by simpa using e1, e3⟩
  have hfk := findKey_of (w := w) (by rw [hkeys]; exact hf)
  have hck : (Instr.checkKey false 10000 kt kv).run X.P w = .ok () w := pureRun_ok hc
  have hvk : VR φ Z w (rd s.S k) kv := ek ▸ hr.sees.rd k
  have hvv := (hr.sees.rd v).down
  cases j with
  | some j =>
    obtain ⟨e, e1, e2⟩ := hfk
    have hlt : j < kvs.length := by
      have := (List.getElem?_eq_some_iff.1 e1).1
      simp only [Array.length_toList] at this; omega
    have e1' : es[j]? = some e := by rw [← Array.getElem?_toList]; exact e1
    have hold : ks.getD j undef = e.key := by rw [← hkeys]; simp [List.getD_eq_getElem?_getD, e1']
    have hsb := hsame j rfl
    rw [hold] at hsb
    have hset' := hset _ _ (by simp [h2]) (KvR.set h3 h2 hlt hvk hvv (g := fun e => { e with key := kv, val := a.eval v }) (fun e => ⟨rfl, rfl, rfl⟩))
    refine wp_skip (fun c => by simp) ?_ (hn _ Z _ _ hK hset')
    rw [ex_insert, Sem.run_bind, e0, ek]
    simp [Instr.mapUpdate, run_und (und_map hT ht), run_getMap h1, hck, e2, Instr.keyThatStays, e1', hsb, run_setMap h1]
  | none =>
    have hset' := hset _ _ (by simp [h2]) (KvR.push h3 h2 hvk hvv)
    refine wp_skip (fun c => by simp) ?_ (hn _ Z _ _ hK hset')
    rw [ex_insert, Sem.run_bind, e0, ek]
    simp [Instr.mapUpdate, run_und (und_map hT ht), run_getMap h1, hck, hfk, run_setMap h1]
end
end Go.AL

namespace Go.AL
open Go Go.RowKit
theorem rows_flat {sz : Nat} (h0 : 0 < sz) {es : List (List A)} (h : ∀ e ∈ es, e.length = sz) (hd : es.flatten.map A.down = es.flatten) (junk : List A) : RowsAre (es.flatten ++ junk) es sz := ⟨h, by rw [List.length_append, flat_len h]; omega, fun i j hi hj => by
  have hk : i * sz + j < es.length * sz := by
    have : (i + 1) * sz ≤ es.length * sz := Nat.mul_le_mul_right _ hi
    rw [Nat.succ_mul] at this; omega
  have h1 := flat_get h (i * sz + j) hk
  have e1 : (i * sz + j) / sz = i := by rw [Nat.add_comm, Nat.add_mul_div_right _ _ h0, Nat.div_eq_of_lt hj, Nat.zero_add]
  have e2 : (i * sz + j) % sz = j := by rw [Nat.add_comm, Nat.add_mul_mod_self_right]; exact Nat.mod_eq_of_lt hj
  rw [e1, e2] at h1
  have hl : i * sz + j < es.flatten.length := by rw [flat_len h]; exact hk
  have h2 : (es.flatten ++ junk).getD (i * sz + j) .un = es.flatten.getD (i * sz + j) .un := by
    rw [List.getD_eq_getElem?_getD, List.getElem?_append_left hl, ← List.getD_eq_getElem?_getD]
  have h3 : (es.flatten.getD (i * sz + j) .un).down = es.flatten.getD (i * sz + j) .un := by
    have := congrArg (fun l : List A => l.getD (i * sz + j) .un) hd
    simp only [List.getD_eq_getElem?_getD, List.getElem?_map, List.getElem?_eq_getElem hl, Option.map_some, Option.getD_some] at this ⊢
    exact this
  rw [h2, h3, h1]⟩
section
variable {X : Ctx} {T : Tab} {r : Option Nat} {s : St} {o : Oper} {K : St → Prop}
theorem DoesR.post {K' : St → Prop} (h : DoesR X r o s K') (hk : ∀ s1, K' s1 → ∀ φ Z a w, Rel X φ Z s1 a w → ∃ s2 φ2 Z2, K s2 ∧ Rel X φ2 Z2 s2 a w) : DoesR X r o s K :=
  fun hd φ Z a w hr next Q hn => h hd φ Z a w hr next Q fun s' φ' Z' a' w' k hr' => by
    obtain ⟨s2, φ2, Z2, h1, h2⟩ := hk s' k φ' Z' a' w' hr'
    exact hn s2 φ2 Z2 a' w' h1 h2
theorem DoesR.appFz (hT : T.Ok X.P) {d t e id n cap m : Nat} {x y : Operand} {nil2 : Bool} {cap2 : Cap} {es ys : List (List A)} (ho : o.op = .call { callee := .builtin .append, args := #[x, y], argTypes := #[t, t] }) (hd : o.dst = some d)
    (ht : T.ty t = .slice e) (he : T.ty e ≠ .none) (h0 : 0 < T.sz e) (hx : rd s.S x = .gs id n cap) (hi : s.H id = some (.cells (es.flatten ++ List.replicate m A.un))) (hcl : (es.flatten ++ List.replicate m A.un).length = cap * T.sz e) (hen : es.length = n) (hes : ∀ z ∈ es, z.length = T.sz e) (hed : es.flatten.map A.down = es.flatten)
    (hy : rd s.S y = .sl nil2 cap2 ys) (hne : ys ≠ []) (hs : ∀ z ∈ ys, z.length = T.sz e) (hyd : ys.flatten.map A.down = ys.flatten) (hb : (n + ys.length) * T.by' e ≤ 140737488355328) (hm : n + ys.length ≤ maxLen) (hidc : id < s.c)
    (k : ∀ H1 c1, (∀ i, i ≠ id → i < s.c → H1 i = s.H i) → s.c ≤ c1 → K ⟨upd s.S d (.sl false .any (es ++ ys)), H1, c1⟩) : DoesR X r o s K := by
  have hfl : es.flatten.length = n * T.sz e := by rw [flat_len hes, hen]
  have hyl : ys.flatten.length = ys.length * T.sz e := flat_len hs
  have hall : ∀ z ∈ es ++ ys, z.length = T.sz e := fun z hz => (List.mem_append.1 hz).elim (hes z) (hs z)
  have hdn : (es ++ ys).flatten.map A.down = (es ++ ys).flatten := by rw [List.flatten_append, List.map_append, hed, hyd]
  have hl : (es ++ ys).length = n + ys.length := by rw [List.length_append, hen]
  have up2 : ∀ (v v' : A), upd (upd s.S d v) d v' = upd s.S d v' := fun v v' => by
    funext t'
    by_cases e : t' = d
    · subst e; rw [upd_same, upd_same]
    · rw [upd_other _ _ e, upd_other _ _ e, upd_other _ _ e]
  refine DoesR.post (K' := fun s1 => ∃ id' cap' junk H0 c0, s1 = ⟨upd s.S d (.gs id' (n + ys.length) cap'), H0, c0⟩ ∧ H0 id' = some (.cells ((es ++ ys).flatten ++ junk)) ∧ (∀ i, i ≠ id → i < s.c → updH H0 id' none i = s.H i) ∧ s.c ≤ c0)
    (DoesR.appGs hT ho hd ht he h0 hx hi hcl hy hne hs hb hm (fun h => ?_) (fun cap' h => ?_)) ?_
  · refine ⟨id, cap, (List.replicate m A.un).drop ys.flatten.length, _, _, rfl, ?_, fun i h1 h2 => ?_, Nat.le_refl _⟩
    · rw [updH_same, hyd]
      unfold setSeg
      rw [← hfl, List.take_left, List.drop_append, List.drop_eq_nil_of_le (Nat.le_add_right _ _), List.nil_append, Nat.add_sub_cancel_left, List.flatten_append, List.append_assoc]
    · rw [updH_other _ _ h1, updH_other _ _ h1]
  · refine ⟨s.c, cap', List.replicate ((cap' - (n + ys.length)) * T.sz e) A.un, _, _, rfl, ?_, fun i h1 h2 => ?_, Nat.le_succ _⟩
    · rw [updH_same, hyd, ← hfl, List.take_left, hed, List.flatten_append]
    · rw [updH_other _ _ (by omega), updH_other _ _ (by omega)]
  · rintro s1 ⟨id', cap', junk, H0, c0, rfl, h1, h2, h3⟩ φ Z a w hr
    obtain ⟨Z', h4⟩ := hr.freezeG (t := d) (id := id') (n := n + ys.length) (cap := cap') (sz := T.sz e) (es ++ ys) h1 (upd_same _ _ _) (rows_flat h0 hall hdn junk) hl
    rw [show (⟨upd (upd s.S d (.gs id' (n + ys.length) cap')) d (.sl false .any (es ++ ys)), updH H0 id' none, c0⟩ : St) = ⟨upd s.S d (.sl false .any (es ++ ys)), updH H0 id' none, c0⟩ by rw [up2]] at h4
    exact ⟨_, φ, Z', k _ _ h2 h3, h4⟩
end
end Go.AL

namespace Go.AL.Q
open Go
noncomputable section
structure Scale where
  seen : Int
  lo : Int
  hi : Int
  deriving DecidableEq
def Scale.c (s : Scale) : List A := [.int s.seen, .int s.lo, .int s.hi]
theorem Scale.free (s : Scale) : ∀ x ∈ s.c, Free x := allC (.s _) (allC (.s _) (all1 (.s _)))
def spannedF (lo hi a b : Int) : Bool := cond (wi lo a b) (wi hi lo b) false
structure Rce where
  nn : Bool
  numbers : List Int
  kn : Bool
  keep : List Int
  sn : Bool
  spawn : List Int
  line : Int
  mesh : Int
  deriving DecidableEq
def Rce.c (r : Rce) : List A := [.sl r.nn .any (ints r.numbers), .sl r.kn .any (ints r.keep), .sl r.sn .any (ints r.spawn), .int r.line, .int r.mesh]
theorem Rce.free (r : Rce) : ∀ x ∈ r.c, Free x := allC (free_ints _ _ _) (allC (free_ints _ _ _) (allC (free_ints _ _ _) (allC (.s _) (all1 (.s _)))))
structure Rce.Fit (r : Rce) : Prop where
  n : (r.numbers.length : Int) ≤ 9223372036854775806
  k : (r.keep.length : Int) ≤ 9223372036854775806
  s : (r.spawn.length : Int) ≤ 9223372036854775806
def Rce.many (r : Rce) : Nat := r.numbers.length
def Rce.head (r : Rce) : Bool := cond (cond (cond (cond (wi r.many 1 6) ((r.keep.length : Int) == r.many) false) ((r.spawn.length : Int) == r.many) false) (wi r.line 0 100000000) false) (wi r.mesh 0 ((r.many : Int) - 1)) false
def Rce.ageOk (r : Rce) (i : Nat) : Bool := cond (cond (wi (r.numbers.getD i 0) 0 100000) (wi (r.keep.getD i 0) 0 1000) false) (wi (r.spawn.getD i 0) 0 100) false
def Rce.ok (r : Rce) : Bool := cond r.head ((List.range r.many).all r.ageOk) false
structure RceOk (r : Rce) : Prop where
  m1 : 1 ≤ r.many
  m6 : r.many ≤ 6
  k : r.keep.length = r.many
  s : r.spawn.length = r.many
  l : 0 ≤ r.line ∧ r.line ≤ 100000000
  h : 0 ≤ r.mesh ∧ r.mesh < r.many
  nb : ∀ i, i < r.many → 0 ≤ r.numbers.getD i 0 ∧ r.numbers.getD i 0 ≤ 100000
  kb : ∀ i, i < r.many → 0 ≤ r.keep.getD i 0 ∧ r.keep.getD i 0 ≤ 1000
  sb : ∀ i, i < r.many → 0 ≤ r.spawn.getD i 0 ∧ r.spawn.getD i 0 ≤ 100
theorem RceOk.of {r : Rce} (h : r.ok = true) : RceOk r := by
  unfold Rce.ok at h
  have h1 := ac1 h
  have h2 := fun i hi => List.all_eq_true.1 (ac2 h) i (List.mem_range.2 hi)
  unfold Rce.head at h1
  have a1 := wi_iff.1 (ac1 (ac1 (ac1 (ac1 h1))))
  have a2 := eq_of_beq (ac2 (ac1 (ac1 (ac1 h1))))
  have a3 := eq_of_beq (ac2 (ac1 (ac1 h1)))
  have a4 := wi_iff.1 (ac2 (ac1 h1))
  have a5 := wi_iff.1 (ac2 h1)
  refine ⟨by omega, by omega, by omega, by omega, a4, by omega, fun i hi => ?_, fun i hi => ?_, fun i hi => ?_⟩
  · exact wi_iff.1 (ac1 (ac1 (h2 i hi)))
  · exact wi_iff.1 (ac2 (ac1 (h2 i hi)))
  · exact wi_iff.1 (ac2 (h2 i hi))
def catchF (l : List Int) (mesh : Nat) : Nat → Int → List Int
  | 0, take => l
  | k + 1, take => if mesh ≤ k then catchF (l.set k (l.getD k 0 - min (l.getD k 0) take)) mesh k (take - min (l.getD k 0) take) else l
def caughtF (r : Rce) (l : List Int) (take : Int) : List Int := catchF l r.mesh.toNat r.many take
def spawnN (r : Rce) (l : List Int) (k : Nat) : List Int := (List.range k).map fun i => l.getD i 0 * r.spawn.getD i 0
def spawnF (r : Rce) (l : List Int) : Int := (spawnN r l r.many).sum
def winN (r : Rce) (l : List Int) : Nat → List Int
  | 0 => List.replicate r.many 0
  | k + 1 => (winN r l k).set (min (k + 1) (r.many - 1)) ((winN r l k).getD (min (k + 1) (r.many - 1)) 0 + (l.getD k 0 * r.keep.getD k 0).tdiv 1000)
def winF (r : Rce) (l : List Int) (recruits : Int) : List Int := (winN r l r.many).set 0 ((winN r l r.many).getD 0 0 + recruits)
def yearF (r : Rce) (l : List Int) (take recruits : Int) : Int × List Int := (spawnF r (caughtF r l take), winF r (caughtF r l take) recruits)
def playF (r : Rce) (l : List Int) : List Int → List Int → List Int
  | t :: ts, x :: xs => (yearF r l t x).1 :: playF r (yearF r l t x).2 ts xs
  | _, _ => []
structure Pop (r : Rce) (b : Int) (l : List Int) : Prop where
  len : l.length = r.many
  pos : ∀ x ∈ l, 0 ≤ x
  sum : l.sum ≤ b
structure Pop' (n : Nat) (b : Int) (l : List Int) : Prop where
  len : l.length = n
  pos : ∀ x ∈ l, 0 ≤ x
  sum : l.sum ≤ b
end
end Go.AL.Q

namespace Go.AL.Q
open Go
noncomputable section
structure NL where
  n : Bool
  l : List Int
  deriving DecidableEq
def NL.c (x : NL) : List A := [.sl x.n .any (ints x.l)]
theorem NL.free (x : NL) : ∀ y ∈ x.c, Free y := all1 (free_ints _ _ _)
structure NR where
  n : Bool
  l : List NL
  deriving DecidableEq
def NR.c (x : NR) : List A := [.sl x.n .any (x.l.map NL.c)]
theorem NR.free (x : NR) : ∀ y ∈ x.c, Free y := all1 (free_map NL.free _ _ _)
structure Fish where
  rn : Bool
  races : List Rce
  mn : Bool
  most : List Int
  sn : Bool
  seasons : List NR
  deriving DecidableEq
def Fish.c (f : Fish) : List A := [.sl f.rn .any (f.races.map Rce.c), .sl f.mn .any (ints f.most), .sl f.sn .any (f.seasons.map NR.c)]
theorem Fish.free (f : Fish) : ∀ x ∈ f.c, Free x := allC (free_map Rce.free _ _ _) (allC (free_ints _ _ _) (all1 (free_map NR.free _ _ _)))
def nlFit (x : NL) : Prop := (x.l.length : Int) ≤ 9223372036854775806
structure Fish.Fit (f : Fish) : Prop where
  r : (f.races.length : Int) ≤ 9223372036854775806
  m : (f.most.length : Int) ≤ 9223372036854775806
  s : (f.seasons.length : Int) ≤ 9223372036854775806
  race : ∀ r ∈ f.races, r.Fit
  sea : ∀ s ∈ f.seasons, (s.l.length : Int) ≤ 9223372036854775806 ∧ ∀ l ∈ s.l, nlFit l
def Fish.many (f : Fish) : Nat := f.races.length
def Fish.recs (f : Fish) (s r : Nat) : List Int := ((f.seasons.getD s ⟨false, []⟩).l.getD r ⟨false, []⟩).l
def Fish.years (f : Fish) : Nat := (f.recs 0 0).length
def recOk (years : Nat) (x : NL) : Bool := cond ((x.l.length : Int) == years) (x.l.all fun n => wi n 0 100000) false
def seasonOk (many years : Nat) (s : NR) : Bool := cond ((s.l.length : Int) == many) (s.l.all (recOk years)) false
def Fish.head (f : Fish) : Bool := cond (cond (wi f.many 1 3) ((f.most.length : Int) == f.many) false) (wi f.seasons.length 1 6) false
def Fish.raceOk (f : Fish) (i : Nat) : Bool := cond ((f.races.getD i ⟨false, [], false, [], false, [], 0, 0⟩).ok) (wi (f.most.getD i 0) 0 100) false
def Fish.ok (f : Fish) : Bool := cond (cond (cond f.head ((List.range f.many).all f.raceOk) false) (wi f.years 1 10) false) (f.seasons.all (seasonOk f.many f.years)) false
def race0 : Rce := ⟨false, [], false, [], false, [], 0, 0⟩
def Fish.race (f : Fish) (i : Nat) : Rce := f.races.getD i race0
structure FishOk (f : Fish) : Prop where
  m1 : 1 ≤ f.many
  m3 : f.many ≤ 3
  most : f.most.length = f.many
  mb : ∀ i, i < f.many → 0 ≤ f.most.getD i 0 ∧ f.most.getD i 0 ≤ 100
  s1 : 1 ≤ f.seasons.length
  s6 : f.seasons.length ≤ 6
  race : ∀ i, i < f.many → RceOk (f.race i)
  y1 : 1 ≤ f.years
  y10 : f.years ≤ 10
  sl : ∀ s, s < f.seasons.length → (f.seasons.getD s ⟨false, []⟩).l.length = f.many
  rl : ∀ s r, s < f.seasons.length → r < f.many → (f.recs s r).length = f.years
  rb : ∀ s r, s < f.seasons.length → r < f.many → ∀ x ∈ f.recs s r, 0 ≤ x ∧ x ≤ 100000
theorem FishOk.of {f : Fish} (h : f.ok = true) : FishOk f := by
  unfold Fish.ok at h
  have h1 := ac1 (ac1 (ac1 h))
  have h2 := fun i hi => List.all_eq_true.1 (ac2 (ac1 (ac1 h))) i (List.mem_range.2 hi)
  have h3 := wi_iff.1 (ac2 (ac1 h))
  have h4 := List.all_eq_true.1 (ac2 h)
  unfold Fish.head at h1
  have a1 := wi_iff.1 (ac1 (ac1 h1))
  have a2 := eq_of_beq (ac2 (ac1 h1))
  have a3 := wi_iff.1 (ac2 h1)
  have sg : ∀ s, s < f.seasons.length → seasonOk f.many f.years (f.seasons.getD s ⟨false, []⟩) = true := fun s hs => by
    have : f.seasons.getD s ⟨false, []⟩ ∈ f.seasons := by simp [List.getD_eq_getElem?_getD, hs]
    exact h4 _ this
  have sl : ∀ s, s < f.seasons.length → (f.seasons.getD s ⟨false, []⟩).l.length = f.many := fun s hs => by
    have := eq_of_beq (ac1 (sg s hs)); omega
  have rg : ∀ s r, s < f.seasons.length → r < f.many → recOk f.years ((f.seasons.getD s ⟨false, []⟩).l.getD r ⟨false, []⟩) = true := fun s r hs hr => by
    have : (f.seasons.getD s ⟨false, []⟩).l.getD r ⟨false, []⟩ ∈ (f.seasons.getD s ⟨false, []⟩).l := by
      have := sl s hs
      generalize f.seasons.getD s ⟨false, []⟩ = S at this ⊢
      rw [List.getD_eq_getElem?_getD, List.getElem?_eq_getElem (by omega)]
      exact List.getElem_mem _
    exact List.all_eq_true.1 (ac2 (sg s hs)) _ this
  refine ⟨by omega, by omega, by omega, fun i hi => wi_iff.1 (ac2 (h2 i hi)), by omega, by omega, fun i hi => RceOk.of (ac1 (h2 i hi)), by omega, by omega, sl, fun s r hs hr => ?_, fun s r hs hr x hx => ?_⟩
  · have := eq_of_beq (ac1 (rg s r hs hr)); show (((f.seasons.getD s ⟨false, []⟩).l.getD r ⟨false, []⟩).l).length = f.years; omega
  · exact wi_iff.1 (List.all_eq_true.1 (ac2 (rg s r hs hr)) x hx)
def Fish.b1 (f : Fish) : Bool := cond f.head ((List.range f.many).all f.raceOk) false
def takeF (q most : Int) : Int := (q * most + 99).tdiv 100
def Fish.spawns (f : Fish) (r s : Nat) (q : Int) : List Int := playF (f.race r) (f.race r).numbers (List.replicate (f.recs s r).length (takeF q (f.most.getD r 0))) (f.recs s r)
def idxF (p : Int → Bool) : Nat → List Int → Int
  | _, [] => -1
  | k, n :: l => if p n then (k : Int) else idxF p (k + 1) l
def Fish.breakY (f : Fish) (r s : Nat) (q : Int) : Int := idxF (fun n => decide (n < (f.race r).line)) 0 (f.spawns r s q)
def Fish.holds (f : Fish) (q : Int) : Bool := (List.range f.many).all fun r => (List.range f.seasons.length).all fun s => !decide (f.breakY r s q ≥ 0)
def firstS (f : Fish) (q : Int) (r : Nat) : List Nat → Int × Int × Int → Int × Int × Int
  | [], b => b
  | s :: ss, b => firstS f q r ss (if f.breakY r s q ≥ 0 ∧ (b.2.2 < 0 ∨ f.breakY r s q < b.2.2) then ((r : Int), (s : Int), f.breakY r s q) else b)
def firstR (f : Fish) (q : Int) : List Nat → Int × Int × Int → Int × Int × Int
  | [], b => b
  | r :: rs, b => firstR f q rs (firstS f q r (List.range f.seasons.length) b)
def Fish.first (f : Fish) (q : Int) : Int × Int × Int := firstR f q (List.range f.many) (0, 0, -1)
def Fish.firstR (f : Fish) (q : Int) : List A := if f.ok then (if wi q 0 10000 then (if (f.first q).2.2 < 0 then [.int 0, .int 0, .int 0, .int 4] else [.int (f.first q).1, .int (f.first q).2.1, .int (f.first q).2.2, .int 0]) else [.int 0, .int 0, .int 0, .int 7]) else [.int 0, .int 0, .int 0, .int 93]
end
end Go.AL.Q

namespace Go.AL.Br
open Go Go.AL Go.AL.Q
structure Pile where
  nn : Bool
  st : List Int
  girth : Int
  play : Int
def Pile.c (p : Pile) : List A := [.sl p.nn .any (ints p.st), .int p.girth, .int p.play]
theorem Pile.free (p : Pile) : ∀ x ∈ p.c, Free x := allC (free_ints _ _ _) (allC (.s _) (all1 (.s _)))
def stOk (n : Int) : Bool := wi n 1 500
def Pile.ok (p : Pile) : Bool := cond (cond (cond (wi p.st.length 1 10) (wi p.girth 1 5000) false) (wi p.play 0 100) false) (p.st.all stOk) false
def Pile.chk (p : Pile) : Int := if p.ok then 0 else 60
structure Pile.Ok (p : Pile) : Prop where
  n : 1 ≤ p.st.length ∧ p.st.length ≤ 10
  g : 1 ≤ p.girth ∧ p.girth ≤ 5000
  pl : 0 ≤ p.play ∧ p.play ≤ 100
  st : ∀ x ∈ p.st, 1 ≤ x ∧ x ≤ 500
theorem Pile.ok_iff {p : Pile} : p.ok = true ↔ p.Ok := by
  unfold Pile.ok
  rw [c_and, c_and, c_and, Bool.and_eq_true, Bool.and_eq_true, Bool.and_eq_true, wi_iff, wi_iff, wi_iff, List.all_eq_true]
  constructor
  · rintro ⟨⟨⟨a, b⟩, c⟩, d⟩; exact ⟨by omega, b, c, fun x hx => wi_iff.1 (d x hx)⟩
  · intro h
    have h1 := h.n
    exact ⟨⟨⟨by omega, h.g⟩, h.pl⟩, fun x hx => wi_iff.2 (h.st x hx)⟩
structure Cask where
  level : Int
  full : Int
  line : Int
  lo : Int
  hi : Int
def Cask.c (c : Cask) : List A := [.int c.level, .int c.full, .int c.line, .int c.lo, .int c.hi]
theorem Cask.free (c : Cask) : ∀ x ∈ c.c, Free x := allC (.s _) (allC (.s _) (allC (.s _) (allC (.s _) (all1 (.s _)))))
def Cask.ok (c : Cask) : Bool := cond (cond (cond (wi c.full 1 1000) (wi c.level 0 c.full) false) (wi c.line 0 c.full) false) (spannedF c.lo c.hi 0 1000) false
structure Cask.Ok (c : Cask) : Prop where
  f : 1 ≤ c.full ∧ c.full ≤ 1000
  l : 0 ≤ c.level ∧ c.level ≤ c.full
  n : 0 ≤ c.line ∧ c.line ≤ c.full
  k : 0 ≤ c.lo ∧ c.lo ≤ c.hi ∧ c.hi ≤ 1000
theorem Cask.ok_iff {c : Cask} : c.ok = true ↔ c.Ok := by
  unfold Cask.ok spannedF
  simp only [c_and, Bool.and_eq_true, wi_iff]
  constructor
  · rintro ⟨⟨⟨a, b⟩, d⟩, e⟩; exact ⟨a, b, d, by omega⟩
  · intro h
    have := h.k
    exact ⟨⟨⟨h.f, h.l⟩, h.n⟩, by omega⟩
def yardOk (y : List Cask) : Bool := cond (wi y.length 1 4) (y.all Cask.ok) false
def yardChk (y : List Cask) : Int := if yardOk y then 0 else 61
structure YardOk (y : List Cask) : Prop where
  n : 1 ≤ y.length ∧ y.length ≤ 4
  c : ∀ c ∈ y, c.Ok
theorem yardOk_iff {y : List Cask} : yardOk y = true ↔ YardOk y := by
  unfold yardOk
  rw [c_and, Bool.and_eq_true, wi_iff, List.all_eq_true]
  constructor
  · rintro ⟨a, b⟩; exact ⟨by omega, fun c hc => Cask.ok_iff.1 (b c hc)⟩
  · intro h
    have := h.n
    exact ⟨by omega, fun c hc => Cask.ok_iff.2 (h.c c hc)⟩
structure Mv where
  fr : Int
  to : Int
  lo : Int
  hi : Int
def Mv.c (m : Mv) : List A := [.int m.fr, .int m.to, .int m.lo, .int m.hi]
theorem Mv.free (m : Mv) : ∀ x ∈ m.c, Free x := allC (.s _) (allC (.s _) (allC (.s _) (all1 (.s _))))
structure Book where
  n : Int
  nn : Bool
  ms : List Mv
def Book.c (b : Book) : List A := [.int b.n, .sl b.nn .any (b.ms.map Mv.c)]
theorem Book.free (b : Book) : ∀ x ∈ b.c, Free x := allC (.s _) (all1 (free_map Mv.free _ _ _))
def mvOk (n : Int) (m : Mv) : Bool := cond (cond (cond (wi m.fr 0 (n - 1)) (wi m.to 0 (n - 1)) false) (!(m.fr == m.to)) false) (spannedF m.lo m.hi 0 1000) false
def Book.b0 (b : Book) : Bool := cond (wi b.n 2 6) (wi b.ms.length 1 10) false
def Book.ok (b : Book) : Bool := cond b.b0 (b.ms.all (mvOk b.n)) false
def Book.chk (b : Book) : Int := if b.ok then 0 else 63
structure Mv.Ok (n : Int) (m : Mv) : Prop where
  f : 0 ≤ m.fr ∧ m.fr < n
  t : 0 ≤ m.to ∧ m.to < n
  ne : m.fr ≠ m.to
  k : 0 ≤ m.lo ∧ m.lo ≤ m.hi ∧ m.hi ≤ 1000
theorem mvOk_iff {n : Int} {m : Mv} : mvOk n m = true ↔ m.Ok n := by
  unfold mvOk spannedF
  simp only [c_and, Bool.and_eq_true, wi_iff, Bool.not_eq_true', beq_eq_false_iff_ne]
  constructor
  · rintro ⟨⟨⟨a, b⟩, d⟩, e⟩; exact ⟨by omega, by omega, d, by omega⟩
  · intro h
    have h1 := h.f
    have h2 := h.t
    have h3 := h.k
    exact ⟨⟨⟨by omega, by omega⟩, h.ne⟩, by omega⟩
structure Book.Ok (b : Book) : Prop where
  n : 2 ≤ b.n ∧ b.n ≤ 6
  l : 1 ≤ b.ms.length ∧ b.ms.length ≤ 10
  m : ∀ m ∈ b.ms, m.Ok b.n
theorem Book.b0_iff {b : Book} : b.b0 = true ↔ (2 ≤ b.n ∧ b.n ≤ 6) ∧ 1 ≤ b.ms.length ∧ b.ms.length ≤ 10 := by
  unfold Book.b0
  rw [c_and, Bool.and_eq_true, wi_iff, wi_iff]
  omega
theorem Book.ok_iff {b : Book} : b.ok = true ↔ b.Ok := by
  unfold Book.ok
  rw [c_and, Bool.and_eq_true, Book.b0_iff, List.all_eq_true]
  constructor
  · rintro ⟨⟨a, b⟩, d⟩; exact ⟨a, b, fun m hm => mvOk_iff.1 (d m hm)⟩
  · intro h; exact ⟨⟨h.n, h.l⟩, fun m hm => mvOk_iff.2 (h.m m hm)⟩
end Go.AL.Br

namespace Go.AL.Br
open Go Go.AL Go.AL.Q
def mx0 (x : Int) : Int := if x > 0 then x else 0
theorem mx0_bd {x : Int} (h : x ≤ 1000) : 0 ≤ mx0 x ∧ mx0 x ≤ 1000 := by unfold mx0; split <;> omega
def c00 : Cask := ⟨0, 0, 0, 0, 0⟩
def ck (y : List Cask) (i : Nat) : Cask := y.getD i c00
theorem ck_get {y : List Cask} {i : Nat} (h : i < y.length) : ck y i = y[i] := by simp [ck, List.getD_eq_getElem?_getD, h]
def lev0 (y : List Cask) : List Int := [(ck y 0).level, (ck y 1).level, (ck y 2).level, (ck y 3).level]
structure LvOk (l : List Int) : Prop where
  n : l.length = 4
  b : ∀ x ∈ l, 0 ≤ x ∧ x ≤ 1000
theorem LvOk.get {l : List Int} (h : LvOk l) {i : Nat} (hi : i < 4) : 0 ≤ l.getD i 0 ∧ l.getD i 0 ≤ 1000 := by
  have hl : i < l.length := by rw [h.n]; exact hi
  have e : l.getD i 0 = l[i] := by simp [List.getD_eq_getElem?_getD, hl]
  rw [e]; exact h.b _ (List.getElem_mem hl)
theorem LvOk.set {l : List Int} (h : LvOk l) (i : Nat) {x : Int} (hx : 0 ≤ x ∧ x ≤ 1000) : LvOk (l.set i x) :=
  ⟨by rw [List.length_set]; exact h.n, fun z hz => by rcases List.mem_or_eq_of_mem_set hz with h1 | rfl; exact h.b z h1; exact hx⟩
theorem ck_ok {y : List Cask} (h : ∀ c ∈ y, c.Ok) (i : Nat) : 0 ≤ (ck y i).level ∧ (ck y i).level ≤ 1000 ∧ 0 ≤ (ck y i).full ∧ (ck y i).full ≤ 1000 ∧ 0 ≤ (ck y i).line ∧ (ck y i).line ≤ 1000 ∧ 0 ≤ (ck y i).lo ∧ (ck y i).lo ≤ (ck y i).hi ∧ (ck y i).hi ≤ 1000 := by
  by_cases hi : i < y.length
  · rw [ck_get hi]
    have hc := h _ (List.getElem_mem hi)
    have h1 := hc.f
    have h2 := hc.l
    have h3 := hc.n
    have h4 := hc.k
    omega
  · have e : ck y i = c00 := by simp [ck, List.getD_eq_getElem?_getD, List.getElem?_eq_none (Nat.le_of_not_lt hi)]
    rw [e]
    exact ⟨by decide, by decide, by decide, by decide, by decide, by decide, by decide, by decide, by decide⟩
theorem lev0_ok {y : List Cask} (h : ∀ c ∈ y, c.Ok) : LvOk (lev0 y) := ⟨rfl, fun x hx => by
  simp only [lev0, List.mem_cons, List.not_mem_nil, or_false] at hx
  rcases hx with rfl | rfl | rfl | rfl
  · have := ck_ok h 0; omega
  · have := ck_ok h 1; omega
  · have := ck_ok h 2; omega
  · have := ck_ok h 3; omega⟩
def lev0K (y : List Cask) (k : Nat) : List Int := (List.range 4).map fun i => if i < k then (ck y i).level else 0
theorem lev0K_succ (y : List Cask) {k : Nat} (h : k < 4) : (lev0K y k).set k (ck y k).level = lev0K y (k + 1) := by
  refine List.ext_getElem (by simp [lev0K]) fun i h1 h2 => ?_
  simp only [lev0K, List.getElem_set, List.getElem_map, List.getElem_range]
  by_cases e : k = i
  · subst e; simp
  · rw [if_neg e]
    by_cases hi : i < k
    · rw [if_pos hi, if_pos (by omega)]
    · rw [if_neg hi, if_neg (by omega)]
theorem lev0K_end {y : List Cask} (h : y.length ≤ 4) : lev0K y y.length = lev0 y := by
  have key : ∀ i, (if i < y.length then (ck y i).level else 0) = (ck y i).level := fun i => by
    by_cases hi : i < y.length
    · rw [if_pos hi]
    · rw [if_neg hi]; simp [ck, List.getD_eq_getElem?_getD, List.getElem?_eq_none (Nat.le_of_not_lt hi)]; rfl
  show [if 0 < y.length then (ck y 0).level else 0, if 1 < y.length then (ck y 1).level else 0, if 2 < y.length then (ck y 2).level else 0, if 3 < y.length then (ck y 3).level else 0] = _
  rw [key, key, key, key]; rfl
def lkK (of : Nat → Int) (l : List Int) (k : Nat) : List Int := l.mapIdx fun i x => if i < k then mx0 (x - of i) else x
theorem lkK_len (of : Nat → Int) (l : List Int) (k : Nat) : (lkK of l k).length = l.length := by simp [lkK]
theorem lkK_zero (of : Nat → Int) (l : List Int) : lkK of l 0 = l := by
  refine List.ext_getElem (by simp [lkK]) fun i h1 h2 => ?_
  simp [lkK]
theorem lkK_get {of : Nat → Int} {l : List Int} {k i : Nat} (h : i < l.length) : (lkK of l k).getD i 0 = if i < k then mx0 (l.getD i 0 - of i) else l.getD i 0 := by
  have h' : i < (lkK of l k).length := by rw [lkK_len]; exact h
  simp [List.getD_eq_getElem?_getD, lkK, h]
theorem lkK_succ {of : Nat → Int} {l : List Int} {k : Nat} (h : k < l.length) : (lkK of l k).set k (mx0 (l.getD k 0 - of k)) = lkK of l (k + 1) := by
  refine List.ext_getElem (by simp [lkK]) fun i h1 h2 => ?_
  simp only [lkK, List.getElem_set, List.getElem_mapIdx]
  by_cases e : k = i
  · subst e; simp [List.getD_eq_getElem?_getD, h]
  · rw [if_neg e]
    by_cases hi : i < k
    · rw [if_pos hi, if_pos (by omega)]
    · rw [if_neg hi, if_neg (by omega)]
theorem lkK_ok {of : Nat → Int} {l : List Int} (h : LvOk l) {k : Nat} (ho : ∀ i, i < k → 0 ≤ of i) : LvOk (lkK of l k) := ⟨by rw [lkK_len]; exact h.n, fun x hx => by
  obtain ⟨i, hi, rfl⟩ := List.getElem_of_mem hx
  have hi' : i < l.length := by rwa [lkK_len] at hi
  have hb := h.b _ (List.getElem_mem hi')
  simp only [lkK, List.getElem_mapIdx]
  split
  · rename_i h; have := ho i h; exact mx0_bd (by omega)
  · exact hb⟩
def dryK (y : List Cask) (of : Nat → Int) (l : List Int) : Nat → Int
  | 0 => -1
  | k + 1 => if cond (decide (mx0 (l.getD k 0 - of k) < (ck y k).line)) (decide (dryK y of l k < 0)) false = true then k else dryK y of l k
theorem dryK_bd (y : List Cask) (of : Nat → Int) (l : List Int) : ∀ k, -1 ≤ dryK y of l k ∧ dryK y of l k < (k : Int)
  | 0 => by simp [dryK]
  | k + 1 => by
    have h := dryK_bd y of l k
    rw [dryK]
    split
    · omega
    · omega
def leakL (y : List Cask) (of : Nat → Int) (l : List Int) : List Int := lkK of l y.length
def dryF (y : List Cask) (of : Nat → Int) (l : List Int) : Int := dryK y of l y.length
def mostOf (y : List Cask) (i : Nat) : Int := (ck y i).hi
def fillL (y : List Cask) (l : List Int) (top : Int) : List Int := if 0 ≤ top then l.set top.toNat (ck y top.toNat).full else l
theorem fill_ok {y : List Cask} (h : ∀ c ∈ y, c.Ok) {l : List Int} (hl : LvOk l) (top : Int) : LvOk (fillL y l top) := by
  unfold fillL
  split
  · exact hl.set _ (by have := ck_ok h top.toNat; omega)
  · exact hl
def raB (b : Bool) (p : Nat → Bool) (k : Nat) : Bool := cond b ((List.range k).all p) false
theorem raB_zero (b : Bool) (p : Nat → Bool) : raB b p 0 = b := by cases b <;> rfl
theorem raB_iff {b : Bool} {p : Nat → Bool} {k : Nat} : raB b p k = true ↔ b = true ∧ ∀ i, i < k → p i = true := by
  unfold raB
  rw [c_and, Bool.and_eq_true, List.all_eq_true]
  exact ⟨fun h => ⟨h.1, fun i hi => h.2 i (List.mem_range.2 hi)⟩, fun h => ⟨h.1, fun i hi => h.2 i (List.mem_range.1 hi)⟩⟩
theorem raB_step {b : Bool} {p : Nat → Bool} {k : Nat} (h : raB b p k = true) : raB b p (k + 1) = p k := by
  rw [raB_iff] at h
  rw [Bool.eq_iff_iff, raB_iff]
  refine ⟨fun hh => hh.2 k (Nat.lt_succ_self _), fun hk => ⟨h.1, fun i hi => ?_⟩⟩
  rcases Nat.lt_succ_iff_lt_or_eq.1 hi with h1 | rfl
  · exact h.2 i h1
  · exact hk
theorem raB_end {b : Bool} {p : Nat → Bool} {k n : Nat} (hk : k ≤ n) (h : raB b p k = false ∨ k = n) : raB b p k = raB b p n := by
  rcases h with h | rfl
  · rw [h]; symm
    rw [← Bool.not_eq_true]
    intro h2
    rw [raB_iff] at h2
    have : raB b p k = true := raB_iff.2 ⟨h2.1, fun i hi => h2.2 i (by omega)⟩
    rw [h] at this; cases this
  · rfl
def lkOf (leaks : List NL) (m : Nat) (i : Nat) : Int := (leaks.getD m ⟨true, []⟩).l.getD i 0
def rowB (y : List Cask) (leaks : List NL) (m : Nat) (i : Nat) : Bool := wi (lkOf leaks m i) (ck y i).lo (ck y i).hi
def mon0 (y : List Cask) (plan : List Int) (leaks : List NL) (m : Nat) : Bool := cond (wi (plan.getD m 0) (-1) (y.length - 1)) (((leaks.getD m ⟨true, []⟩).l.length : Int) == y.length) false
def monB (y : List Cask) (plan : List Int) (leaks : List NL) (m : Nat) : Bool := raB (mon0 y plan leaks m) (rowB y leaks m) y.length
def plan0 (plan : List Int) (leaks : List NL) : Bool := cond (decide ((plan.length : Int) ≤ 12)) ((leaks.length : Int) == plan.length) false
def planOk (y : List Cask) (plan : List Int) (leaks : List NL) : Bool := raB (plan0 plan leaks) (monB y plan leaks) plan.length
theorem plan0_iff {plan : List Int} {leaks : List NL} : plan0 plan leaks = true ↔ plan.length ≤ 12 ∧ leaks.length = plan.length := by
  unfold plan0; rw [c_and, Bool.and_eq_true, decide_eq_true_eq, beq_iff_eq]; omega
theorem mon0_iff {y : List Cask} {plan : List Int} {leaks : List NL} {m : Nat} : mon0 y plan leaks m = true ↔ (-1 ≤ plan.getD m 0 ∧ plan.getD m 0 < y.length) ∧ (leaks.getD m ⟨true, []⟩).l.length = y.length := by
  unfold mon0; rw [c_and, Bool.and_eq_true, wi_iff, beq_iff_eq]; omega
structure PlanOk (y : List Cask) (plan : List Int) (leaks : List NL) : Prop where
  n : plan.length ≤ 12
  l : leaks.length = plan.length
  p : ∀ m, m < plan.length → -1 ≤ plan.getD m 0 ∧ plan.getD m 0 < y.length
  r : ∀ m, m < plan.length → (leaks.getD m ⟨true, []⟩).l.length = y.length
  b : ∀ m i, m < plan.length → i < y.length → (ck y i).lo ≤ lkOf leaks m i ∧ lkOf leaks m i ≤ (ck y i).hi
theorem planOk_iff {y : List Cask} {plan : List Int} {leaks : List NL} : planOk y plan leaks = true ↔ PlanOk y plan leaks := by
  unfold planOk
  rw [raB_iff, plan0_iff]
  constructor
  · rintro ⟨⟨h1, h2⟩, h3⟩
    have h4 := fun m hm => raB_iff.1 (h3 m hm)
    exact ⟨h1, h2, fun m hm => (mon0_iff.1 (h4 m hm).1).1, fun m hm => (mon0_iff.1 (h4 m hm).1).2, fun m i hm hi => wi_iff.1 ((h4 m hm).2 i hi)⟩
  · intro h
    exact ⟨⟨h.n, h.l⟩, fun m hm => raB_iff.2 ⟨mon0_iff.2 ⟨h.p m hm, h.r m hm⟩, fun i hi => wi_iff.2 (h.b m i hm hi)⟩⟩
def runGo (y : List Cask) (of : Nat → Nat → Int) : List Int → Nat → List Int → List Int × Int
  | [], _, l => (l, -1)
  | top :: ts, m, l => if dryF y (of m) l ≥ 0 then (leakL y (of m) l, m) else runGo y of ts (m + 1) (fillL y (leakL y (of m) l) top)
def RunR (y : List Cask) (plan : List Int) (leaks : List NL) : List Int × Int × Int :=
  if yardOk y then
    if planOk y plan leaks then ((runGo y (lkOf leaks) plan 0 (lev0 y)).1.take y.length, (runGo y (lkOf leaks) plan 0 (lev0 y)).2, 0) else ([], 0, 62)
  else ([], 0, 61)
def firstGo (y : List Cask) : Nat → Nat → List Int → Int × Int × Int
  | 0, _, _ => (0, 0, 4)
  | f + 1, m, l => if dryF y (mostOf y) l ≥ 0 then (dryF y (mostOf y) l, m, 0) else firstGo y f (m + 1) (leakL y (mostOf y) l)
def FirstR (y : List Cask) (months : Int) : Int × Int × Int :=
  if yardOk y then if wi months 0 12 then firstGo y months.toNat 0 (lev0 y) else (0, 0, 62) else (0, 0, 61)
end Go.AL.Br

namespace Go.AL.Br
open Go Go.AL Go.AL.Q
def findGo (rec : List Int → Option (List Int)) (y : List Cask) (l : List Int) : List Nat → Option (List Int)
  | [] => none
  | k :: ks => if cond (l.set k (ck y k).full == l) (decide (0 < k)) false then findGo rec y l ks else
      match rec (l.set k (ck y k).full) with
      | some o => some ((k : Int) :: o)
      | none => findGo rec y l ks
def findF (y : List Cask) : Nat → List Int → Option (List Int)
  | 0, _ => some []
  | f + 1, l => if dryF y (mostOf y) l ≥ 0 then none else findGo (findF y f) y (leakL y (mostOf y) l) (List.range y.length)
def KeepR (y : List Cask) (months : Int) : List Int × Int :=
  if yardOk y then if wi months 0 12 then match findF y months.toNat (lev0 y) with
    | some o => (o, 0)
    | none => ([], 4)
  else ([], 62) else ([], 61)
end Go.AL.Br

namespace Go.AL.Br
open Go Go.AL Go.AL.Q
def stv (p : Pile) (k : Int) : Int := p.st.getD k.toNat 0
def wds (p : Pile) (s : List Int) : List Int := s.map (stv p)
theorem wds_len (p : Pile) (s : List Int) : (wds p s).length = s.length := by simp [wds]
def isB (p : Pile) (s : List Int) : Bool := cond (decide ((s.length : Int) > 0)) (wi (wds p s).sum (p.girth - p.play) p.girth) false
def StIn (p : Pile) (s : List Int) : Prop := ∀ k ∈ s, 0 ≤ k ∧ k < p.st.length
theorem stv_in {p : Pile} (h : p.Ok) {k : Int} (hk : 0 ≤ k ∧ k < p.st.length) : 1 ≤ stv p k ∧ stv p k ≤ 500 := by
  have hl : k.toNat < p.st.length := by omega
  have e : stv p k = p.st[k.toNat] := by simp [stv, List.getD_eq_getElem?_getD, hl]
  rw [e]; exact h.st _ (List.getElem_mem hl)
theorem wds_in {p : Pile} (h : p.Ok) {s : List Int} (hs : StIn p s) : ∀ x ∈ wds p s, 0 ≤ x ∧ x ≤ 500 := fun x hx => by
  obtain ⟨k, hk, rfl⟩ := List.mem_map.1 hx
  have := stv_in h (hs k hk); omega
def gn (g : List Bool) (k : Int) : Bool := g.getD k.toNat false
def areRow (n : Int) : List Bool → Int → List Int → Option (List Bool)
  | g, _, [] => some g
  | g, last, k :: ks => if cond (!wi k (last + 1) (n - 1)) true (gn g k) = true then none else areRow n (g.set k.toNat true) k ks
def areGo (p : Pile) : List Bool → List NL → Bool
  | _, [] => true
  | g, s :: ss => match areRow p.st.length g (-1) s.l with
    | none => false
    | some g' => if isB p s.l then areGo p g' ss else false
def g0 : List Bool := List.replicate 10 false
def AreR (p : Pile) (l : List NL) : Bool × Int := if p.ok then (areGo p g0 l, 0) else (false, 60)
theorem areRow_in {n : Int} (hn : 0 ≤ n) : ∀ (ks : List Int) (g : List Bool) (last : Int) (g' : List Bool), -1 ≤ last → last < n ∨ ks = [] → areRow n g last ks = some g' → (∀ k ∈ ks, last < k ∧ k < n) ∧ last + ks.length < n ∨ ks = []
  | [], g, last, g', _, _, _ => .inr rfl
  | k :: ks, g, last, g', h0, h1, h => by
    left
    rw [areRow] at h
    split at h
    · cases h
    · rename_i hc
      have hw : wi k (last + 1) (n - 1) = true := by
        cases hh : wi k (last + 1) (n - 1) with
        | true => rfl
        | false => rw [hh] at hc; exact absurd rfl hc
      have hw := wi_iff.1 hw
      rcases areRow_in hn ks _ k g' (by omega) (.inl (by omega)) h with ⟨h2, h3⟩ | rfl
      · refine ⟨fun x hx => ?_, ?_⟩
        · rcases List.mem_cons.1 hx with rfl | hx
          · omega
          · have := h2 x hx; omega
        · simp only [List.length_cons]; push_cast; omega
      · refine ⟨fun x hx => ?_, ?_⟩
        · rcases List.mem_cons.1 hx with rfl | hx
          · omega
          · cases hx
        · simp; omega
def longF (p : Pile) (g : List Bool) : Nat → List Int → List (List Int)
  | 0, s => if isB p s then [s] else []
  | f + 1, s => (if isB p s then [s] else []) ++ ((List.range p.st.length).flatMap fun (k : Nat) => if cond (decide ((k : Int) ≤ s.getLast?.getD 0)) true (gn g k) = true then [] else longF p g f (s ++ [(k : Int)]))
def barsF (p : Pile) (first : Int) (g : List Bool) : List (List Int) := longF p g p.st.length [first]
def allG (p : Pile) : List Bool := (List.range 10).map fun i => decide (i < p.st.length)
def firstG (g : List Bool) : Nat := g.findIdx (! ·)
def markG (g : List Bool) (s : List Int) : List Bool := s.foldl (fun g k => g.set k.toNat true) g
def betterF (rec : List Bool → List (List Int)) (g : List Bool) (best : List (List Int)) (s : List Int) : List (List Int) :=
  if (rec (markG g s)).length + 1 > best.length then s :: rec (markG g s) else best
def mostF (p : Pile) : Nat → List Bool → List (List Int)
  | 0, _ => []
  | f + 1, g => if g == allG p then [] else (barsF p (firstG g) g).foldl (betterF (mostF p f) g) (mostF p f (g.set (firstG g) true))
def SetR (p : Pile) : List (List Int) × Int := if p.ok then if mostF p 10 g0 = [] then ([], 4) else (mostF p 10 g0, 0) else ([], 60)
end Go.AL.Br

namespace Go.AL.Br
open Go Go.AL Go.AL.Q
theorem gn_set {g : List Bool} {i k : Int} (h : 0 ≤ i ∧ i < g.length) (hk : 0 ≤ k) : gn (g.set i.toNat true) k = (decide (k = i) || gn g k) := by
  unfold gn
  rw [List.getD_eq_getElem?_getD, List.getD_eq_getElem?_getD, List.getElem?_set]
  by_cases e : i = k
  · subst e; rw [if_pos rfl, if_pos (by omega)]; simp
  · rw [if_neg (by omega), decide_eq_false (fun h => e h.symm)]; simp
theorem markG_len (s : List Int) : ∀ g : List Bool, (markG g s).length = g.length := by
  induction s with
  | nil => intro g; rfl
  | cons k s ih => intro g; show (markG (g.set k.toNat true) s).length = _; rw [ih, List.length_set]
theorem markG_gn {s : List Int} : ∀ {g : List Bool}, (∀ k ∈ s, 0 ≤ k ∧ k < g.length) → ∀ {k : Int}, 0 ≤ k → gn (markG g s) k = (decide (k ∈ s) || gn g k) := by
  induction s with
  | nil => intro g _ k _; simp [markG]
  | cons i s ih =>
    intro g h k hk
    show gn (markG (g.set i.toNat true) s) k = _
    rw [ih (fun x hx => by rw [List.length_set]; exact h x (by simp [hx])) hk, gn_set (h i (by simp)) hk]
    by_cases e1 : k = i <;> by_cases e2 : k ∈ s <;> simp [e1, e2]
structure GOk (p : Pile) (g : List Bool) : Prop where
  n : g.length = 10
  o : ∀ i : Int, (p.st.length : Int) ≤ i → gn g i = false
theorem g0_ok (p : Pile) : GOk p g0 := ⟨rfl, fun i h => by
  unfold gn g0
  rw [List.getD_eq_getElem?_getD, List.getElem?_replicate]
  split <;> rfl⟩
theorem GOk.mark {p : Pile} {g : List Bool} (h : GOk p g) {s : List Int} (hs : StIn p s) (hp : p.Ok) : GOk p (markG g s) := by
  have hn := hp.n
  refine ⟨by rw [markG_len]; exact h.n, fun i hi => ?_⟩
  rw [markG_gn (fun k hk => by have := hs k hk; have := h.n; omega) (by omega), h.o i hi, Bool.or_false, decide_eq_false]
  intro hm
  have := hs i hm; omega
theorem mark_one (g : List Bool) (k : Nat) : g.set k true = markG g [(k : Int)] := rfl
def leftN (p : Pile) (g : List Bool) : Nat := (List.range p.st.length).countP fun (i : Nat) => !gn g (i : Int)
theorem allG_eq {p : Pile} (hp : p.Ok) {g : List Bool} (h : GOk p g) : (g == allG p) = true ↔ ∀ i : Nat, i < p.st.length → gn g i = true := by
  have hn := hp.n
  rw [beq_iff_eq]
  constructor
  · rintro e i hi
    rw [e]; unfold gn allG
    rw [List.getD_eq_getElem?_getD, Int.toNat_natCast]
    simp [show i < 10 by omega, hi]
  · intro hh
    refine List.ext_getElem (by rw [h.n]; simp [allG]) fun i h1 h2 => ?_
    have e : g[i] = gn g (i : Int) := by unfold gn; rw [Int.toNat_natCast]; simp [List.getD_eq_getElem?_getD, h1]
    rw [e]
    simp only [allG, List.getElem_map, List.getElem_range]
    by_cases hi : i < p.st.length
    · rw [hh i hi, decide_eq_true hi]
    · rw [h.o i (by omega), decide_eq_false hi]
theorem leftN_lt {p : Pile} {g g' : List Bool} (h : ∀ i : Nat, i < p.st.length → gn g i = true → gn g' i = true) {k : Nat} (hk : k < p.st.length) (h1 : gn g k = false) (h2 : gn g' k = true) : leftN p g' < leftN p g := by
  unfold leftN
  have key : ∀ n, n ≤ p.st.length → (List.range n).countP (fun (i : Nat) => !gn g' (i : Int)) + (if k < n then 1 else 0) ≤ (List.range n).countP fun (i : Nat) => !gn g (i : Int) := by
    intro n
    induction n with
    | zero => intro _; simp
    | succ n ih =>
      intro hn
      have ih := ih (by omega)
      rw [List.range_succ, List.countP_append, List.countP_append]
      simp only [List.countP_cons, List.countP_nil, Nat.zero_add]
      have hh := h n (by omega)
      by_cases e : k = n
      · subst e
        have e1 : (if k < k then 1 else 0) = 0 := if_neg (by omega)
        have e2 : (if k < k + 1 then 1 else 0) = 1 := if_pos (by omega)
        rw [e1] at ih
        rw [e2, h1, h2]
        simp only [Bool.not_true, Bool.not_false, Bool.false_eq_true, if_false, if_true]; omega
      · have e2 : (if k < n + 1 then 1 else 0) = (if k < n then 1 else 0) := by
          by_cases h3 : k < n
          · rw [if_pos h3, if_pos (by omega)]
          · rw [if_neg h3, if_neg (by omega)]
        rw [e2]
        generalize (if k < n then 1 else 0) = z at *
        cases e1 : gn g n with
        | true => rw [hh e1]; simp only [Bool.not_true, Bool.false_eq_true, if_false]; omega
        | false => cases gn g' n <;> simp only [Bool.not_true, Bool.not_false, Bool.false_eq_true, if_false, if_true] <;> omega
  have := key p.st.length (Nat.le_refl _)
  rw [if_pos hk] at this; omega
theorem leftN_zero {p : Pile} (hp : p.Ok) {g : List Bool} (h : GOk p g) (h0 : leftN p g = 0) : (g == allG p) = true := by
  rw [allG_eq hp h]
  intro i hi
  unfold leftN at h0
  rw [List.countP_eq_zero] at h0
  have := h0 i (List.mem_range.2 hi)
  simpa using this
theorem leftN_le (p : Pile) (g : List Bool) : leftN p g ≤ p.st.length := by
  unfold leftN
  have := List.countP_le_length (p := fun (i : Nat) => !gn g (i : Int)) (l := List.range p.st.length)
  simpa using this
structure FirstIs (p : Pile) (g : List Bool) (k : Nat) : Prop where
  n : k < p.st.length
  fr : gn g k = false
  b : ∀ i : Nat, i < k → gn g i = true
theorem gn_nat {g : List Bool} {i : Nat} (h : i < g.length) : gn g (i : Int) = g[i] := by unfold gn; rw [Int.toNat_natCast]; simp [List.getD_eq_getElem?_getD, h]
theorem first_is {p : Pile} (hp : p.Ok) {g : List Bool} (h : GOk p g) (hne : (g == allG p) = false) : FirstIs p g (firstG g) := by
  have hn := hp.n
  have hex : ∃ i : Nat, i < p.st.length ∧ gn g i = false := by
    refine Classical.byContradiction fun hc => ?_
    have : (g == allG p) = true := (allG_eq hp h).2 fun i hi => by
      cases e : gn g i with
      | true => rfl
      | false => exact absurd ⟨i, hi, e⟩ hc
    rw [hne] at this; cases this
  obtain ⟨i, hi, hg⟩ := hex
  have hil : i < g.length := by rw [h.n]; omega
  have hf : firstG g ≤ i := by
    unfold firstG
    refine Classical.byContradiction fun hc => ?_
    have := List.not_of_lt_findIdx (p := fun b : Bool => !b) (xs := g) (i := i) (by omega)
    rw [gn_nat hil] at hg
    simp [hg] at this
  have hl : firstG g < g.length := by omega
  refine ⟨by omega, ?_, fun j hj => ?_⟩
  · rw [gn_nat hl]
    have := List.findIdx_getElem (p := fun b : Bool => !b) (xs := g) (w := hl)
    have e : (!g[firstG g]) = true := this
    simpa using e
  · have := List.not_of_lt_findIdx (p := fun b : Bool => !b) (xs := g) (i := j) hj
    rw [gn_nat (by omega)]
    simpa using this
theorem first_eq {p : Pile} {g : List Bool} {a b : Nat} (ha : FirstIs p g a) (hb : FirstIs p g b) : a = b := by
  rcases Nat.lt_trichotomy a b with h | h | h
  · have := hb.b a h; rw [ha.fr] at this; cases this
  · exact h
  · have := ha.b b h; rw [hb.fr] at this; cases this
structure BarIs (p : Pile) (g : List Bool) (s t : List Int) : Prop where
  pre : ∃ u, t = s ++ u
  b : isB p t = true
theorem longF_mem (p : Pile) (g : List Bool) : ∀ (f : Nat) (s t : List Int), t ∈ longF p g f s → StIn p s → (∃ u, t = s ++ u ∧ ∀ k ∈ u, gn g k = false) ∧ isB p t = true ∧ StIn p t
  | 0, s, t, h, hs => by
    rw [longF] at h
    split at h
    · rename_i hb; simp at h; subst h; exact ⟨⟨[], by simp, fun _ h => nomatch h⟩, hb, hs⟩
    · cases h
  | f + 1, s, t, h, hs => by
    rw [longF, List.mem_append] at h
    rcases h with h | h
    · split at h
      · rename_i hb; simp at h; subst h; exact ⟨⟨[], by simp, fun _ h => nomatch h⟩, hb, hs⟩
      · cases h
    · rw [List.mem_flatMap] at h
      obtain ⟨k, hk, h⟩ := h
      have hk := List.mem_range.1 hk
      split at h
      · cases h
      · rename_i hc
        have hgk : gn g k = false := by
          cases e : gn g (k : Int) with
          | false => rfl
          | true => rw [e] at hc; exact absurd (by cases decide ((k : Int) ≤ s.getLast?.getD 0) <;> rfl) hc
        obtain ⟨⟨u, rfl, hu⟩, hb, hst⟩ := longF_mem p g f (s ++ [(k : Int)]) t h fun x hx => by
          rcases List.mem_append.1 hx with h1 | h1
          · exact hs x h1
          · simp at h1; subst h1; omega
        refine ⟨⟨(k : Int) :: u, by simp, fun x hx => ?_⟩, hb, hst⟩
        rcases List.mem_cons.1 hx with rfl | hx
        · exact hgk
        · exact hu x hx
theorem bars_mem {p : Pile} {g : List Bool} {k : Nat} (hf : FirstIs p g k) {t : List Int} (h : t ∈ barsF p (k : Int) g) : (k : Int) ∈ t ∧ isB p t = true ∧ StIn p t ∧ ∀ x ∈ t, gn g x = false := by
  obtain ⟨⟨u, rfl, hu⟩, hb, hst⟩ := longF_mem p g _ _ t h fun x hx => by simp at hx; subst hx; have := hf.n; omega
  refine ⟨by simp, hb, hst, fun x hx => ?_⟩
  rcases List.mem_append.1 hx with h1 | h1
  · simp at h1; subst h1; exact hf.fr
  · exact hu x h1
theorem longF_len (p : Pile) (g : List Bool) : ∀ (f : Nat) (s t : List Int), t ∈ longF p g f s → t.length ≤ s.length + f
  | 0, s, t, h => by
    rw [longF] at h
    split at h
    · simp at h; subst h; omega
    · cases h
  | f + 1, s, t, h => by
    rw [longF, List.mem_append] at h
    rcases h with h | h
    · split at h
      · simp at h; subst h; omega
      · cases h
    · rw [List.mem_flatMap] at h
      obtain ⟨k, _, h⟩ := h
      split at h
      · cases h
      · have := longF_len p g f _ t h
        rw [List.length_append] at this; simp at this; omega
theorem bars_len {p : Pile} {g : List Bool} {k : Int} {t : List Int} (h : t ∈ barsF p k g) : t.length ≤ 1 + p.st.length := longF_len p g _ _ t h
theorem left_mark {p : Pile} (hp : p.Ok) {g : List Bool} (h : GOk p g) {k : Nat} (hf : FirstIs p g k) {s : List Int} (hs : StIn p s) (hk : (k : Int) ∈ s) : leftN p (markG g s) < leftN p g := by
  have hn := hp.n
  have hin : ∀ x ∈ s, 0 ≤ x ∧ x < g.length := fun x hx => by have := hs x hx; have := h.n; omega
  refine leftN_lt (fun i hi hg => ?_) hf.n hf.fr ?_
  · rw [markG_gn hin (by omega), hg, Bool.or_true]
  · rw [markG_gn hin (by omega), decide_eq_true hk, Bool.true_or]
theorem foldl_congr {α β : Type} {f f' : β → α → β} : ∀ {l : List α} {b : β}, (∀ b, ∀ a ∈ l, f b a = f' b a) → l.foldl f b = l.foldl f' b
  | [], _, _ => rfl
  | a :: l, b, h => by rw [List.foldl_cons, List.foldl_cons, h b a (by simp)]; exact foldl_congr fun b x hx => h b x (by simp [hx])
theorem mostF_fuel {p : Pile} (hp : p.Ok) : ∀ (f f' : Nat) (g : List Bool), GOk p g → leftN p g ≤ f → leftN p g ≤ f' → mostF p f g = mostF p f' g := by
  intro f
  induction f with
  | zero =>
    intro f' g h h1 _
    cases f' with
    | zero => rfl
    | succ f' => rw [mostF, mostF, if_pos (leftN_zero hp h (by omega))]
  | succ f ih =>
    intro f' g h h1 h2
    cases f' with
    | zero => rw [mostF, mostF, if_pos (leftN_zero hp h (by omega))]
    | succ f' =>
      rw [mostF, mostF]
      cases e : g == allG p with
      | true => rw [if_pos rfl, if_pos rfl]
      | false =>
        rw [if_neg (by decide), if_neg (by decide)]
        have hf := first_is hp h e
        have hs1 : StIn p [(firstG g : Int)] := fun x hx => by simp at hx; subst hx; have := hf.n; omega
        have l1 := left_mark hp h hf hs1 (by simp)
        rw [mark_one, ih f' _ (h.mark hs1 hp) (by omega) (by omega)]
        refine foldl_congr fun b s hs => ?_
        obtain ⟨m1, m2, m3, m4⟩ := bars_mem hf hs
        have l2 := left_mark hp h hf m3 m1
        unfold betterF
        rw [ih f' _ (h.mark m3 hp) (by omega) (by omega)]
theorem foldl_inv {α β : Type} {f : β → α → β} (P : β → Prop) (h : ∀ b a, P b → P (f b a)) : ∀ (l : List α) (b : β), P b → P (l.foldl f b)
  | [], _, hb => hb
  | a :: l, b, hb => foldl_inv P h l (f b a) (h b a hb)
theorem mostF_len (p : Pile) : ∀ (f : Nat) (g : List Bool), (mostF p f g).length ≤ f
  | 0, _ => by simp [mostF]
  | f + 1, g => by
    rw [mostF]
    split
    · simp
    · refine foldl_inv (fun b : List (List Int) => b.length ≤ f + 1) (fun b s hb => ?_) _ _ (Nat.le_succ_of_le (mostF_len p f _))
      unfold betterF
      split
      · have := mostF_len p f (markG g s); simp; omega
      · exact hb
def mostG (p : Pile) (g : List Bool) : List (List Int) := mostF p 10 g
theorem mostG_len (p : Pile) (g : List Bool) : (mostG p g).length ≤ 10 := mostF_len p 10 g
theorem mostG_all {p : Pile} {g : List Bool} (h : (g == allG p) = true) : mostG p g = [] := by unfold mostG; rw [mostF, if_pos h]
theorem mostG_step {p : Pile} (hp : p.Ok) {g : List Bool} (h : GOk p g) (hne : (g == allG p) = false) {k : Nat} (hf : FirstIs p g k) : mostG p g = (barsF p k g).foldl (betterF (mostG p) g) (mostG p (g.set k true)) := by
  have hn := hp.n
  obtain rfl : firstG g = k := first_eq (first_is hp h hne) hf
  have e : mostG p g = mostF p 10 g := rfl
  have hle := leftN_le p g
  rw [e, mostF, if_neg (by rw [hne]; decide)]
  have hs1 : StIn p [(firstG g : Int)] := fun x hx => by simp at hx; subst hx; have := hf.n; omega
  have l1 := left_mark hp h hf hs1 (by simp)
  rw [mark_one, mostF_fuel hp 9 10 _ (h.mark hs1 hp) (by omega) (by omega)]
  refine foldl_congr fun b s hs => ?_
  obtain ⟨m1, m2, m3, m4⟩ := bars_mem hf hs
  have l2 := left_mark hp h hf m3 m1
  unfold betterF
  rw [mostF_fuel hp 9 10 _ (h.mark m3 hp) (by omega) (by omega)]
  rfl
end Go.AL.Br

namespace Go.AL.Br
open Go Go.AL Go.AL.Q
def ov : List Mv → List Int → Int → Int
  | m :: ms, c :: cs, s => ov ms cs s + (if m.to = s then c else 0) - (if m.fr = s then c else 0)
  | _, _, _ => 0
theorem ov_snoc (m : Mv) (c s : Int) : ∀ {ms : List Mv} {cs : List Int}, ms.length = cs.length → ov (ms ++ [m]) (cs ++ [c]) s = ov ms cs s + (if m.to = s then c else 0) - (if m.fr = s then c else 0)
  | [], [], _ => by simp [ov]
  | a :: ms, b :: cs, h => by
    have ih := ov_snoc m c s (ms := ms) (cs := cs) (by simpa using h)
    simp only [List.cons_append, ov, ih]; omega
  | [], _ :: _, h => by simp at h
  | _ :: _, [], h => by simp at h
theorem ov_bd {ms : List Mv} : ∀ {cs : List Int}, (∀ c ∈ cs, 0 ≤ c ∧ c ≤ 1000) → ∀ s, -(1000 * (ms.length : Int)) ≤ ov ms cs s ∧ ov ms cs s ≤ 1000 * (ms.length : Int) := by
  induction ms with
  | nil => intro cs _ s; simp [ov]
  | cons m ms ih =>
    intro cs h s
    cases cs with
    | nil => simp only [ov]; omega
    | cons c cs =>
      have ih := ih (cs := cs) (fun x hx => h x (List.mem_cons_of_mem _ hx)) s
      have hc := h c (by simp)
      simp only [ov, List.length_cons]
      push_cast
      split <;> split <;> omega
def ovL (n : Int) (ms : List Mv) (cs : List Int) : List Int := (List.range n.toNat).map fun (s : Nat) => ov ms cs s
theorem ovL_len (n : Int) (ms : List Mv) (cs : List Int) : (ovL n ms cs).length = n.toNat := by simp [ovL]
theorem ovL_get {n : Int} {ms : List Mv} {cs : List Int} {s : Int} (h : 0 ≤ s ∧ s < n) : (ovL n ms cs).getD s.toNat 0 = ov ms cs s := by
  have e : ((s.toNat : Nat) : Int) = s := by omega
  simp [ovL, List.getD_eq_getElem?_getD, show s.toNat < n.toNat by omega, e]
theorem ovL_step {n : Int} {ms : List Mv} {cs : List Int} {k : Nat} (h1 : k < ms.length) (h2 : ms.length = cs.length) {m : Mv} {c : Int} (hm : ms[k] = m) (hc : cs.getD k 0 = c) (ho : m.Ok n) :
    ((ovL n (ms.take k) (cs.take k)).set m.to.toNat (ov (ms.take k) (cs.take k) m.to + c)).set m.fr.toNat (ov (ms.take k) (cs.take k) m.fr - c) = ovL n (ms.take (k + 1)) (cs.take (k + 1)) := by
  have hc' : cs[k]'(by omega) = c := by rw [← hc]; simp [List.getD_eq_getElem?_getD, show k < cs.length by omega]
  rw [List.take_succ_eq_append_getElem h1, List.take_succ_eq_append_getElem (show k < cs.length by omega), hm, hc']
  have hl : (ms.take k).length = (cs.take k).length := by simp; omega
  have f := ho.f
  have t := ho.t
  have ne := ho.ne
  refine List.ext_getElem (by simp [ovL]) fun i h3 h4 => ?_
  have hi : i < n.toNat := by simpa [ovL] using h4
  simp only [List.getElem_set, ovL, List.getElem_map, List.getElem_range]
  rw [ov_snoc m c i hl]
  by_cases e1 : m.fr.toNat = i
  · have : m.fr = (i : Int) := by omega
    have h5 : m.to ≠ (i : Int) := fun h => ne (this.trans h.symm)
    rw [if_pos e1, if_neg h5, if_pos this, this]; omega
  · have : m.fr ≠ (i : Int) := by omega
    rw [if_neg e1, if_neg this]
    by_cases e2 : m.to.toNat = i
    · have h5 : m.to = (i : Int) := by omega
      rw [if_pos e2, if_pos h5, h5]; omega
    · have h5 : m.to ≠ (i : Int) := by omega
      rw [if_neg e2, if_neg h5]; omega
structure CsOk (ms : List Mv) (cs : List Int) : Prop where
  l : ms.length = cs.length
  b : ∀ c ∈ cs, 0 ≤ c ∧ c ≤ 1000
def inB (ms : List Mv) (cs : List Int) (k : Nat) : Bool := wi (cs.getD k 0) (ms.getD k ⟨0, 0, 0, 0⟩).lo (ms.getD k ⟨0, 0, 0, 0⟩).hi
def allIn (ms : List Mv) (cs : List Int) : Bool := (List.range ms.length).all (inB ms cs)
def CountsR (b : Book) (cs : List Int) : Bool × Int :=
  if b.ok then if cs.length = b.ms.length then if allIn b.ms cs then ((ovL b.n b.ms cs).all (· == 0), 0) else (false, 0) else (false, 64) else (false, 63)
def bitV (set k : Int) : Int := iand (set.fdiv (2 ^ min k.toNat 64)) 1
def pvStep (set : Int) (n : Int) (m : Mv) : Int := if bitV set m.fr > bitV set m.to then n + m.lo else if bitV set m.fr < bitV set m.to then n - m.hi else n
def pvF (set : Int) (ms : List Mv) : Int := ms.foldl (pvStep set) 0
def ProvesR (b : Book) (set : Int) : Bool × Int :=
  if b.ok then if wi set 0 (2 ^ b.n.toNat - 1) then (decide (pvF set b.ms > 0), 0) else (false, 64) else (false, 63)
theorem pv_bd {n : Int} {set : Int} : ∀ {ms : List Mv}, (∀ m ∈ ms, m.Ok n) → ∀ x B : Int, 0 ≤ B → -B ≤ x → x ≤ B → -(B + 1000 * (ms.length : Int)) ≤ ms.foldl (pvStep set) x ∧ ms.foldl (pvStep set) x ≤ B + 1000 * (ms.length : Int)
  | [], _, x, B, _, h1, h2 => by simp; omega
  | m :: ms, h, x, B, hB, h1, h2 => by
    have hk := (h m (by simp)).k
    have := pv_bd (set := set) (ms := ms) (fun y hy => h y (List.mem_cons_of_mem _ hy)) (pvStep set x m) (B + 1000) (by omega) (by unfold pvStep; split <;> (try split) <;> omega) (by unfold pvStep; split <;> (try split) <;> omega)
    rw [List.foldl_cons, List.length_cons]
    push_cast
    omega
end Go.AL.Br

namespace Go.AL.Br
open Go Go.AL Go.AL.Q
structure Stp where
  k : Nat
  fw : Bool
  deriving DecidableEq
def Stp.c (s : Stp) : List A := [.int s.k, .bool s.fw]
theorem Stp.free (s : Stp) : ∀ x ∈ s.c, Free x := allC (.s _) (all1 (.s _))
def walk1 (cs : List Int) (s : Stp) : List Int := cs.set s.k (if s.fw then cs.getD s.k 0 - 1 else cs.getD s.k 0 + 1)
def walkF (cs : List Int) (l : List Stp) : List Int := l.foldl walk1 cs
theorem walk1_len (cs : List Int) (s : Stp) : (walk1 cs s).length = cs.length := by simp [walk1]
theorem walkF_len (l : List Stp) : ∀ cs : List Int, (walkF cs l).length = cs.length := by
  induction l with
  | nil => intro cs; rfl
  | cons s l ih => intro cs; show (walkF (walk1 cs s) l).length = _; rw [ih, walk1_len]
theorem walk_bd {B : Int} : ∀ (l : List Stp) (cs : List Int) (n : Nat), (∀ c ∈ cs, -(B + n) ≤ c ∧ c ≤ B + n) → 0 ≤ B → ∀ c ∈ walkF cs l, -(B + n + l.length) ≤ c ∧ c ≤ B + n + l.length
  | [], cs, n, h, _, c, hc => by have := h c hc; simp; omega
  | s :: l, cs, n, h, hB, c, hc => by
    have := walk_bd (B := B) l (walk1 cs s) (n + 1) (fun x hx => by
      rcases List.mem_or_eq_of_mem_set hx with h1 | h1
      · have := h x h1; push_cast; omega
      · have hg : -(B + n) ≤ cs.getD s.k 0 ∧ cs.getD s.k 0 ≤ B + n := by
          by_cases hk : s.k < cs.length
          · have e : cs.getD s.k 0 = cs[s.k] := by simp [List.getD_eq_getElem?_getD, hk]
            rw [e]; exact h _ (List.getElem_mem hk)
          · have e : cs.getD s.k 0 = 0 := by simp [List.getD_eq_getElem?_getD, List.getElem?_eq_none (Nat.le_of_not_lt hk)]
            rw [e]; omega
        rw [h1]; push_cast; split <;> omega) hB c hc
    rw [List.length_cons]; push_cast at this ⊢; omega
theorem walk_take {cs : List Int} {l : List Stp} {j : Nat} (h : j < l.length) : walkF cs (l.take (j + 1)) = walk1 (walkF cs (l.take j)) l[j] := by
  unfold walkF; rw [List.take_succ_eq_append_getElem h, List.foldl_append]; rfl
def nxS (m : Mv) (at' : Int) : Int := if at' = m.to then m.fr else m.to
def canB (ms : List Mv) (cs : List Int) (wo : Int) (met : List Int) (at' : Int) (k : Nat) (m : Mv) : Bool :=
  cond (cond (!((k : Int) == wo)) (!met.contains (nxS m at')) false) (cond (cond (at' == m.fr) (decide (cs.getD k 0 < m.hi)) false) true (cond (at' == m.to) (decide (cs.getD k 0 > m.lo)) false)) false
abbrev Wy := Option (List Stp) × List Int
def onGo (rec : Int → List Int → Wy) (ms : List Mv) (cs : List Int) (wo at' : Int) : List Nat → List Int → Wy
  | [], met => (none, met)
  | k :: ks, met => if canB ms cs wo met at' k (ms.getD k ⟨0, 0, 0, 0⟩) then
      match (rec (nxS (ms.getD k ⟨0, 0, 0, 0⟩) at') (met ++ [nxS (ms.getD k ⟨0, 0, 0, 0⟩) at'])).1 with
      | some l => (some (⟨k, decide (at' = (ms.getD k ⟨0, 0, 0, 0⟩).to)⟩ :: l), (rec (nxS (ms.getD k ⟨0, 0, 0, 0⟩) at') (met ++ [nxS (ms.getD k ⟨0, 0, 0, 0⟩) at'])).2)
      | none => onGo rec ms cs wo at' ks (rec (nxS (ms.getD k ⟨0, 0, 0, 0⟩) at') (met ++ [nxS (ms.getD k ⟨0, 0, 0, 0⟩) at'])).2
    else onGo rec ms cs wo at' ks met
def onW (ms : List Mv) (cs : List Int) (to wo : Int) : Nat → Int → List Int → Wy
  | 0, _, met => (none, met)
  | f + 1, at', met => if at' = to then (some [], met) else onGo (onW ms cs to wo f) ms cs wo at' (List.range ms.length) met
def wayW (ms : List Mv) (cs : List Int) (fr to wo : Int) : Wy := onW ms cs to wo 7 fr [fr]
structure MetOk (n : Int) (met : List Int) : Prop where
  d : met.Nodup
  b : ∀ s ∈ met, 0 ≤ s ∧ s < n
theorem nodup_le : ∀ {l m : List Int}, l.Nodup → (∀ x ∈ l, x ∈ m) → l.length ≤ m.length
  | [], _, _, _ => Nat.zero_le _
  | x :: l, m, hn, hs => by
    have h1 := List.nodup_cons.1 hn
    have hx := hs x (by simp)
    have ih := nodup_le (m := m.erase x) h1.2 fun y hy => (List.mem_erase_of_ne (by rintro rfl; exact h1.1 hy)).2 (hs y (by simp [hy]))
    rw [List.length_erase_of_mem hx] at ih
    have : 0 < m.length := List.length_pos_of_mem hx
    simp only [List.length_cons]; omega
theorem MetOk.len {n : Int} (hn : 0 ≤ n) {met : List Int} (h : MetOk n met) : (met.length : Int) ≤ n := by
  have h1 := nodup_le (l := met) (m := (List.range n.toNat).map fun (i : Nat) => (i : Int)) h.d fun x hx => by
    have := h.b x hx
    exact List.mem_map.2 ⟨x.toNat, List.mem_range.2 (by omega), by omega⟩
  simp at h1; omega
theorem MetOk.add {n : Int} {met : List Int} (h : MetOk n met) {s : Int} (hs : 0 ≤ s ∧ s < n) (hn : met.contains s = false) : MetOk n (met ++ [s]) := by
  have hns : s ∉ met := fun hm => by have : met.contains s = true := List.contains_iff_mem.2 hm; rw [hn] at this; cases this
  refine ⟨List.nodup_append.2 ⟨h.d, by simp, fun a ha b hb => by simp at hb; subst hb; exact fun e => hns (e ▸ ha)⟩, fun x hx => ?_⟩
  rcases List.mem_append.1 hx with h1 | h1
  · exact h.b x h1
  · simp at h1; subst h1; exact hs
theorem nxS_in {n : Int} {m : Mv} (h : m.Ok n) (a : Int) : 0 ≤ nxS m a ∧ nxS m a < n := by
  have := h.f
  have := h.t
  unfold nxS; split <;> omega
theorem canB_not {ms : List Mv} {cs : List Int} {wo : Int} {met : List Int} {a : Int} {k : Nat} {m : Mv} (h : canB ms cs wo met a k m = true) : met.contains (nxS m a) = false := by
  have := ac2 (ac1 h)
  simpa using this
theorem onGo_met {n : Int} {ms : List Mv} (hms : ∀ m ∈ ms, m.Ok n) {cs : List Int} {wo a : Int} {rec : Int → List Int → Wy} (hr : ∀ x met, MetOk n met → MetOk n (rec x met).2 ∧ ∃ u, (rec x met).2 = met ++ u) :
    ∀ (ks : List Nat) (met : List Int), (∀ k ∈ ks, k < ms.length) → MetOk n met → MetOk n (onGo rec ms cs wo a ks met).2 ∧ ∃ u, (onGo rec ms cs wo a ks met).2 = met ++ u
  | [], met, _, h => ⟨h, [], by simp [onGo]⟩
  | k :: ks, met, hk, h => by
    have hk0 := hk k (by simp)
    rw [onGo]
    split
    · rename_i hc
      have hm : ms.getD k ⟨0, 0, 0, 0⟩ ∈ ms := by rw [List.getD_eq_getElem?_getD, List.getElem?_eq_getElem hk0]; exact List.getElem_mem _
      have h2 := h.add (nxS_in (hms _ hm) a) (canB_not hc)
      obtain ⟨h3, u, h4⟩ := hr (nxS (ms.getD k ⟨0, 0, 0, 0⟩) a) _ h2
      split
      · exact ⟨h3, nxS (ms.getD k ⟨0, 0, 0, 0⟩) a :: u, by rw [h4]; simp⟩
      · obtain ⟨h5, u2, h6⟩ := onGo_met hms hr ks _ (fun x hx => hk x (by simp [hx])) h3
        exact ⟨h5, nxS (ms.getD k ⟨0, 0, 0, 0⟩) a :: (u ++ u2), by rw [h6, h4]; simp⟩
    · exact onGo_met hms hr ks met (fun x hx => hk x (by simp [hx])) h
theorem onW_met {n : Int} {ms : List Mv} (hms : ∀ m ∈ ms, m.Ok n) {cs : List Int} {to wo : Int} : ∀ (f : Nat) (a : Int) (met : List Int), MetOk n met → MetOk n (onW ms cs to wo f a met).2 ∧ ∃ u, (onW ms cs to wo f a met).2 = met ++ u
  | 0, a, met, h => ⟨h, [], by simp [onW]⟩
  | f + 1, a, met, h => by
    rw [onW]
    split
    · exact ⟨h, [], by simp⟩
    · exact onGo_met hms (onW_met hms f) _ met (fun k hk => List.mem_range.1 hk) h
theorem onGo_len {ms : List Mv} {cs : List Int} {wo a : Int} {rec : Int → List Int → Wy} {f : Nat} (hr : ∀ x met l, (rec x met).1 = some l → l.length ≤ f) :
    ∀ (ks : List Nat) (met : List Int) (l : List Stp), (onGo rec ms cs wo a ks met).1 = some l → l.length ≤ f + 1
  | [], met, l, h => by simp [onGo] at h
  | k :: ks, met, l, h => by
    rw [onGo] at h
    split at h
    · split at h
      · rename_i l' hl'
        have h : some (_ :: l') = some l := h
        cases h
        have := hr _ _ _ hl'
        simp; omega
      · exact onGo_len hr ks _ l h
    · exact onGo_len hr ks met l h
theorem onW_len {ms : List Mv} {cs : List Int} {to wo : Int} : ∀ (f : Nat) (a : Int) (met : List Int) (l : List Stp), (onW ms cs to wo f a met).1 = some l → l.length ≤ f
  | 0, a, met, l, h => by simp [onW] at h
  | f + 1, a, met, l, h => by
    rw [onW] at h
    split at h
    · have h : some [] = some l := h
      cases h; simp
    · exact onGo_len (onW_len f) _ met l h
end Go.AL.Br

namespace Go.AL.Br
open Go Go.AL Go.AL.Q
def mvk (ms : List Mv) (k : Nat) : Mv := ms.getD k ⟨0, 0, 0, 0⟩
theorem mvk_get {ms : List Mv} {k : Nat} (h : k < ms.length) : mvk ms k = ms[k] := by simp [mvk, List.getD_eq_getElem?_getD, h]
theorem mvk_mem {ms : List Mv} {k : Nat} (h : k < ms.length) : mvk ms k ∈ ms := by rw [mvk_get h]; exact List.getElem_mem h
def arc (ms : List Mv) (cs : List Int) (wo a : Int) (k : Nat) : Prop := (k : Int) ≠ wo ∧ ((a = (mvk ms k).fr ∧ cs.getD k 0 < (mvk ms k).hi) ∨ (a = (mvk ms k).to ∧ cs.getD k 0 > (mvk ms k).lo))
theorem canB_iff {ms : List Mv} {cs : List Int} {wo : Int} {met : List Int} {a : Int} {k : Nat} : canB ms cs wo met a k (mvk ms k) = true ↔ arc ms cs wo a k ∧ nxS (mvk ms k) a ∉ met := by
  unfold canB arc
  simp only [c_and, c_or, Bool.and_eq_true, Bool.or_eq_true, Bool.not_eq_true', beq_eq_false_iff_ne, decide_eq_true_eq, beq_iff_eq]
  rw [show (met.contains (nxS (mvk ms k) a) = false) ↔ nxS (mvk ms k) a ∉ met by
    rw [← Bool.not_eq_true, List.contains_iff_mem]]
  constructor
  · rintro ⟨⟨h1, h2⟩, h3⟩; exact ⟨⟨h1, h3⟩, h2⟩
  · rintro ⟨⟨h1, h3⟩, h2⟩; exact ⟨⟨h1, h2⟩, h3⟩
inductive PathP (ms : List Mv) (cs : List Int) (wo to : Int) : List Int → Int → List Stp → Prop
  | nil (met : List Int) : PathP ms cs wo to met to []
  | cons {met : List Int} {a : Int} {k : Nat} {l : List Stp} (hk : k < ms.length) (h : arc ms cs wo a k) (hn : nxS (mvk ms k) a ∉ met) (t : PathP ms cs wo to (met ++ [nxS (mvk ms k) a]) (nxS (mvk ms k) a) l) :
      PathP ms cs wo to met a (⟨k, decide (a = (mvk ms k).to)⟩ :: l)
theorem PathP.less {ms : List Mv} {cs : List Int} {wo to : Int} {met : List Int} {a : Int} {l : List Stp} (h : PathP ms cs wo to met a l) : ∀ {met' : List Int}, met' ⊆ met → PathP ms cs wo to met' a l := by
  induction h with
  | nil => intro met' _; exact .nil _
  | cons hk h hn t ih => intro met' hs; exact .cons hk h (fun hm => hn (hs hm)) (ih fun x hx => by
      rcases List.mem_append.1 hx with h | h
      · exact List.mem_append_left _ (hs h)
      · exact List.mem_append_right _ h)
theorem onW_some {ms : List Mv} {cs : List Int} {to wo : Int} : ∀ (f : Nat) (a : Int) (met : List Int) (l : List Stp), (onW ms cs to wo f a met).1 = some l → PathP ms cs wo to met a l
  | 0, a, met, l, h => by simp [onW] at h
  | f + 1, a, met, l, h => by
    rw [onW] at h
    split at h
    · rename_i e; subst e
      have h : some [] = some l := h
      cases h; exact .nil _
    · have key : ∀ (ks : List Nat) (met1 : List Int), (∀ k ∈ ks, k < ms.length) → met ⊆ met1 → (onGo (onW ms cs to wo f) ms cs wo a ks met1).1 = some l → PathP ms cs wo to met a l := by
        intro ks
        induction ks with
        | nil => intro met1 _ _ h; simp [onGo] at h
        | cons k ks ih =>
          intro met1 hk hs h
          rw [onGo] at h
          split at h
          · rename_i hc
            have hc := canB_iff.1 hc
            split at h
            · rename_i l' hl'
              have h : some (⟨k, decide (a = (mvk ms k).to)⟩ :: l') = some l := h
              cases h
              have := onW_some f _ _ l' hl'
              exact (PathP.cons (hk k (by simp)) hc.1 hc.2 this).less hs
            · refine ih _ (fun x hx => hk x (by simp [hx])) (fun x hx => ?_) h
              obtain ⟨u, hu⟩ : ∃ u, (onW ms cs to wo f (nxS (mvk ms k) a) (met1 ++ [nxS (mvk ms k) a])).2 = met1 ++ [nxS (mvk ms k) a] ++ u := onW_app f _ _
              show x ∈ (onW ms cs to wo f (nxS (mvk ms k) a) (met1 ++ [nxS (mvk ms k) a])).2
              rw [hu]; simp [hs hx]
          · exact ih met1 (fun x hx => hk x (by simp [hx])) hs h
      exact key _ met (fun k hk => List.mem_range.1 hk) (fun _ h => h) h
where
  onW_app {ms : List Mv} {cs : List Int} {to wo : Int} : ∀ (f : Nat) (a : Int) (met : List Int), ∃ u, (onW ms cs to wo f a met).2 = met ++ u
  | 0, a, met => ⟨[], by simp [onW]⟩
  | f + 1, a, met => by
    rw [onW]
    split
    · exact ⟨[], by simp⟩
    · have key : ∀ (ks : List Nat) (met1 : List Int), ∃ u, (onGo (onW ms cs to wo f) ms cs wo a ks met1).2 = met1 ++ u := by
        intro ks
        induction ks with
        | nil => intro met1; exact ⟨[], by simp [onGo]⟩
        | cons k ks ih =>
          intro met1
          rw [onGo]
          obtain ⟨u, hu⟩ := onW_app (ms := ms) (cs := cs) (to := to) (wo := wo) f (nxS (ms.getD k ⟨0, 0, 0, 0⟩) a) (met1 ++ [nxS (ms.getD k ⟨0, 0, 0, 0⟩) a])
          split
          · split
            · exact ⟨nxS (ms.getD k ⟨0, 0, 0, 0⟩) a :: u, by rw [hu]; simp⟩
            · obtain ⟨u2, hu2⟩ := ih (onW ms cs to wo f (nxS (ms.getD k ⟨0, 0, 0, 0⟩) a) (met1 ++ [nxS (ms.getD k ⟨0, 0, 0, 0⟩) a])).2
              exact ⟨nxS (ms.getD k ⟨0, 0, 0, 0⟩) a :: (u ++ u2), by rw [hu2, hu]; simp⟩
          · exact ih met1
      exact key _ met
theorem onW_app {ms : List Mv} {cs : List Int} {to wo : Int} (f : Nat) (a : Int) (met : List Int) : ∃ u, (onW ms cs to wo f a met).2 = met ++ u := onW_some.onW_app f a met
structure Feas (ms : List Mv) (cs : List Int) : Prop where
  l : ms.length = cs.length
  b : ∀ k, k < ms.length → (mvk ms k).lo ≤ cs.getD k 0 ∧ cs.getD k 0 ≤ (mvk ms k).hi
theorem getD_set {cs : List Int} {k i : Nat} {v : Int} (hk : k < cs.length) : (cs.set k v).getD i 0 = if k = i then v else cs.getD i 0 := by
  rw [List.getD_eq_getElem?_getD, List.getElem?_set]
  by_cases e : k = i
  · subst e; rw [if_pos rfl, if_pos hk, if_pos rfl]; rfl
  · rw [if_neg e, if_neg e, List.getD_eq_getElem?_getD]
theorem ov_set {δ s : Int} : ∀ {ms : List Mv} {cs : List Int} {k : Nat}, ms.length = cs.length → k < ms.length →
    ov ms (cs.set k (cs.getD k 0 + δ)) s = ov ms cs s + (if (mvk ms k).to = s then δ else 0) - (if (mvk ms k).fr = s then δ else 0)
  | [], _, k, _, hk => by simp at hk
  | _ :: _, [], _, h, _ => by simp at h
  | m :: ms, c :: cs, 0, h, hk => by
    show ov (m :: ms) ((c + δ) :: cs) s = _
    simp only [ov, mvk, List.getD_cons_zero]
    split <;> split <;> omega
  | m :: ms, c :: cs, k + 1, h, hk => by
    have ih := ov_set (δ := δ) (s := s) (ms := ms) (cs := cs) (k := k) (by simpa using h) (by simpa using hk)
    show ov (m :: ms) (c :: cs.set k (cs.getD k 0 + δ)) s = _
    have e : mvk (m :: ms) (k + 1) = mvk ms k := rfl
    rw [e]
    simp only [ov, ih]; omega
theorem walk1_eq (cs : List Int) (s : Stp) : walk1 cs s = cs.set s.k (cs.getD s.k 0 + if s.fw then -1 else 1) := by
  unfold walk1; congr 1; split <;> omega
theorem PathP.ne {ms : List Mv} {cs : List Int} {wo to : Int} {met : List Int} {a : Int} {l : List Stp} (h : PathP ms cs wo to met a l) {k : Nat} : (mvk ms k).fr ∈ met → (mvk ms k).to ∈ met → ∀ s ∈ l, s.k ≠ k := by
  induction h with
  | nil => intro _ _ s hs; cases hs
  | cons hk h hn t ih =>
    intro h1 h2 s hs
    rcases List.mem_cons.1 hs with rfl | hs
    · rintro rfl
      apply hn
      unfold nxS; split
      · exact h1
      · exact h2
    · exact ih (List.mem_append_left _ h1) (List.mem_append_left _ h2) s hs
theorem PathP.congr {ms : List Mv} {cs cs' : List Int} {wo to : Int} {met : List Int} {a : Int} {l : List Stp} (h : PathP ms cs wo to met a l) : (∀ s ∈ l, cs.getD s.k 0 = cs'.getD s.k 0) → PathP ms cs' wo to met a l := by
  induction h with
  | nil => intro _; exact .nil _
  | cons hk h hn t ih =>
    intro he
    refine .cons hk ?_ hn (ih fun s hs => he s (List.mem_cons_of_mem _ hs))
    have := he _ (List.mem_cons_self ..)
    simp only at this
    unfold arc at h ⊢
    rw [← this]; exact h
theorem PathP.walk {n : Int} {ms : List Mv} (hms : ∀ m ∈ ms, m.Ok n) {wo to : Int} : ∀ {l : List Stp} {cs : List Int} {met : List Int} {a : Int}, PathP ms cs wo to met a l → a ∈ met → Feas ms cs →
    Feas ms (walkF cs l) ∧ (∀ s, ov ms (walkF cs l) s = ov ms cs s + (if to = s then 1 else 0) - (if a = s then 1 else 0)) ∧ (∀ k : Nat, (k : Int) = wo → (walkF cs l).getD k 0 = cs.getD k 0) ∧ ∀ s ∈ l, s.k < ms.length
  | [], cs, met, a, h, _, hf => by
    cases h with
    | nil => exact ⟨hf, fun s => by show ov ms cs s = _; omega, fun _ _ => rfl, fun _ h => nomatch h⟩
  | x :: l, cs, met, a, h, ha, hf => by
    cases h with
    | @cons _ _ k _ hk h hn t =>
      have hmo := hms _ (mvk_mem hk)
      have hne := hmo.ne
      have hb := hf.b k hk
      have hl := hf.l
      generalize hm : mvk ms k = m at *
      have e1 : walk1 cs ⟨k, decide (a = m.to)⟩ = cs.set k (cs.getD k 0 + if a = m.to then -1 else 1) := by
        rw [walk1_eq]; simp
      have hset : ∀ i, (walk1 cs ⟨k, decide (a = m.to)⟩).getD i 0 = if k = i then cs.getD k 0 + (if a = m.to then -1 else 1) else cs.getD i 0 := fun i => by rw [e1, getD_set (by omega)]
      unfold arc at h
      rw [hm] at h
      have hf1 : Feas ms (walk1 cs ⟨k, decide (a = m.to)⟩) := ⟨by rw [walk1_len]; exact hl, fun i hi => by
        rw [hset]
        by_cases e : k = i
        · subst e; rw [if_pos rfl, hm]
          rcases h.2 with ⟨h1, h2⟩ | ⟨h1, h2⟩
          · rw [if_neg (fun e => hne (h1.symm.trans e))]; omega
          · rw [if_pos h1]; omega
        · rw [if_neg e]; exact hf.b i hi⟩
      have hend : m.fr ∈ met ++ [nxS m a] ∧ m.to ∈ met ++ [nxS m a] := by
        rcases h.2 with ⟨h1, _⟩ | ⟨h1, _⟩
        · have e : nxS m a = m.to := by unfold nxS; rw [if_neg (fun e => hne (h1.symm.trans e))]
          rw [e]; exact ⟨List.mem_append_left _ (h1 ▸ ha), by simp⟩
        · have e : nxS m a = m.fr := by unfold nxS; rw [if_pos h1]
          rw [e]; exact ⟨by simp, List.mem_append_left _ (h1 ▸ ha)⟩
      have hkn := t.ne (k := k) (hm ▸ hend.1) (hm ▸ hend.2)
      have t1 := t.congr (cs' := walk1 cs ⟨k, decide (a = m.to)⟩) fun s hs => by rw [hset, if_neg (fun e => hkn s hs e.symm)]
      obtain ⟨i1, i2, i3, i4⟩ := PathP.walk hms t1 (by simp) hf1
      refine ⟨i1, fun s => ?_, fun i hi => ?_, fun s hs => ?_⟩
      · show ov ms (walkF (walk1 cs ⟨k, decide (a = m.to)⟩) l) s = _
        rw [i2 s, e1, ov_set hl hk, hm]
        rcases h.2 with ⟨h1, _⟩ | ⟨h1, _⟩
        · have hat : a ≠ m.to := fun e => hne (h1.symm.trans e)
          have e : nxS m a = m.to := by unfold nxS; rw [if_neg hat]
          rw [e, if_neg hat, ← h1]
          split <;> split <;> split <;> omega
        · have e : nxS m a = m.fr := by unfold nxS; rw [if_pos h1]
          rw [e, if_pos h1, ← h1]
          split <;> split <;> split <;> omega
      · show (walkF (walk1 cs ⟨k, decide (a = m.to)⟩) l).getD i 0 = _
        rw [i3 i hi, hset, if_neg]
        rintro rfl; exact h.1 hi
      · rcases List.mem_cons.1 hs with rfl | hs
        · exact hk
        · exact i4 s hs
def ClosedS (ms : List Mv) (cs : List Int) (wo : Int) (C : Int → Prop) (a : Int) : Prop := ∀ k, k < ms.length → arc ms cs wo a k → C (nxS (mvk ms k) a)
theorem onW_min {ms : List Mv} {cs : List Int} {to wo : Int} {C : Int → Prop} (hC : ∀ a, C a → ClosedS ms cs wo C a) : ∀ (f : Nat) (a : Int) (met : List Int), C a → (∀ s ∈ met, C s) → ∀ s ∈ (onW ms cs to wo f a met).2, C s
  | 0, a, met, _, hm => by simpa [onW] using hm
  | f + 1, a, met, ha, hm => by
    rw [onW]
    split
    · exact hm
    · have key : ∀ (ks : List Nat) (met1 : List Int), (∀ k ∈ ks, k < ms.length) → (∀ s ∈ met1, C s) → ∀ s ∈ (onGo (onW ms cs to wo f) ms cs wo a ks met1).2, C s := by
        intro ks
        induction ks with
        | nil => intro met1 _ h; exact h
        | cons k ks ih =>
          intro met1 hk h
          rw [onGo]
          split
          · rename_i hc
            have hc := canB_iff.1 hc
            have hn : C (nxS (mvk ms k) a) := hC a ha k (hk k (by simp)) hc.1
            have h2 := onW_min (to := to) hC f (nxS (mvk ms k) a) (met1 ++ [nxS (mvk ms k) a]) hn (fun s hs => by
              rcases List.mem_append.1 hs with h3 | h3
              · exact h s h3
              · simp at h3; subst h3; exact hn)
            split
            · exact h2
            · exact ih _ (fun x hx => hk x (by simp [hx])) h2
          · exact ih met1 (fun x hx => hk x (by simp [hx])) h
      exact key _ met (fun k hk => List.mem_range.1 hk) hm
theorem onW_none {n : Int} (hn : 0 ≤ n) {ms : List Mv} (hms : ∀ m ∈ ms, m.Ok n) {cs : List Int} {to wo : Int} : ∀ (f : Nat) (a : Int) (met : List Int), MetOk n met → n < met.length + f → (onW ms cs to wo f a met).1 = none →
    a ≠ to ∧ ∀ s, (s = a ∨ (s ∈ (onW ms cs to wo f a met).2 ∧ s ∉ met)) → s ≠ to ∧ ClosedS ms cs wo (· ∈ (onW ms cs to wo f a met).2) s
  | 0, a, met, hm, hl, _ => by have := hm.len hn; omega
  | f + 1, a, met, hm, hl, h => by
    rw [onW] at h ⊢
    split at h
    · cases h
    · rename_i hat
      rw [if_neg hat]
      refine ⟨hat, ?_⟩
      have key : ∀ (ks : List Nat) (met1 : List Int), (∀ k ∈ ks, k < ms.length) → MetOk n met1 → met.length ≤ met1.length → (onGo (onW ms cs to wo f) ms cs wo a ks met1).1 = none →
          (∃ u, (onGo (onW ms cs to wo f) ms cs wo a ks met1).2 = met1 ++ u) ∧ (∀ k ∈ ks, arc ms cs wo a k → nxS (mvk ms k) a ∈ (onGo (onW ms cs to wo f) ms cs wo a ks met1).2) ∧
          ∀ s, s ∈ (onGo (onW ms cs to wo f) ms cs wo a ks met1).2 → s ∉ met1 → s ≠ to ∧ ClosedS ms cs wo (· ∈ (onGo (onW ms cs to wo f) ms cs wo a ks met1).2) s := by
        intro ks
        induction ks with
        | nil => intro met1 _ _ _ _; exact ⟨⟨[], by simp [onGo]⟩, (fun k hk => by cases hk), fun s h1 h2 => absurd h1 h2⟩
        | cons k ks ih =>
          intro met1 hk h1 h2 h3
          have hk0 := hk k (by simp)
          have hks : ∀ x ∈ ks, x < ms.length := fun x hx => hk x (by simp [hx])
          rw [onGo] at h3 ⊢
          split at h3
          · rename_i hc
            rw [if_pos hc]
            have hc2 := canB_iff.1 hc
            have hadd := h1.add (nxS_in (hms _ (mvk_mem hk0)) a) (canB_not hc)
            have hrec := onW_none hn hms (cs := cs) (to := to) (wo := wo) f (nxS (mvk ms k) a) (met1 ++ [nxS (mvk ms k) a]) hadd (by rw [List.length_append]; simp; omega)
            have hmo := onW_met hms (cs := cs) (to := to) (wo := wo) f (nxS (mvk ms k) a) (met1 ++ [nxS (mvk ms k) a]) hadd
            have e0 : ms.getD k ⟨0, 0, 0, 0⟩ = mvk ms k := rfl
            rw [e0] at h3 ⊢
            generalize onW ms cs to wo f (nxS (mvk ms k) a) (met1 ++ [nxS (mvk ms k) a]) = r at *
            obtain ⟨r1, r2⟩ := r
            simp only at h3 hrec hmo ⊢
            cases r1 with
            | some l => cases h3
            | none =>
              simp only at h3 ⊢
              obtain ⟨hr1, hr2⟩ := hrec rfl
              obtain ⟨hmo1, u, hmo2⟩ := hmo
              obtain ⟨⟨u2, i1⟩, i2, i3⟩ := ih r2 hks hmo1 (by rw [hmo2]; simp; omega) h3
              have sub : ∀ x, x ∈ r2 → x ∈ (onGo (onW ms cs to wo f) ms cs wo a ks r2).2 := fun x hx => by rw [i1]; exact List.mem_append_left _ hx
              refine ⟨⟨nxS (mvk ms k) a :: (u ++ u2), by rw [i1, hmo2]; simp⟩, fun x hx hx2 => ?_, fun s hs hns => ?_⟩
              · rcases List.mem_cons.1 hx with rfl | hx
                · exact sub _ (by rw [hmo2]; simp)
                · exact i2 x hx hx2
              · by_cases hr : s ∈ r2
                · have h4 := hr2 s (by
                    by_cases e : s = nxS (mvk ms k) a
                    · exact .inl e
                    · exact .inr ⟨hr, fun hm => by rcases List.mem_append.1 hm with h5 | h5; exact hns h5; simp at h5; exact e h5⟩)
                  exact ⟨h4.1, fun x hx hx2 => sub _ (h4.2 x hx hx2)⟩
                · exact i3 s hs hr
          · rename_i hc
            rw [if_neg hc]
            obtain ⟨i1, i2, i3⟩ := ih met1 hks h1 h2 h3
            refine ⟨i1, fun x hx hx2 => ?_, i3⟩
            rcases List.mem_cons.1 hx with rfl | hx
            · obtain ⟨u, i1⟩ := i1
              rw [i1]
              refine List.mem_append_left _ (Classical.byContradiction fun hm => hc (canB_iff.2 ⟨hx2, hm⟩))
            · exact i2 x hx hx2
      obtain ⟨⟨u, k1⟩, k2, k3⟩ := key _ met (fun k hk => List.mem_range.1 hk) hm (Nat.le_refl _) h
      rintro s (rfl | ⟨h1, h2⟩)
      · exact ⟨hat, fun k hk hx => k2 k (List.mem_range.2 hk) hx⟩
      · exact k3 s h1 h2
structure WayIs (n : Int) (ms : List Mv) (cs : List Int) (fr to wo : Int) : Prop where
  found : ∀ l, (wayW ms cs fr to wo).1 = some l → to ∈ (wayW ms cs fr to wo).2 ∧ Feas ms (walkF cs l) ∧ (∀ s, ov ms (walkF cs l) s = ov ms cs s + (if to = s then 1 else 0) - (if fr = s then 1 else 0)) ∧ (∀ k : Nat, (k : Int) = wo → (walkF cs l).getD k 0 = cs.getD k 0) ∧ (∀ s ∈ l, s.k < ms.length) ∧ l.length ≤ 7 ∧ l ≠ []
  not : (wayW ms cs fr to wo).1 = none → to ∉ (wayW ms cs fr to wo).2 ∧ ∀ s ∈ (wayW ms cs fr to wo).2, ClosedS ms cs wo (· ∈ (wayW ms cs fr to wo).2) s
  fr' : fr ∈ (wayW ms cs fr to wo).2
  inn : ∀ s ∈ (wayW ms cs fr to wo).2, 0 ≤ s ∧ s < n
  min : ∀ C : Int → Prop, (∀ a, C a → ClosedS ms cs wo C a) → C fr → ∀ s ∈ (wayW ms cs fr to wo).2, C s
theorem path_to {ms : List Mv} {cs : List Int} {wo to : Int} : ∀ (f : Nat) (a : Int) (met : List Int) (l : List Stp), a ∈ met → (onW ms cs to wo f a met).1 = some l → to ∈ (onW ms cs to wo f a met).2
  | 0, a, met, l, _, h => by simp [onW] at h
  | f + 1, a, met, l, ha, h => by
    rw [onW] at h ⊢
    split at h
    · rename_i e; rw [if_pos e]; exact e ▸ ha
    · rename_i e
      rw [if_neg e]
      have key : ∀ (ks : List Nat) (met1 : List Int), (onGo (onW ms cs to wo f) ms cs wo a ks met1).1 = some l → to ∈ (onGo (onW ms cs to wo f) ms cs wo a ks met1).2 := by
        intro ks
        induction ks with
        | nil => intro met1 h; simp [onGo] at h
        | cons k ks ih =>
          intro met1 h
          rw [onGo] at h ⊢
          split at h
          · rename_i hc
            rw [if_pos hc]
            split at h
            · rename_i l' hl'
              have := path_to (wo := wo) f _ _ l' (by simp) hl'
              exact this
            · rename_i hl'
              exact ih _ h
          · rename_i hc; rw [if_neg hc]; exact ih _ h
      exact key _ met h
theorem way_is {n : Int} (hn : 2 ≤ n ∧ n ≤ 6) {ms : List Mv} (hms : ∀ m ∈ ms, m.Ok n) {cs : List Int} (hf : Feas ms cs) {fr to wo : Int} (hfr : 0 ≤ fr ∧ fr < n) (hne : fr ≠ to) : WayIs n ms cs fr to wo := by
  have hmo : MetOk n [fr] := ⟨by simp, fun s hs => by simp at hs; subst hs; exact hfr⟩
  obtain ⟨u, hu⟩ := onW_app (ms := ms) (cs := cs) (to := to) (wo := wo) 7 fr [fr]
  have hin := (onW_met hms (cs := cs) (to := to) (wo := wo) 7 fr [fr] hmo).1.b
  refine ⟨fun l hl => ?_, fun hnone => ?_, ?_, hin, fun C hC h0 => onW_min hC 7 fr [fr] h0 (fun s hs => by simp at hs; subst hs; exact h0)⟩
  · have hp := onW_some 7 fr [fr] l hl
    obtain ⟨h1, h2, h3, h4⟩ := hp.walk hms (by simp) hf
    refine ⟨path_to 7 fr [fr] l (by simp) hl, h1, h2, h3, h4, onW_len 7 fr [fr] l hl, ?_⟩
    rintro rfl
    cases hp; exact hne rfl
  · obtain ⟨h1, h2⟩ := onW_none (by omega) hms 7 fr [fr] hmo (by simp; omega) hnone
    refine ⟨fun hm => ?_, fun s hs => ?_⟩
    · have : to ∈ (onW ms cs to wo 7 fr [fr]).2 := hm
      exact (h2 to (.inr ⟨this, by simpa using Ne.symm hne⟩)).1 rfl
    · by_cases e : s = fr
      · exact (h2 s (.inl e)).2
      · exact (h2 s (.inr ⟨hs, by simpa using e⟩)).2
  · show fr ∈ (onW ms cs to wo 7 fr [fr]).2
    rw [hu]; simp
end Go.AL.Br

namespace Go.AL.Br
open Go Go.AL Go.AL.Q
def limV (m : Mv) (fw : Bool) : Int := if fw then m.lo else m.hi
def pFr (m : Mv) (fw : Bool) : Int := if fw then m.fr else m.to
def pTo (m : Mv) (fw : Bool) : Int := if fw then m.to else m.fr
def pushW (ms : List Mv) (k : Nat) (fw : Bool) : Nat → List Int → Int
  | 0, l => l.getD k 0
  | f + 1, l => if l.getD k 0 == limV (mvk ms k) fw then l.getD k 0 else match (wayW ms l (pFr (mvk ms k) fw) (pTo (mvk ms k) fw) k).1 with
    | some st => pushW ms k fw f (walkF l (st ++ [⟨k, fw⟩]))
    | none => l.getD k 0
def dist (ms : List Mv) (k : Nat) (fw : Bool) (l : List Int) : Nat := (limV (mvk ms k) fw - l.getD k 0).natAbs
def pushF (ms : List Mv) (k : Nat) (fw : Bool) (l : List Int) : Int := pushW ms k fw (dist ms k fw l + 1) l
theorem walkF_app (cs : List Int) (l k : List Stp) : walkF cs (l ++ k) = walkF (walkF cs l) k := by unfold walkF; rw [List.foldl_append]
theorem pFr_ne {n : Int} {m : Mv} (h : m.Ok n) (fw : Bool) : pFr m fw ≠ pTo m fw := by
  have := h.ne
  unfold pFr pTo; split
  · exact this
  · exact fun e => this e.symm
theorem pFr_in {n : Int} {m : Mv} (h : m.Ok n) (fw : Bool) : 0 ≤ pFr m fw ∧ pFr m fw < n := by
  have := h.f
  have := h.t
  unfold pFr; split <;> omega
theorem push_step {n : Int} (hn : 2 ≤ n ∧ n ≤ 6) {ms : List Mv} (hms : ∀ m ∈ ms, m.Ok n) {k : Nat} (hk : k < ms.length) {fw : Bool} {l : List Int} (hf : Feas ms l) (hne : l.getD k 0 ≠ limV (mvk ms k) fw) {st : List Stp}
    (hs : (wayW ms l (pFr (mvk ms k) fw) (pTo (mvk ms k) fw) k).1 = some st) :
    Feas ms (walkF l (st ++ [⟨k, fw⟩])) ∧ (walkF l (st ++ [⟨k, fw⟩])).getD k 0 = l.getD k 0 + (if fw then -1 else 1) ∧ dist ms k fw (walkF l (st ++ [⟨k, fw⟩])) < dist ms k fw l ∧ (∀ s, ov ms (walkF l (st ++ [⟨k, fw⟩])) s = ov ms l s) ∧ (∀ s ∈ st ++ [(⟨k, fw⟩ : Stp)], s.k < ms.length) ∧ (st ++ [(⟨k, fw⟩ : Stp)]).length ≤ 8 ∧ st ≠ [] := by
  have hmo := hms _ (mvk_mem hk)
  have hw := way_is hn hms hf (wo := k) (pFr_in hmo fw) (pFr_ne hmo fw)
  obtain ⟨_, h1, h2, h3, h4, h5, h6⟩ := hw.found st hs
  have h3k := h3 k rfl
  have hb := hf.b k hk
  have hb1 := h1.b k hk
  have hl1 := h1.l
  have hmk : k < (walkF l st).length := by omega
  have e1 : walkF l (st ++ [⟨k, fw⟩]) = (walkF l st).set k ((walkF l st).getD k 0 + if fw then -1 else 1) := by
    rw [walkF_app]; exact walk1_eq _ _
  have hg : (walkF l (st ++ [⟨k, fw⟩])).getD k 0 = l.getD k 0 + (if fw then -1 else 1) := by rw [e1, getD_set hmk, if_pos rfl, h3k]
  have hlim : (fw = true → l.getD k 0 > (mvk ms k).lo) ∧ (fw = false → l.getD k 0 < (mvk ms k).hi) := by
    constructor
    · rintro rfl; have hne : l.getD k 0 ≠ (mvk ms k).lo := hne; omega
    · rintro rfl; have hne : l.getD k 0 ≠ (mvk ms k).hi := hne; omega
  refine ⟨⟨by rw [walkF_app]; rw [walkF_len]; exact hl1, fun i hi => ?_⟩, hg, ?_, fun s => ?_, fun s hs => ?_, by rw [List.length_append]; show st.length + 1 ≤ 8; omega, h6⟩
  · rw [e1, getD_set hmk]
    by_cases e : k = i
    · subst e; rw [if_pos rfl, h3k]
      cases fw with
      | true => have := hlim.1 rfl; show (mvk ms k).lo ≤ l.getD k 0 + -1 ∧ l.getD k 0 + -1 ≤ (mvk ms k).hi; omega
      | false => have := hlim.2 rfl; show (mvk ms k).lo ≤ l.getD k 0 + 1 ∧ l.getD k 0 + 1 ≤ (mvk ms k).hi; omega
    · rw [if_neg e]; exact h1.b i hi
  · unfold dist
    rw [hg]
    cases fw with
    | true => have := hlim.1 rfl; show ((mvk ms k).lo - (l.getD k 0 + -1)).natAbs < ((mvk ms k).lo - l.getD k 0).natAbs; omega
    | false => have := hlim.2 rfl; show ((mvk ms k).hi - (l.getD k 0 + 1)).natAbs < ((mvk ms k).hi - l.getD k 0).natAbs; omega
  · rw [e1, ov_set hl1 hk, h2 s]
    unfold pFr pTo
    cases fw with
    | true =>
      show ov ms l s + (if (mvk ms k).to = s then 1 else 0) - (if (mvk ms k).fr = s then 1 else 0) + (if (mvk ms k).to = s then -1 else 0) - (if (mvk ms k).fr = s then -1 else 0) = _
      split <;> split <;> omega
    | false =>
      show ov ms l s + (if (mvk ms k).fr = s then 1 else 0) - (if (mvk ms k).to = s then 1 else 0) + (if (mvk ms k).to = s then 1 else 0) - (if (mvk ms k).fr = s then 1 else 0) = _
      split <;> split <;> omega
  · rcases List.mem_append.1 hs with h | h
    · exact h4 s h
    · simp at h; subst h; exact hk
def negGo (ms : List Mv) (cs L : List Int) (a : Int) : List Nat → List Int → Option (List Stp) × List Int
  | [], rch => (none, rch)
  | s :: ss, rch => if L.getD s 0 ≥ 0 then negGo ms cs L a ss rch else match (wayW ms cs a s (-1)).1 with
    | some l => (some l, rch)
    | none => negGo ms cs L a ss (wayW ms cs a s (-1)).2
def firstPos (L : List Int) : Option Nat := L.findIdx? fun x => decide (x > 0)
def prfV (n : Int) (rch : List Int) : Int := (List.range n.toNat).foldl (fun (p : Int) (s : Nat) => if rch.contains (s : Int) then p else p + 2 ^ s) 0
def balF (n : Int) (ms : List Mv) : Nat → List Int → Option (List Int) × Int
  | 0, _ => (none, 0)
  | f + 1, cs => match firstPos (ovL n ms cs) with
    | none => (some cs, 0)
    | some a => match (negGo ms cs (ovL n ms cs) a (List.range n.toNat) []).1 with
      | some l => balF n ms f (walkF cs l)
      | none => (none, prfV n (negGo ms cs (ovL n ms cs) a (List.range n.toNat) []).2)
def phi (n : Int) (ms : List Mv) (cs : List Int) : Nat := ((ovL n ms cs).map Int.toNat).sum
def lows (ms : List Mv) : List Int := ms.map (·.lo)
def BalW (b : Book) : Option (List Int) × Int := balF b.n b.ms (phi b.n b.ms (lows b.ms) + 1) (lows b.ms)
theorem sum_lt {f g : Nat → Nat} : ∀ {n : Nat}, (∀ i, i < n → f i ≤ g i) → ∀ {k : Nat}, k < n → f k < g k → ((List.range n).map f).sum < ((List.range n).map g).sum
  | 0, _, k, hk, _ => by omega
  | n + 1, h, k, hk, hlt => by
    have hle : ∀ m, m ≤ n + 1 → ((List.range m).map f).sum ≤ ((List.range m).map g).sum := by
      intro m
      induction m with
      | zero => intro _; simp
      | succ m ih =>
        intro hm
        rw [List.range_succ, List.map_append, List.map_append, List.sum_append, List.sum_append]
        have := ih (by omega)
        have := h m (by omega)
        simp; omega
    rw [List.range_succ, List.map_append, List.map_append, List.sum_append, List.sum_append]
    by_cases e : k = n
    · subst e
      have := hle k (by omega)
      simp; omega
    · have := sum_lt (n := n) (fun i hi => h i (by omega)) (k := k) (by omega) hlt
      have := h n (by omega)
      simp; omega
theorem negGo_some {ms : List Mv} {cs L : List Int} {a : Int} : ∀ (ss : List Nat) (rch : List Int) (l : List Stp), (negGo ms cs L a ss rch).1 = some l → ∃ s ∈ ss, L.getD s 0 < 0 ∧ (wayW ms cs a s (-1)).1 = some l
  | [], rch, l, h => by simp [negGo] at h
  | s :: ss, rch, l, h => by
    rw [negGo] at h
    split at h
    · obtain ⟨x, h1, h2⟩ := negGo_some ss rch l h
      exact ⟨x, by simp [h1], h2⟩
    · split at h
      · rename_i hn l' hl'
        have h : some l' = some l := h
        cases h
        exact ⟨s, by simp, by omega, hl'⟩
      · obtain ⟨x, h1, h2⟩ := negGo_some ss _ l h
        exact ⟨x, by simp [h1], h2⟩
theorem firstPos_some {L : List Int} {a : Nat} (h : firstPos L = some a) : a < L.length ∧ L.getD a 0 > 0 := by
  unfold firstPos at h
  obtain ⟨h1, h2, _⟩ := List.findIdx?_eq_some_iff_getElem.1 h
  exact ⟨h1, by simpa [List.getD_eq_getElem?_getD, h1] using h2⟩
theorem bal_step {n : Int} (hn : 2 ≤ n ∧ n ≤ 6) {ms : List Mv} (hms : ∀ m ∈ ms, m.Ok n) {cs : List Int} (hf : Feas ms cs) {a : Nat} (ha : firstPos (ovL n ms cs) = some a) {l : List Stp}
    (hl : (negGo ms cs (ovL n ms cs) a (List.range n.toNat) []).1 = some l) : Feas ms (walkF cs l) ∧ phi n ms (walkF cs l) < phi n ms cs ∧ (∀ s ∈ l, s.k < ms.length) ∧ l.length ≤ 7 := by
  obtain ⟨h1, h2⟩ := firstPos_some ha
  rw [ovL_len] at h1
  obtain ⟨s, hs, h3, h4⟩ := negGo_some _ _ _ hl
  have hs := List.mem_range.1 hs
  have e1 := ovL_get (n := n) (ms := ms) (cs := cs) (s := (a : Int)) (by omega)
  have e2 := ovL_get (n := n) (ms := ms) (cs := cs) (s := (s : Int)) (by omega)
  rw [Int.toNat_natCast] at e1 e2
  rw [e1] at h2
  rw [e2] at h3
  have hw := way_is hn hms hf (fr := (a : Int)) (to := (s : Int)) (wo := -1) (by omega) (by rintro e; rw [e] at h2; omega)
  obtain ⟨_, w1, w2, _, w4, w5, _⟩ := hw.found l h4
  refine ⟨w1, ?_, w4, w5⟩
  unfold phi ovL
  rw [List.map_map, List.map_map]
  refine sum_lt (k := a) (fun i hi => ?_) (by omega) ?_
  · show (ov ms (walkF cs l) i).toNat ≤ (ov ms cs i).toNat
    rw [w2]
    split
    · rename_i e
      rw [e] at h3
      split <;> omega
    · split <;> omega
  · show (ov ms (walkF cs l) a).toNat < (ov ms cs a).toNat
    rw [w2, if_pos rfl, if_neg (by rintro e; rw [e] at h3; omega)]; omega
theorem lows_feas {n : Int} {ms : List Mv} (hms : ∀ m ∈ ms, m.Ok n) : Feas ms (lows ms) := ⟨by simp [lows], fun k hk => by
  have hmo := (hms _ (mvk_mem hk)).k
  have e : (lows ms).getD k 0 = (mvk ms k).lo := by rw [mvk_get hk]; simp [lows, List.getD_eq_getElem?_getD, hk]
  rw [e]; omega⟩
theorem Feas.cs {n : Int} {ms : List Mv} (hms : ∀ m ∈ ms, m.Ok n) {cs : List Int} (h : Feas ms cs) : CsOk ms cs := ⟨h.l, fun c hc => by
  obtain ⟨i, hi, rfl⟩ := List.getElem_of_mem hc
  have hi2 : i < ms.length := by rw [h.l]; exact hi
  have h1 := h.b i hi2
  have h2 := (hms _ (mvk_mem hi2)).k
  have e2 : cs.getD i 0 = cs[i] := by simp [List.getD_eq_getElem?_getD, hi]
  rw [e2] at h1; omega⟩
def BalanceR (b : Book) : List Sp × Int := if b.ok then match (BalW b).1 with
    | some cs => ((List.range b.ms.length).map fun k => ⟨pushF b.ms k true cs, pushF b.ms k false cs⟩, 0)
    | none => ([], 65)
  else ([], 63)
def ProofR (b : Book) : Int × Int := if b.ok then match (BalW b).1 with
    | some _ => (0, 4)
    | none => ((BalW b).2, 0)
  else (0, 63)
end Go.AL.Br

