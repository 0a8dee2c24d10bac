/- What the proof leans on, part 2: A14 A15 A15b A15c A15d M1 M2 M3 N1 A16 A16b A16c N3 N6 N4b N4c N4e N2 N4. -/
import Derived.Test.YtkfepnbanekfgaaK1
import Derived.Laws.AppendOwn
import Derived.OrdersIn
set_option linter.all false
namespace Go.AL
open Go Go.RowKit
theorem splice_get {c us : List Value} {off : Nat} (h : off + us.length ≤ c.length) (k : Nat) :
    (c.take off ++ us ++ c.drop (off + us.length))[k]? = if off ≤ k ∧ k < off + us.length then us[k - off]? else c[k]? := by
  have e1 : (c.take off).length = off := by simp; omega
  have e2 : (c.take off ++ us).length = off + us.length := by simp; omega
  by_cases h1 : k < off
  · rw [if_neg (by omega), List.getElem?_append_left (by omega), List.getElem?_append_left (by omega), List.getElem?_take, if_pos h1]
  · by_cases h2 : k < off + us.length
    · rw [if_pos ⟨by omega, h2⟩, List.getElem?_append_left (by omega), List.getElem?_append_right (by omega), e1]
    · rw [if_neg (by omega), List.getElem?_append_right (by omega), e2, List.getElem?_drop, show off + us.length + (k - (off + us.length)) = k by omega]
section
variable {X : Ctx} {T : Tab} {r : Option Nat} {s : St} {o : Oper} {K : St → Prop}
theorem DoesP.appOwnW (hT : T.Ok X.P) {d tx t e : Nat} {y : Operand} {nil2 : Bool} {cap2 : Cap} {es ys : List (List A)} (ho : o.op = .call { callee := .builtin .append, args := #[.tmp tx, y], argTypes := #[t, t] }) (hd : o.dst = some d)
    (ht : T.ty t = .slice e) (he : T.ty e ≠ .none) (h0 : 0 < T.sz e) (hx : s.S tx = .sl false (.own e) es) (hy : rd s.S y = .sl nil2 cap2 ys) (hne : tx ≠ d)
    (hs : ∀ z ∈ es ++ ys, z.length = T.sz e) (hb : Fits (es.length + ys.length) (T.by' e)) (hm : es.length + ys.length ≤ maxLen)
    (k : K ⟨upd (upd s.S tx (s.S tx).down) d (.sl false (.own e) (es ++ ys)), s.H, s.c⟩) : DoesP X r o s K := by
  intro hdn φ Z a w hr next Q hn
  obtain ⟨dst, op, ty, pos, aft, gd⟩ := o
  simp only at ho hd
  subst ho; subst hd
  have hvx : VR φ Z w (.sl false (.own e) es) (a.tmps.getD tx undef) := hx ▸ hr.slots tx
  have hvy := hy ▸ hr.sees.rd y
  have hev : (#[.tmp tx, y] : Array Operand).map a.eval = #[a.tmps.getD tx undef, a.eval y] := by simp [Act.eval]
  have down : Rel X φ Z { s with S := upd s.S tx (s.S tx).down } a w := hr.weaken (S' := upd s.S tx (s.S tx).down) (H' := s.H) (c' := s.c) (fun t' => by
      rw [upd_apply]
      split
      · rename_i e; subst e; exact .down _
      · exact .refl _) (fun id bx hb => ⟨bx, hb, .refl _⟩) (Nat.le_refl _)
  by_cases hys : ys = []
  · subst hys
    have hk := hr.take (hdn d rfl) hne
    rw [hx] at hk
    rw [hx, List.append_nil] at k
    refine wp_run (v := a.tmps.getD tx undef) (w' := w) (fun c => by simp) ?_ (hn _ Z _ _ k hk)
    obtain ⟨i, hi, hi1, hi2, z, hiz, hzf⟩ := hT.inf e he
    have hrun : (Builtin.append_ #[t, t] ty #[a.tmps.getD tx undef, a.eval y]).run X.P w = .ok (a.tmps.getD tx undef) w := by
      rcases inv_sl hvx with ⟨hn, _⟩ | ⟨_, e2, a3, e0⟩ | ⟨_, b, off, sz, c, val, e0, k1, k2, k3, _⟩
      · cases hn
      · rcases inv_sl hvy with ⟨_, _, e1⟩ | ⟨_, _, a4, e1⟩ | ⟨_, b2, off2, sz2, c2, val2, e1, _⟩ <;> rw [e0, e1]
        · simp [Builtin.append_, run_underlying (und_slice hT ht), sizeOf, typeInfo, hi, Builtin.lenOf, Builtin.firstCells, storeCells]
        · simp [Builtin.append_, run_underlying (und_slice hT ht), sizeOf, typeInfo, hi, Builtin.lenOf, Builtin.firstCells, storeCells, loadCells, loadCellsFrom]
        · simp [Builtin.append_, run_underlying (und_slice hT ht), sizeOf, typeInfo, hi, Builtin.lenOf, Builtin.firstCells, storeCells, loadCells, loadCellsFrom]
      · rcases inv_sl hvy with ⟨_, _, e1⟩ | ⟨_, _, a4, e1⟩ | ⟨_, b2, off2, sz2, c2, val2, e1, _⟩ <;> rw [e0, e1]
        rotate_left
        · simp [Builtin.append_, run_underlying (und_slice hT ht), sizeOf, typeInfo, hi, Builtin.lenOf, Builtin.firstCells, storeCells, loadCells, loadCellsFrom, k1]
        rotate_left
        · simp [Builtin.append_, run_underlying (und_slice hT ht), sizeOf, typeInfo, hi, Builtin.lenOf, Builtin.firstCells, storeCells, k1]
        · simp [Builtin.append_, run_underlying (und_slice hT ht), sizeOf, typeInfo, hi, Builtin.lenOf, Builtin.firstCells, storeCells, loadCells, loadCellsFrom, k1]
    rw [ex_builtin, bi_append, Sem.run_bind, hev, hrun]; rfl
  · have hpos : 0 < ys.length := by cases ys with | nil => exact absurd rfl hys | cons y ys => simp
    obtain ⟨i, hi, hi1, hi2, z, hiz, hzf⟩ := hT.inf e he
    rcases sl_flat' (sz := T.sz e) hvx (fun z hz => hs z (by simp [hz])) with ⟨bx, offx, cx, valsx, ex, kx1, kx2, kx3, kx4, kx5, kx6, kx7, kx8⟩ | ⟨ee, a3, ex⟩
    rotate_left
    · obtain ⟨u', w', Z', h1, h2, h3, n, c, i', cur, rfl, h5, h6, h7, h8⟩ := run_append_newW hT hr.zok ht he h0 hvx hvy hs hb hm (fun a' n' c' e1 => by rw [ex] at e1; cases e1; omega) hys (ty := ty)
      have hk := down.put h2 (hdn d rfl) h3 (down.own_new (fun b1 e1 hsp => by
        simp only [spareOf] at hsp
        split at hsp
        · cases hsp; exact ⟨Nat.le_refl _, fun id hi' hb' => by have := down.box_lt hi' hb'; omega, n, c, i', cur, rfl, h5, h6, h7, h8⟩
        · cases hsp) d)
      refine wp_run (v := .slice (some ⟨w.heap.size, 0, none⟩) n c) (w' := w') (fun c => by simp) ?_ (hn _ _ _ _ k hk)
      rw [ex_builtin, bi_append, Sem.run_bind, hev, h1]; rfl
    by_cases hroom : es.length + ys.length ≤ cx
    ·
      have hsp : spareOf (s.S tx) (.slice (some ⟨bx, offx, none⟩) es.length cx) = some (bx, e) := by
        rw [hx]; simp only [spareOf]; rw [if_pos (by omega)]
      have hsp' : spareOf (absAt s (.slot tx)) (conAt φ a w (.slot tx)) = some (bx, e) := by
        simp only [absAt, conAt, ex]; exact hsp
      obtain ⟨k0, n', c', i', cur, j1, j2, j3, j4, j5⟩ := hr.own1 _ _ _ hsp'
      simp only [conAt, ex] at j1
      cases j1
      rw [hi] at j2; cases j2
      have hn2 : nil2 = false := by
        rcases inv_sl hvy with ⟨_, h1, _⟩ | ⟨h1, _⟩ | ⟨h1, _⟩
        · exact absurd h1 hys
        · exact h1
        · exact h1
      subst hn2
      obtain ⟨by1, offy, cy, valsy, ey, ky1, ky2, ky3, ky4, ky5, ky6, ky7, ky8⟩ := sl_flat hvy hys (fun z hz => hs z (by simp [hz]))
      have hfit : es.length * i.size + valsy.length ≤ cur.size := by
        rw [j4, ky4, ← hi1, ← Nat.add_mul]; exact Nat.mul_le_mul_right _ hroom
      have hrun := run_append_room (P := X.P) w t ty e i (und_slice hT ht) hi bx es.length cx cur j3 ⟨by1, offy, none⟩ ys.length cy valsy (by rw [ky4, hi1]) (fun j x hj => by rw [add_addr]; exact ky6 j x hj) ky7 hroom hfit
      generalize hw' : w.setRow bx (cur.toList.take (es.length * i.size) ++ valsy ++ cur.toList.drop (es.length * i.size + valsy.length)).toArray = w' at hrun
      have hblk' : w'.heap[bx]? = some (.cells (cur.toList.take (es.length * i.size) ++ valsy ++ cur.toList.drop (es.length * i.size + valsy.length)).toArray e (0, 0)) := by
        rw [← hw']; exact setRow_heap w bx cur _ e _ j3
      have hcell : ∀ j, w'.cell? ⟨bx, j, none⟩ = if es.length * i.size ≤ j ∧ j < es.length * i.size + valsy.length then valsy[j - es.length * i.size]? else cur[j]? := fun j => by
        rw [← hw', setRow_cell j3, List.getElem?_toArray, splice_get (by simpa using hfit)]; simp
      have hcur : ∀ j, w.cell? ⟨bx, j, none⟩ = cur[j]? := fun j => by simp only [World.cell?, j3, Option.isSome_none, Bool.false_eq_true, if_false]
      have q : At w w' bx Z := by
        refine ⟨by rw [← hw']; simp, fun k hk => by rw [← hw']; exact setRow_other w bx k _ hk, by rw [← hw']; rfl, by rw [← hw']; rfl, by rw [← hw']; rfl, fun b1 o1 hz => ?_⟩
        by_cases hb1 : b1 = bx
        · subst hb1
          have hlt : ¬ es.length * i.size ≤ o1 := fun hle => j5 o1 hle hz
          rw [hcell, if_neg (by omega), hcur]
        · exact World.cell?_of_block (w := w) (by rw [← hw']; exact setRow_other w bx b1 _ hb1)
      have up := fun {x : A} {v : Value} (h : VR φ Z w x v) => h.mono (φ' := φ) (Z' := fun b1 o => Z b1 o ∨ (b1 = bx ∧ es.length * i.size ≤ o ∧ o < (es.length + ys.length) * i.size)) (w' := w') (fun _ _ h => h) (fun _ _ h => .inl h) (fun b o hz => q.cells b o hz)
      have hlen : (es ++ ys).length = es.length + ys.length := by simp
      have hv' : VR φ (fun b1 o => Z b1 o ∨ (b1 = bx ∧ es.length * i.size ≤ o ∧ o < (es.length + ys.length) * i.size)) w' (.sl false (.own e) (es ++ ys)) (.slice (some ⟨bx, 0, none⟩) (es.length + ys.length) cx) := by
        have key := sl_of_flat (φ := φ) (Z := fun b1 o => Z b1 o ∨ (b1 = bx ∧ es.length * i.size ≤ o ∧ o < (es.length + ys.length) * i.size)) (w := w') (cap := .own e) (es := es ++ ys) (sz := T.sz e) (b := bx) (off := 0) (c := cx) (vals := valsx ++ valsy)
          hs (by rw [hlen]; exact hroom) (fun h => by cases h) kx3 (by rw [hlen, List.length_append, kx4, ky4, Nat.add_mul])
          (fun j hj => by
            rw [hlen] at hj
            by_cases h1 : j < es.length * T.sz e
            · exact .inl (kx5 j h1)
            · exact .inr ⟨rfl, by rw [hi1]; omega, by rw [hi1]; omega⟩)
          (fun j x hj => by
            rw [Nat.zero_add, hcell]
            by_cases h1 : j < es.length * T.sz e
            · rw [if_neg (by rw [hi1]; omega)]
              rw [List.getElem?_append_left (by omega)] at hj
              have := kx6 j x hj
              rw [Nat.zero_add, hcur] at this
              exact this
            · rw [List.getElem?_append_right (by omega), kx4] at hj
              have hlt := (List.getElem?_eq_some_iff.1 hj).1
              rw [if_pos (by rw [hi1]; omega), hi1]; exact hj)
          (fun x hx => (List.mem_append.1 hx).elim (fun h => kx7 x h) (fun h => ky7 x h)) (fun i' j hi' hj => ?_)
        · rw [hlen] at key; exact key
        · by_cases h1 : i' < es.length
          · have hk : i' * T.sz e + j < valsx.length := by
              have : (i' + 1) * T.sz e ≤ es.length * T.sz e := Nat.mul_le_mul_right _ h1
              rw [Nat.add_mul, Nat.one_mul] at this; omega
            have h2 := up (kx8 i' j h1 hj)
            rw [show (es ++ ys).getD i' [] = es.getD i' [] by simp [List.getD_eq_getElem?_getD, List.getElem?_append, h1],
              show (valsx ++ valsy).getD (i' * T.sz e + j) undef = valsx.getD (i' * T.sz e + j) undef by simp [List.getD_eq_getElem?_getD, List.getElem?_append, hk]]
            exact h2
          · have hi2 : i' - es.length < ys.length := by rw [hlen] at hi'; omega
            have h2 := up (ky8 (i' - es.length) j hi2 hj)
            have hle : es.length * T.sz e ≤ i' * T.sz e := Nat.mul_le_mul_right _ (by omega)
            have hk : ¬ (i' * T.sz e + j < valsx.length) := by omega
            rw [show (es ++ ys).getD i' [] = ys.getD (i' - es.length) [] by simp [List.getD_eq_getElem?_getD, List.getElem?_append, h1],
              show (valsx ++ valsy).getD (i' * T.sz e + j) undef = valsy.getD ((i' - es.length) * T.sz e + j) undef by
                simp only [List.getD_eq_getElem?_getD, List.getElem?_append, hk, if_false]
                congr 2
                rw [kx4, Nat.sub_mul]; omega]
            exact h2
      have hk := hr.inplace (hdn d rfl) hsp ex hi (m := ys.length) hroom j3 q hblk' (by simp; omega) hv' (fun p hp => by
        simp only [spareOf] at hp
        split at hp
        · cases hp; rfl
        · cases hp)
      refine wp_run (v := .slice (some ⟨bx, 0, none⟩) (es.length + ys.length) cx) (w' := w') (fun c => by simp) ?_ (hn _ _ _ _ k hk)
      rw [ex_builtin, bi_append, Sem.run_bind, hev, ex, ey, hrun]; rfl
    ·
      obtain ⟨u', w', Z', h1, h2, h3, n, c, i', cur, rfl, h5, h6, h7, h8⟩ := run_append_newW hT hr.zok ht he h0 hvx hvy hs hb hm (fun a' n' c' e1 => by rw [ex] at e1; cases e1; omega) hys (ty := ty)
      have hk := down.put h2 (hdn d rfl) h3 (down.own_new (fun b1 e1 hsp => by
        simp only [spareOf] at hsp
        split at hsp
        · cases hsp; exact ⟨Nat.le_refl _, fun id hi' hb' => by have := down.box_lt hi' hb'; omega, n, c, i', cur, rfl, h5, h6, h7, h8⟩
        · cases hsp) d)
      refine wp_run (v := .slice (some ⟨w.heap.size, 0, none⟩) n c) (w' := w') (fun c => by simp) ?_ (hn _ _ _ _ k hk)
      rw [ex_builtin, bi_append, Sem.run_bind, hev, h1]; rfl
theorem DoesP.appOwn (hT : T.Ok X.P) {d tx t e : Nat} {y : Operand} {nil2 : Bool} {cap2 : Cap} {es ys : List (List A)} (ho : o.op = .call { callee := .builtin .append, args := #[.tmp tx, y], argTypes := #[t, t] }) (hd : o.dst = some d)
    (ht : T.ty t = .slice e) (he : T.ty e ≠ .none) (h0 : 0 < T.sz e) (hx : s.S tx = .sl false (.own e) es) (hy : rd s.S y = .sl nil2 cap2 ys) (hne : tx ≠ d)
    (hs : ∀ z ∈ es ++ ys, z.length = T.sz e) (hb : (es.length + ys.length) * T.by' e ≤ 140737488355328) (hm : es.length + ys.length ≤ maxLen)
    (k : K ⟨upd (upd s.S tx (s.S tx).down) d (.sl false (.own e) (es ++ ys)), s.H, s.c⟩) : DoesP X r o s K :=
  DoesP.appOwnW hT ho hd ht he h0 hx hy hne hs (.inl hb) hm k
theorem DoesP.loadTake (hT : T.Ok X.P) {d t id off : Nat} {x : Operand} {cs : List A} (ho : o.op = .load t x) (hd : o.dst = some d) (hx : rd s.S x = .ref id off) (hi : s.H id = some (.cells cs)) (ht : T.ty t ≠ .none)
    (hag : (T.ty t).isAgg = false) (hl : off < cs.length) (k : K ⟨upd s.S d (cs.getD off .un), updH s.H id (some (.cells (setSeg cs off [(cs.getD off .un).down]))), s.c⟩) : DoesP X r o s K := by
  intro hdn φ Z a w hr next Q hn
  obtain ⟨dst, op, ty, pos, aft, gd⟩ := o
  simp only at ho hd
  subst ho; subst hd
  obtain ⟨b, e0, hb⟩ := inv_ref (hx ▸ hr.sees.rd x)
  obtain ⟨c, ty', hblk, hlen, hc⟩ := hr.bl hi hb
  have hle : off + [(cs.getD off .un).down].length ≤ cs.length := by simp; omega
  have hg : ∀ j, (setSeg cs off [(cs.getD off .un).down]).getD j .un = if j = off then (cs.getD off .un).down else cs.getD j .un := fun j => by
    rw [setSeg_getD hle]
    by_cases h : j = off
    · subst h; rw [if_pos (by simp), if_pos rfl]; simp
    · rw [if_neg (by simp; omega), if_neg h]
  have hr1 : Rel X φ Z { s with H := updH s.H id (some (.cells (setSeg cs off [(cs.getD off .un).down]))) } a w := hr.weaken (S' := s.S) (H' := updH s.H id (some (.cells (setSeg cs off [(cs.getD off .un).down])))) (c' := s.c) (fun _ => .refl _)
    (fun id' bx hb' => by
      rw [updH_apply] at hb'
      split at hb'
      · rename_i e1
        subst e1
        cases hb'
        refine ⟨_, hi, fun φ Z w b ⟨c, ty, k1, k2, k3⟩ => ⟨c, ty, k1, by rw [setSeg_len hle]; exact k2, fun j hj => ?_⟩, fun j v p hs => ?_⟩
        · rw [setSeg_len hle] at hj
          rw [hg]
          split
          · rename_i e2; subst e2; exact ⟨(k3 j hj).1.down, (k3 j hj).2⟩
          · exact k3 j hj
        · simp only [cellOf, hg] at hs ⊢
          split at hs
          · rw [spare_down] at hs; cases hs
          · exact hs
      · exact ⟨bx, hb', .refl _⟩) (Nat.le_refl _)
  have hcell : w.cell? ⟨b, off, none⟩ = some (c.getD off undef) := by
    have : off < c.size := by omega
    simp [World.cell?, hblk, this, Array.getD]
  have hk := hr1.put hr1.more_refl (hdn d rfl) (hc off hl).1 (fun b1 e1 hs => by
    have hs' : spareOf (absAt s (.box id off)) (conAt φ a w (.box id off)) = some (b1, e1) := by
      simp only [absAt, hi, conAt, hb, hcell]; exact hs
    obtain ⟨k0, k1⟩ := hr.own1 _ _ _ hs'
    refine ⟨⟨fun id' h' => k0 id' (by
        by_cases e2 : id' = id
        · subst e2; simp [hi]
        · simp only [updH_other _ _ e2] at h'; exact h'), by simp only [conAt, hb, hcell] at k1; exact k1⟩, hr.mut2 _ _ _ hs', fun l e' hl1 hl2 => ?_⟩
    have hl3 : spareOf (absAt s l) (conAt φ a w l) = some (b1, e') ∧ l ≠ .box id off := by
      cases l with
      | slot t' => exact ⟨hl2, fun e => by cases e⟩
      | box id' j =>
        simp only [absAt, updH_apply] at hl2
        by_cases e2 : id' = id
        · subst e2
          rw [if_pos rfl] at hl2
          simp only [hg] at hl2
          by_cases e3 : j = off
          · rw [if_pos e3, spare_down] at hl2; cases hl2
          · rw [if_neg e3] at hl2
            exact ⟨by simp only [absAt, hi]; exact hl2, fun e => e3 (by cases e; rfl)⟩
        · rw [if_neg e2] at hl2
          exact ⟨hl2, fun e => e2 (by cases e; rfl)⟩
    exact hl3.2 (hr.own2 _ _ b1 e' e1 hl3.1 hs'))
  refine wp_run (v := c.getD off undef) (w' := w) (fun c => by simp) ?_ (hn _ Z _ _ k hk)
  simp [ex_load, e0, run_load_one hT ht hag hcell]
theorem DoesR.mkSlice (hT : T.Ok X.P) {d t e : Nat} {x y : Operand} {n : Int} (ho : o.op = .makeSlice t x y) (hd : o.dst = some d) (ht : T.ty t = .slice e) (he : T.ty e ≠ .none) (hx : rd s.S x = .int n) (hy : rd s.S y = .int n)
    (h0 : 0 ≤ n) (hm : n ≤ maxLen) (hb : (T.by' e : Int) * n ≤ 140737488355328)
    (k : K ⟨upd s.S d (.ms s.c 0 n.toNat), updH s.H s.c (some (.cells (((List.range (n.toNat * T.sz e)).map fun j => (T.zr e).getD (j % T.sz e) .un).map A.down))), s.c + 1⟩) : DoesR X r o s K := by
  intro hdn φ Z a w hr next Q hn
  obtain ⟨dst, op, ty, pos, aft, gd⟩ := o
  simp only at ho hd
  subst ho; subst hd
  obtain ⟨i, hi, hi1, hi2, z, hiz, hzf⟩ := hT.inf e he
  have e1 := inv_s (hx ▸ hr.sees.rd x)
  have e2 := inv_s (hy ▸ hr.sees.rd y)
  have hrun := run_make (P := X.P) w t e i z (und_slice hT ht) hi hiz .i64 .i64 n n h0 (Int.le_refl _) (by rw [hi2]; omega) (by simp only [maxLen] at hm; omega)
  have hz := zero_vrc (φ := φ) (Z := Z) (w := w) hzf
  have hv : VRc φ Z w ((List.range (n.toNat * T.sz e)).map fun j => (T.zr e).getD (j % T.sz e) .un) (madeCells z.cells (n.toNat * i.size)) := by
    refine ⟨by rw [size_madeCells, hi1]; simp, fun j hj => ?_⟩
    have hj' : j < n.toNat * T.sz e := by simpa using hj
    have hpos : 0 < T.sz e := Nat.pos_of_ne_zero fun h => by rw [h] at hj'; simp at hj'
    have hmod : j % T.sz e < T.sz e := Nat.mod_lt _ hpos
    have h3 := hz.2 (j % T.sz e) (by rw [hzf.2.1]; exact hmod)
    have g1 : (madeCells z.cells (n.toNat * i.size)).getD j undef = z.cells.getD (j % T.sz e) undef := by
      have : j % z.cells.size < z.cells.size := by rw [hzf.1]; exact hmod
      have h5 : j % T.sz e < z.cells.size := by rw [hzf.1]; exact hmod
      simp [madeCells, Array.getD_eq_getD_getElem?, hi1, hj', hzf.1, h5, getElem!_pos z.cells (j % T.sz e) h5]
      rw [Array.getElem?_eq_getElem h5]; rfl
    have g2 : ((List.range (n.toNat * T.sz e)).map fun j => (T.zr e).getD (j % T.sz e) .un).getD j .un = (T.zr e).getD (j % T.sz e) .un := by
      simp [List.getD_eq_getElem?_getD, hj']
    rw [g1, g2]
    exact h3
  refine wp_run (fun c => by simp) (by rw [ex_makeSlice, Sem.run_bind, e1, e2, hrun]; rfl) (hn _ _ Z _ _ k (hr.newCells (ty := e) (hdn d rfl) (hr.fresh _ (Nat.le_refl _)) (Nat.le_succ _) (Nat.lt_succ_self _) hv ?_ (fun p => by simp [spareOf])))
  exact .ms _ _ _ _ _ (by simp) (Nat.le_refl _) (by omega)
end
end Go.AL

namespace Go.AL
open Go Go.RowKit
section
variable {X : Ctx} {φ φ' : Names} {Z Z' : Still} {s : St} {a : Act} {w w' : World} {H' : Hp} {c' : Nat}
theorem Rel.mine_mut (h : Rel X φ Z s a w) {b : Nat} (m : Mine φ s.H w b) : X.M0 b ∨ X.w0.heap.size ≤ b := by
  rcases m with ⟨id, h1, h2⟩ | ⟨id, j, e, h1⟩
  · exact h.mut1 id b h1 h2
  · exact h.mut2 (.box id j) b e h1
theorem Rel.slot_not_mine (h : Rel X φ Z s a w) {t b e : Nat} (hs : spareOf (absAt s (.slot t)) (conAt φ a w (.slot t)) = some (b, e)) : ¬ Mine φ s.H w b := by
  rintro (⟨id, h1, h2⟩ | ⟨id, j, e', h1⟩)
  · exact (h.own1 _ _ _ hs).1 id h1 h2
  · have := h.own2 (.slot t) (.box id j) b e e' hs h1
    cases this
theorem HRel.mine_of_spare {P : Program} (h : HRel P φ' Z' H' c' w') {id j b e : Nat} {a' : Act} {S' : Slots} {c2 : Nat} (hs : spareOf (absAt ⟨S', H', c2⟩ (.box id j)) (conAt φ' a' w' (.box id j)) = some (b, e)) : Mine φ' H' w' b :=
  .inr ⟨id, j, e, hs⟩
theorem Rel.called (h : Rel X φ Z s a w) (k : HRel X.P φ' Z' H' c' w') (g : Grew X.P φ φ' Z Z' s.H H' w w') : Rel X φ' Z' ⟨s.S, H', c'⟩ a w' := by
  have up := fun {x : A} {v : Value} (hx : VR φ Z w x v) => hx.mono (φ' := φ') (Z' := Z') (w' := w') g.names (fun b o hz => (g.up b o hz).1) (fun b o hz => (g.up b o hz).2)
  have old : ∀ b, b < w.heap.size → ¬ Mine φ s.H w b → ¬ Mine φ' H' w' b := fun b hb hn hm => (g.mine b hm).elim hn (fun h1 => by omega)
  have mutb : ∀ b, Mine φ' H' w' b → X.M0 b ∨ X.w0.heap.size ≤ b := fun b hm => (g.mine b hm).elim h.mine_mut (fun h1 => .inr (Nat.le_trans h.grow h1))
  exact {
    size := h.size
    slots := fun t => up (h.slots t)
    boxes := k.boxes
    inj := k.inj
    zok := k.zok
    zbox := k.zbox
    own1 := fun l b e hl => by
      cases l with
      | slot t =>
        have hl' : spareOf (absAt s (.slot t)) (conAt φ a w (.slot t)) = some (b, e) := hl
        obtain ⟨k0, n, c, i, cur, k1, k2, k3, k4, k5⟩ := h.own1 _ _ _ hl'
        have hn := h.slot_not_mine hl'
        have hlt := lt_of_block k3
        exact ⟨fun id h1 h2 => old b hlt hn (.inl ⟨id, h1, h2⟩), n, c, i, cur, k1, k2, (g.frame b hlt hn).trans k3, k4, fun o ho hz => (g.back b o hz hlt).elim (k5 o ho) hn⟩
      | box id j => exact k.own1 id j b e hl
    own2 := fun l l' b e e' hl hl' => by
      cases l with
      | slot t =>
        have h1 : spareOf (absAt s (.slot t)) (conAt φ a w (.slot t)) = some (b, e) := hl
        have hlt := (h.own1 _ _ _ h1).lt
        cases l' with
        | slot t' => exact h.own2 (.slot t) (.slot t') b e e' hl hl'
        | box id j => exact (old b hlt (h.slot_not_mine h1) (k.mine_of_spare hl')).elim
      | box id j =>
        cases l' with
        | slot t =>
          have h1 : spareOf (absAt s (.slot t)) (conAt φ a w (.slot t)) = some (b, e') := hl'
          have hlt := (h.own1 _ _ _ h1).lt
          exact (old b hlt (h.slot_not_mine h1) (k.mine_of_spare hl)).elim
        | box id' j' => exact k.own2 id j id' j' b e e' hl hl'
    mut1 := fun id b h1 h2 => mutb b (.inl ⟨id, h1, h2⟩)
    mut2 := fun l b e hl => by
      cases l with
      | slot t => exact h.mut2 (.slot t) b e hl
      | box id j => exact mutb b (k.mine_of_spare hl)
    grow := Nat.le_trans h.grow g.size
    frame := fun b hb hm => (g.frame b (Nat.lt_of_lt_of_le hb h.grow) (fun hm' => (h.mine_mut hm').elim hm (fun h1 => by omega))).trans (h.frame b hb hm)
    os := g.os.trans h.os
    tape := g.tape.trans h.tape
    output := g.output.trans h.output
    z0 := fun b o hz => ⟨(g.up b o (h.z0 b o hz).1).1, (g.up b o (h.z0 b o hz).1).2.trans (h.z0 b o hz).2⟩
    zback := fun b o hz hb => (g.back b o hz (Nat.lt_of_lt_of_le hb h.grow)).elim (fun h1 => h.zback b o h1 hb) (fun hm => .inr ((h.mine_mut hm).elim id (fun h1 => by omega)))
    names := fun id b hid => g.names id b (h.names id b hid)
    fresh := k.fresh
    defs := fun d hd => by
      obtain ⟨r, h1, h2, h3, h4⟩ := h.defs d hd
      have hlt := lt_of_block h3
      have hn : ¬ Mine φ s.H w r := by
        rintro (⟨id, j1, j2⟩ | ⟨id, j, e, j1⟩)
        · exact h4 id j1 j2
        · obtain ⟨_, n, c, i, cur, _, _, k3, _⟩ := h.own1 (.box id j) r e j1
          rw [h3] at k3; cases k3
      exact ⟨r, h1, h2, (g.frame r hlt hn).trans h3, fun id j1 j2 => old r hlt hn (.inl ⟨id, j1, j2⟩)⟩
    dnd := h.dnd }
end
def putO (S : Slots) : Option Nat → A → Slots
  | some d, v => upd S d v
  | none, _ => S
section
variable {X : Ctx} {T : Tab} {r : Option Nat} {s : St} {o : Oper} {K : St → Prop}
theorem DoesR.call {g : Nat} {f : Operand} {args : Array Operand} {at' : Array TypeId} {fst cap : List A} {post : A → Hp → Nat → Prop} (ho : o.op = .call { callee := .value f, args := args, argTypes := at' })
    (hf : rd s.S f = .fn (.func g) fst cap) (he : Enters X.P g) (h : SCall X.P g (fst ++ rds s.S args.toList ++ cap) s.H s.c post)
    (k : ∀ v H' c', post v H' c' → K ⟨putO s.S o.dst v, H', c'⟩) : DoesR X r o s K := by
  intro hdn φ Z a w hr next Q hn
  obtain ⟨dst, op, ty, pos, aft, gd⟩ := o
  simp only at ho
  subst ho
  obtain ⟨fv, cv, e0, h1, h2⟩ := inv_fn (hf ▸ hr.sees.rd f)
  have h3 := vrs_rds hr.slots args
  refine ⟨fun f _ => trivial, ?_⟩
  have hrun : (execOp a.eval { dst := dst, op := Op.call { callee := .value f, args := args, argTypes := at' }, type := ty, pos := pos, after := aft, guard := gd }).run X.P w =
      .ok (.enter g (fv ++ args.map a.eval ++ cv)) w := by
    simp only [ex_call, resolve, e0, Deferred.ofValue, invoke, Sem.run_bind, Sem.run_pure, Result.andThen_ok]
    exact he _ _
  rw [Oper.semAt_eq _ _ _ (fun c => by simp), hrun, Oper.uponIn_enter]
  refine ⟨fun h0 => (by cases h0), callsIn_fenceR ((h φ Z w _ hr.hrel ((h1.append h3).append h2)).mono ?_)⟩
  rintro e w' ⟨u, v, H', c', φ', Z', rfl, hp, hv, hsp, k1, k2⟩
  have hr' := hr.called k1 k2
  have hk := k v H' c' hp
  cases dst with
  | none => exact hn _ φ' Z' _ w' hk hr'
  | some d => exact hn _ φ' Z' _ w' hk (hr'.put_down hr'.more_refl (hdn d rfl) hv (fun p hs => by rw [hsp] at hs; cases hs))
end
end Go.AL

namespace Go.AL
open Go Go.RowKit
structure Eff where
  ws : List (Nat × A)
  hs : List (Nat × B)
def apS (S : Slots) : List (Nat × A) → Slots
  | [] => S
  | (t, v) :: l => apS (upd S t v) l
def apH (H : Hp) : List (Nat × B) → Hp
  | [] => H
  | (t, v) :: l => apH (updH H t (some v)) l
theorem apS_congr {t : Nat} : ∀ {l : List (Nat × A)} {S S' : Slots}, S t = S' t → apS S l t = apS S' l t
  | [], _, _, h => h
  | (d, v) :: l, S, S', h => apS_congr (l := l) (by rw [upd_apply, upd_apply, h])
theorem apS_other {t : Nat} : ∀ {l : List (Nat × A)} {S : Slots}, t ∉ l.map (·.1) → apS S l t = S t
  | [], _, _ => rfl
  | (d, v) :: l, S, h => by
    simp only [List.map_cons, List.mem_cons, not_or] at h
    rw [apS, apS_other h.2, upd_apply, if_neg h.1]
theorem apS_in {t : Nat} : ∀ {l : List (Nat × A)} {S S' : Slots}, t ∈ l.map (·.1) → apS S l t = apS S' l t
  | [], _, _, h => by simp at h
  | (d, v) :: l, S, S', h => by
    by_cases h1 : t ∈ l.map (·.1)
    · exact apS_in (l := l) h1
    · rw [apS, apS, apS_other h1, apS_other h1, upd_apply, upd_apply]
      simp only [List.map_cons, List.mem_cons] at h
      rw [if_pos (h.resolve_right h1), if_pos (h.resolve_right h1)]
theorem apH_congr {t : Nat} : ∀ {l : List (Nat × B)} {S S' : Hp}, S t = S' t → apH S l t = apH S' l t
  | [], _, _, h => h
  | (d, v) :: l, S, S', h => apH_congr (l := l) (by rw [updH_apply, updH_apply, h])
theorem apH_other {t : Nat} : ∀ {l : List (Nat × B)} {S : Hp}, t ∉ l.map (·.1) → apH S l t = S t
  | [], _, _ => rfl
  | (d, v) :: l, S, h => by
    simp only [List.map_cons, List.mem_cons, not_or] at h
    rw [apH, apH_other h.2, updH_apply, if_neg h.1]
theorem apH_in {t : Nat} : ∀ {l : List (Nat × B)} {S S' : Hp}, t ∈ l.map (·.1) → apH S l t = apH S' l t
  | [], _, _, h => by simp at h
  | (d, v) :: l, S, S', h => by
    by_cases h1 : t ∈ l.map (·.1)
    · exact apH_in (l := l) h1
    · rw [apH, apH, apH_other h1, apH_other h1, updH_apply, updH_apply]
      simp only [List.map_cons, List.mem_cons] at h
      rw [if_pos (h.resolve_right h1), if_pos (h.resolve_right h1)]
def LS (L : Nat → Bool) : List Eff → Nat → Slots → Slots
  | [], _, S => S
  | f :: l, i, S => LS L l (i + 1) (cond (L i) (apS S f.ws) S)
def LH (L : Nat → Bool) : List Eff → Nat → Hp → Hp
  | [], _, H => H
  | f :: l, i, H => LH L l (i + 1) (cond (L i) (apH H f.hs) H)
theorem LS_congr {t : Nat} {L L' : Nat → Bool} : ∀ {l : List Eff} {i : Nat} {S S' : Slots}, S t = S' t → (∀ k f, l[k]? = some f → t ∈ f.ws.map (·.1) → L (i + k) = L' (i + k)) → LS L l i S t = LS L' l i S' t
  | [], _, _, _, h, _ => h
  | f :: l, i, S, S', h, hL => by
    refine LS_congr (l := l) ?_ fun k f' hk ht => by have := hL (k + 1) f' (by simpa using hk) ht; rwa [← Nat.add_assoc, Nat.add_right_comm] at this
    by_cases h1 : t ∈ f.ws.map (·.1)
    · have := hL 0 f (by simp) h1
      simp only [Nat.add_zero] at this
      rw [this]
      cases L' i with
      | true => exact apS_congr h
      | false => exact h
    · have e1 : (cond (L i) (apS S f.ws) S) t = S t := by cases L i <;> simp [apS_other h1]
      have e2 : (cond (L' i) (apS S' f.ws) S') t = S' t := by cases L' i <;> simp [apS_other h1]
      rw [e1, e2, h]
theorem LH_congr {t : Nat} {L L' : Nat → Bool} : ∀ {l : List Eff} {i : Nat} {S S' : Hp}, S t = S' t → (∀ k f, l[k]? = some f → t ∈ f.hs.map (·.1) → L (i + k) = L' (i + k)) → LH L l i S t = LH L' l i S' t
  | [], _, _, _, h, _ => h
  | f :: l, i, S, S', h, hL => by
    refine LH_congr (l := l) ?_ fun k f' hk ht => by have := hL (k + 1) f' (by simpa using hk) ht; rwa [← Nat.add_assoc, Nat.add_right_comm] at this
    by_cases h1 : t ∈ f.hs.map (·.1)
    · have := hL 0 f (by simp) h1
      simp only [Nat.add_zero] at this
      rw [this]
      cases L' i with
      | true => exact apH_congr h
      | false => exact h
    · have e1 : (cond (L i) (apH S f.hs) S) t = S t := by cases L i <;> simp [apH_other h1]
      have e2 : (cond (L' i) (apH S' f.hs) S') t = S' t := by cases L' i <;> simp [apH_other h1]
      rw [e1, e2, h]
theorem LS_none {t : Nat} {L : Nat → Bool} : ∀ {l : List Eff} {i : Nat} {S : Slots}, (∀ k f, l[k]? = some f → t ∈ f.ws.map (·.1) → L (i + k) = false) → LS L l i S t = S t
  | [], _, _, _ => rfl
  | f :: l, i, S, h => by
    rw [LS, LS_none (l := l) fun k f' hk ht => by have := h (k + 1) f' (by simpa using hk) ht; rwa [← Nat.add_assoc, Nat.add_right_comm] at this]
    by_cases h1 : t ∈ f.ws.map (·.1)
    · have := h 0 f (by simp) h1
      simp only [Nat.add_zero] at this
      rw [this]; rfl
    · cases L i <;> simp [apS_other h1]
theorem LH_none {t : Nat} {L : Nat → Bool} : ∀ {l : List Eff} {i : Nat} {S : Hp}, (∀ k f, l[k]? = some f → t ∈ f.hs.map (·.1) → L (i + k) = false) → LH L l i S t = S t
  | [], _, _, _ => rfl
  | f :: l, i, S, h => by
    rw [LH, LH_none (l := l) fun k f' hk ht => by have := h (k + 1) f' (by simpa using hk) ht; rwa [← Nat.add_assoc, Nat.add_right_comm] at this]
    by_cases h1 : t ∈ f.hs.map (·.1)
    · have := h 0 f (by simp) h1
      simp only [Nat.add_zero] at this
      rw [this]; rfl
    · cases L i <;> simp [apH_other h1]
def addL (L : Nat → Bool) (i : Nat) : Nat → Bool := fun k => Nat.beq k i || L k
theorem addL_same (L : Nat → Bool) (i : Nat) : addL L i i = true := by simp [addL]
theorem addL_other (L : Nat → Bool) {i k : Nat} (h : k ≠ i) : addL L i k = L k := by simp [addL, beq_no h]
theorem LS_add {L : Nat → Bool} {f : Eff} {j : Nat} : ∀ {l : List Eff} {i : Nat} {S : Slots}, l[j]? = some f → L (i + j) = false →
    (∀ k f', l[k]? = some f' → j < k → L (i + k) = true → ∀ t, t ∈ f.ws.map (·.1) → t ∉ f'.ws.map (·.1)) → LS (addL L (i + j)) l i S = apS (LS L l i S) f.ws := by
  intro l i S hj hL hk
  funext t
  by_cases ht : t ∈ f.ws.map (·.1)
  · induction l generalizing i S j with
    | nil => simp at hj
    | cons f0 l ih =>
      cases j with
      | zero =>
        simp only [List.getElem?_cons_zero, Option.some.injEq] at hj
        subst hj
        simp only [Nat.add_zero] at hL ⊢
        simp only [LS, addL_same, hL, cond_true, cond_false]
        rw [LS_none (l := l) fun k f' hk' ht' => ?_]
        · exact apS_in ht
        · rw [addL_other _ (by omega)]
          cases e : L (i + 1 + k) with
          | false => rfl
          | true => exact absurd ht' (hk (k + 1) f' (by simpa using hk') (by omega) (by rw [← e]; congr 1; omega) t ht)
      | succ j =>
        simp only [LS]
        have e1 : i + (j + 1) = i + 1 + j := by omega
        rw [e1] at hL ⊢
        rw [addL_other (k := i) _ (by omega)]
        exact ih (by simpa using hj) hL (fun k f' h1 h2 h3 => hk (k + 1) f' (by simpa using h1) (by omega) (by rw [← h3]; congr 1; omega))
  · rw [apS_other ht]
    refine LS_congr rfl fun k f' hk' ht' => addL_other _ fun e => ht ?_
    have : k = j := by omega
    subst this
    rw [hj] at hk'; cases hk'
    exact ht'
theorem LH_add {L : Nat → Bool} {f : Eff} {j : Nat} : ∀ {l : List Eff} {i : Nat} {S : Hp}, l[j]? = some f → L (i + j) = false →
    (∀ k f', l[k]? = some f' → j < k → L (i + k) = true → ∀ t, t ∈ f.hs.map (·.1) → t ∉ f'.hs.map (·.1)) → LH (addL L (i + j)) l i S = apH (LH L l i S) f.hs := by
  intro l i S hj hL hk
  funext t
  by_cases ht : t ∈ f.hs.map (·.1)
  · induction l generalizing i S j with
    | nil => simp at hj
    | cons f0 l ih =>
      cases j with
      | zero =>
        simp only [List.getElem?_cons_zero, Option.some.injEq] at hj
        subst hj
        simp only [Nat.add_zero] at hL ⊢
        simp only [LH, addL_same, hL, cond_true, cond_false]
        rw [LH_none (l := l) fun k f' hk' ht' => ?_]
        · exact apH_in ht
        · rw [addL_other _ (by omega)]
          cases e : L (i + 1 + k) with
          | false => rfl
          | true => exact absurd ht' (hk (k + 1) f' (by simpa using hk') (by omega) (by rw [← e]; congr 1; omega) t ht)
      | succ j =>
        simp only [LH]
        have e1 : i + (j + 1) = i + 1 + j := by omega
        rw [e1] at hL ⊢
        rw [addL_other (k := i) _ (by omega)]
        exact ih (by simpa using hj) hL (fun k f' h1 h2 h3 => hk (k + 1) f' (by simpa using h1) (by omega) (by rw [← h3]; congr 1; omega))
  · rw [apH_other ht]
    refine LH_congr rfl fun k f' hk' ht' => addL_other _ fun e => ht ?_
    have : k = j := by omega
    subst this
    rw [hj] at hk'; cases hk'
    exact ht'
def preds (o : Oper) : List Nat := (o.after.toList.filter (Region.binds .any)).map (·.on)
def maskOf (acc : List Nat) (o : Oper) : Nat := (preds o).foldl (fun s j => s ||| 2 ^ j ||| acc.getD j 0) 0
def masks : List Oper → List Nat → List Nat
  | [], acc => acc
  | o :: l, acc => masks l (acc ++ [maskOf acc o])
def edgesOk : List Oper → Nat → Bool
  | [], _ => true
  | o :: l, i => (preds o).all (fun j => Nat.blt j i) && edgesOk l (i + 1)
def Shut (ops : List Oper) (L : Nat → Bool) : Prop := ∀ k o, ops[k]? = some o → L k = true → ∀ p ∈ preds o, L p = true
theorem mask_fold {acc : List Nat} {j : Nat} : ∀ {l : List Nat} {s : Nat}, (l.foldl (fun s j => s ||| 2 ^ j ||| acc.getD j 0) s).testBit j = true → s.testBit j = true ∨ ∃ p ∈ l, p = j ∨ (acc.getD p 0).testBit j = true
  | [], s, h => .inl h
  | p :: l, s, h => by
    rcases mask_fold (l := l) h with h1 | ⟨q, hq, h1⟩
    · rw [Nat.testBit_or, Nat.testBit_or] at h1
      simp only [Bool.or_eq_true, Nat.testBit_two_pow, decide_eq_true_eq] at h1
      rcases h1 with (h1 | h1) | h1
      · exact .inl h1
      · exact .inr ⟨p, by simp, .inl h1⟩
      · exact .inr ⟨p, by simp, .inr h1⟩
    · exact .inr ⟨q, by simp [hq], h1⟩
theorem masks_ok (ops : List Oper) : ∀ (l : List Oper) (acc : List Nat), ops.drop acc.length = l →
    (∀ i, i < acc.length → ∀ j, (acc.getD i 0).testBit j = true → ∀ L o, ops[i]? = some o → Shut ops L → (∀ p ∈ preds o, L p = true) → L j = true) → edgesOk l acc.length = true →
    ∀ i j, ((masks l acc).getD i 0).testBit j = true → ∀ L o, ops[i]? = some o → Shut ops L → (∀ p ∈ preds o, L p = true) → L j = true
  | [], acc, hl, h, _, i, j, hb, L, o, ho, hs, hp => by
    by_cases hi : i < acc.length
    · exact h i hi j hb L o ho hs hp
    · simp [masks, List.getD_eq_getElem?_getD, List.getElem?_eq_none (show acc.length ≤ i by omega)] at hb
  | o :: l, acc, hl, h, he, i, j, hb, L, o', ho, hs, hp => by
    simp only [edgesOk, Bool.and_eq_true] at he
    have ho0 : ops[acc.length]? = some o := by
      have := congrArg List.head? hl
      simpa [List.head?_drop] using this
    refine masks_ok ops l (acc ++ [maskOf acc o]) (by
      have := congrArg List.tail hl
      simpa using this) (fun i hi j hb L o' ho hs hp => ?_) (by simpa using he.2) i j hb L o' ho hs hp
    simp only [List.length_append, List.length_cons, List.length_nil] at hi
    by_cases h1 : i < acc.length
    · refine h i h1 j ?_ L o' ho hs hp
      rwa [List.getD_eq_getElem?_getD, List.getElem?_append_left h1, ← List.getD_eq_getElem?_getD] at hb
    · have hi' : i = acc.length := by omega
      subst hi'
      rw [ho0] at ho; cases ho
      rw [List.getD_eq_getElem?_getD, List.getElem?_append_right (Nat.le_refl _)] at hb
      simp only [Nat.sub_self, List.getElem?_cons_zero, Option.getD_some] at hb
      rcases mask_fold hb with h2 | ⟨p, hp1, h2⟩
      · simp at h2
      · rcases h2 with rfl | h2
        · exact hp _ hp1
        · have hlt : p < acc.length := by
            have := List.all_eq_true.1 he.1 p hp1
            simpa [Nat.blt_eq] using this
          have hpo : ∃ o2, ops[p]? = some o2 := by
            have : acc.length < ops.length := (List.getElem?_eq_some_iff.1 ho0).1
            exact ⟨ops[p]'(by omega), by simp [show p < ops.length by omega]⟩
          obtain ⟨o2, ho2⟩ := hpo
          exact h p hlt j h2 L o2 ho2 hs (hs p o2 ho2 (hp p hp1))
def FireOk (X : Ctx) (r : Option Nat) (ops : Array Oper) (o : Oper) (rs hrs : List Nat) (S0 : Slots) (H0 : Hp) (f : Eff) (nm : Nat) : Prop :=
  (∀ d, o.dst = some d → d < X.nt) → ∀ S' H' c' φ Z a w, Rel X φ Z ⟨S', H', c'⟩ a w → (∀ t, t ∈ rs → S' t = S0 t) → (∀ id, id ∈ hrs → H' id = H0 id) → φ nm = none → nm < c' → ∀ next Q,
    (∀ φ' Z' a' w', (∀ k, k ≠ nm → φ' k = φ k) → Rel X φ' Z' ⟨apS S' f.ws, apH H' f.hs, c'⟩ a' w' → next a' w') → StepW X.P r ops o a w next Q
theorem Rel.drew {X : Ctx} {φ : Names} {Z : Still} {s : St} {a : Act} {w : World} (h : Rel X φ Z s a w) (n : Nat) : Rel X φ Z s a { w with drawn := n } := by
  have up := fun {x : A} {v : Value} (hx : VR φ Z w x v) => VR.mono (φ := φ) (φ' := φ) (Z := Z) (Z' := Z) (w := w) (w' := { w with drawn := n }) (fun _ _ h => h) (fun _ _ h => h) (fun b o _ => rfl) hx
  exact {
    size := h.size
    slots := fun t => up (h.slots t)
    boxes := fun id bx hb => by
      obtain ⟨b, h1, h2⟩ := h.boxes id bx hb
      exact ⟨b, h1, BR.mono (φ := φ) (φ' := φ) (Z := Z) (Z' := Z) (w := w) (w' := { w with drawn := n }) (fun _ _ h => h) (fun _ _ h => h) (fun b o _ => rfl) rfl h2⟩
    inj := h.inj
    zok := h.zok
    zbox := h.zbox
    own1 := h.own1
    own2 := h.own2
    mut1 := h.mut1
    mut2 := h.mut2
    grow := h.grow
    frame := h.frame
    os := h.os
    tape := h.tape
    output := h.output
    z0 := h.z0
    zback := h.zback
    names := h.names
    fresh := h.fresh
    defs := h.defs
    dnd := h.dnd }
theorem blt_lt' {a b : Nat} (h : Nat.blt a b = true) : a < b := by simpa [Nat.blt_eq] using h
theorem blt_of {a b : Nat} (h : a < b) : Nat.blt a b = true := by simpa [Nat.blt_eq] using h
theorem blt_no {a b : Nat} (h : ¬ a < b) : Nat.blt a b = false := by
  cases e : Nat.blt a b with
  | false => rfl
  | true => exact absurd (blt_lt' e) h
def cnt : Nat → (Nat → Bool) → Nat
  | 0, _ => 0
  | n + 1, L => cnt n L + cond (L n) 0 1
theorem cnt_congr {L L' : Nat → Bool} : ∀ {n : Nat}, (∀ j, j < n → L j = L' j) → cnt n L = cnt n L'
  | 0, _ => rfl
  | n + 1, h => by rw [cnt, cnt, cnt_congr (n := n) fun j hj => h j (by omega), h n (by omega)]
theorem cnt_zero {L : Nat → Bool} : ∀ {n : Nat}, cnt n L = 0 → ∀ j, j < n → L j = true
  | n + 1, h, j, hj => by
    rw [cnt] at h
    by_cases e : j = n
    · subst e; cases h1 : L j with
      | true => rfl
      | false => rw [h1] at h; simp at h
    · exact cnt_zero (n := n) (by omega) j (by omega)
theorem cnt_add {L : Nat → Bool} {i : Nat} (hi : L i = false) : ∀ {n : Nat}, i < n → cnt n L = cnt n (addL L i) + 1
  | n + 1, h => by
    rw [cnt, cnt]
    by_cases e : i = n
    · subst e
      rw [hi, addL_same, cnt_congr (L := L) (L' := addL L i) fun j hj => (addL_other _ (by omega)).symm]
      rfl
    · rw [cnt_add hi (n := n) (by omega), addL_other (k := n) _ (fun e2 => e e2.symm)]; omega
section
variable {ops : Array Oper} {listed : Array Bool}
abbrev isL (listed : Array Bool) : Nat → Bool := fun j => listed.getD j false
theorem mem_preds {o : Oper} {p : Nat} : p ∈ preds o ↔ ∃ e ∈ o.after, Region.binds .any e = true ∧ e.on = p := by
  simp only [preds, List.mem_map, List.mem_filter, Array.mem_toList_iff]
  constructor
  · rintro ⟨e, ⟨h1, h2⟩, h3⟩; exact ⟨e, h1, h2, h3⟩
  · rintro ⟨e, h1, h2, h3⟩; exact ⟨e, ⟨h1, h2⟩, h3⟩
theorem ready_iff (hsz : listed.size = ops.size) {i : Nat} : i ∈ Region.ready .any ops listed ↔ isL listed i = false ∧ ∃ o, ops[i]? = some o ∧ ∀ p ∈ preds o, isL listed p = true := by
  rw [mem_ready]
  constructor
  · rintro ⟨h1, o, h2, h3⟩
    have hlt : i < listed.size := by rw [hsz]; exact (Array.getElem?_eq_some_iff.1 h2).1
    refine ⟨by simpa [isL, Array.getD, hlt] using h1, o, h2, fun p hp => ?_⟩
    obtain ⟨e, he, hb, rfl⟩ := mem_preds.1 hp
    exact h3 e he hb
  · rintro ⟨h1, o, h2, h3⟩
    have hlt : i < listed.size := by rw [hsz]; exact (Array.getElem?_eq_some_iff.1 h2).1
    exact ⟨by simpa [isL, Array.getD, hlt] using h1, o, h2, fun e he hb => h3 _ (mem_preds.2 ⟨e, he, hb, rfl⟩)⟩
theorem isL_set {i : Nat} (h : i < listed.size) : isL (listed.setIfInBounds i true) = addL (isL listed) i := by
  funext j
  by_cases e : j = i
  · subst e; simp [isL, addL, Array.getD, h]
  · rw [addL_other _ e]; simp [isL, Array.getD_eq_getD_getElem?, Array.getElem?_setIfInBounds, Ne.symm e]
theorem edges_at {o : Oper} : ∀ {l : List Oper} {i k : Nat}, edgesOk l i = true → l[k]? = some o → ∀ p ∈ preds o, p < i + k
  | [], _, _, _, h => by simp at h
  | o' :: l, i, 0, he, h => by
    simp only [List.getElem?_cons_zero, Option.some.injEq] at h
    subst h
    simp only [edgesOk, Bool.and_eq_true] at he
    intro p hp
    have := List.all_eq_true.1 he.1 p hp
    simpa [Nat.blt_eq] using this
  | o' :: l, i, k + 1, he, h => by
    simp only [edgesOk, Bool.and_eq_true] at he
    intro p hp
    have := edges_at (l := l) he.2 (by simpa using h) p hp
    omega
theorem all_listed (hsz : listed.size = ops.size) (he : edgesOk ops.toList 0 = true) (h : Region.ready .any ops listed = []) : ∀ j, j < ops.size → isL listed j = true := by
  intro j
  induction j using Nat.strongRecOn with
  | _ j ih =>
    intro hj
    cases e : isL listed j with
    | true => rfl
    | false =>
      have : j ∈ Region.ready .any ops listed := (ready_iff hsz).2 ⟨e, ops[j], by simp [hj], fun p hp => by
        have := edges_at he (k := j) (o := ops[j]) (by simp [hj]) p hp
        exact ih p (by omega) (by omega)⟩
      rw [h] at this; cases this
end
section
variable {X : Ctx} {r : Option Nat} {Q : Exit → St → Prop} {ops : Array Oper}
abbrev QC (X : Ctx) (Q : Exit → St → Prop) : Exit → Act → World → Prop := fun e a' w' => ∃ s' φ' Z', Q e s' ∧ Rel X φ' Z' s' a' w'
theorem draw_mask (he : edgesOk ops.toList 0 = true) {i j : Nat} {o : Oper} {L : Nat → Bool} (hb : ((masks ops.toList []).getD i 0).testBit j = true) (ho : ops[i]? = some o) (hs : Shut ops.toList L) (hp : ∀ p ∈ preds o, L p = true) : L j = true :=
  masks_ok ops.toList ops.toList [] (by simp) (fun i hi => by simp at hi) he i j hb L o (by simpa using ho) hs hp
theorem wpOp_of_step {o : Oper} {i : Nat} {a : Act} {w : World} {next : Act → World → Prop} {Qc : Exit → Act → World → Prop} (ho : ops[i]? = some o) (h : StepW X.P r ops o a w next Qc) : wpOpIn (fenceR r) 0 X.P ops Qc i next a w := by
  unfold wpOpIn
  simp only [ho]
  unfold StepW at h
  split at h
  · rename_i hw; rw [if_pos hw]; exact h
  · rename_i hw; rw [if_neg hw]; exact ⟨fun _ _ => trivial, h⟩
theorem dst_ok (hd : dstsOk X.nt ops = true) {i : Nat} {o : Oper} (ho : ops[i]? = some o) : ∀ d, o.dst = some d → d < X.nt := fun d hd' => by
  have := List.all_eq_true.1 hd o (List.mem_of_getElem? (by simpa using ho))
  rw [hd'] at this
  simpa [Nat.blt_eq] using this
theorem draw_tail (hd : dstsOk X.nt ops = true) (he : edgesOk ops.toList 0 = true) {m : Nat} (tail : ∀ i k, m ≤ i → i < ops.size → k < i → ((masks ops.toList []).getD i 0).testBit k = true) :
    ∀ (n : Nat) (listed : Array Bool) (k : Nat) {s : St} {φ : Names} {Z : Still} {a : Act} {w : World}, listed.size = ops.size → cnt ops.size (isL listed) = n → m ≤ k → (∀ j, j < ops.size → isL listed j = Nat.blt j k) →
      RegL X r ops (ops.toList.drop k) s (Q .normal) → Rel X φ Z s a w → wpAnyIn (fenceR r) 0 X.P .any ops (QC X Q) n listed a w := by
  intro n
  induction n with
  | zero =>
    intro listed k s φ Z a w hsz hn hk hL hreg hr
    have hall := cnt_zero hn
    refine ⟨?_, ?_⟩
    · cases hre : Region.ready .any ops listed with
      | nil => rfl
      | cons i l =>
        have hi : i ∈ Region.ready .any ops listed := by rw [hre]; simp
        obtain ⟨h1, o, ho, _⟩ := (ready_iff hsz).1 hi
        rw [hall i (Array.getElem?_eq_some_iff.1 ho).1] at h1; cases h1
    · have : ops.size ≤ k := Nat.le_of_not_lt fun hlt => by
        have h1 := hall k hlt
        rw [hL k hlt] at h1
        have := blt_lt' h1
        omega
      rw [List.drop_eq_nil_of_le (by simpa using this)] at hreg
      exact ⟨s, φ, Z, hreg, hr⟩
  | succ n ih =>
    intro listed k s φ Z a w hsz hn hk hL hreg hr
    have shut : Shut ops.toList (isL listed) := fun k' o ho hk' p hp => by
      have hlt := edges_at he ho p hp
      have hk2 : k' < ops.size := by simpa using (List.getElem?_eq_some_iff.1 ho).1
      rw [hL k' hk2] at hk'
      rw [hL p (by omega)]
      have := blt_lt' hk'
      exact blt_of (by omega)
    refine ⟨fun hre => ?_, fun i hi => ?_⟩
    · have hall := all_listed hsz he hre
      have h0 : cnt ops.size (isL listed) = 0 := by
        rw [cnt_congr (L' := fun _ => true) fun j hj => hall j hj]
        generalize ops.size = N
        induction N with
        | zero => rfl
        | succ N ih => rw [cnt, ih]; rfl
      omega
    · obtain ⟨h1, o, ho, hp⟩ := (ready_iff hsz).1 hi
      have hlt := (Array.getElem?_eq_some_iff.1 ho).1
      have hik : i = k := by
        rw [hL i hlt] at h1
        have h2 : k ≤ i := Nat.le_of_not_lt fun h => by rw [blt_of h] at h1; cases h1
        rcases Nat.lt_or_eq_of_le h2 with h3 | h3
        · have h4 := draw_mask he (tail i k (by omega) hlt h3) ho shut hp
          rw [hL k (by omega)] at h4
          have := blt_lt' h4; omega
        · exact h3.symm
      subst hik
      have hdrop : ops.toList.drop i = o :: ops.toList.drop (i + 1) := by
        rw [List.drop_eq_getElem_cons (by simpa using hlt)]
        congr 1
        simpa using (Array.getElem?_eq_some_iff.1 ho).2
      rw [hdrop] at hreg
      refine wpOp_of_step ho (hreg (dst_ok hd ho) φ Z a w hr _ _ fun s' φ' Z' a' w' hs' hr' => ?_)
      refine ih (listed.setIfInBounds i true) (i + 1) (by simpa using hsz) ?_ (by omega) (fun j hj => ?_) hs' hr'
      · rw [isL_set (by omega)]
        have := cnt_add h1 hlt
        omega
      · rw [isL_set (by omega)]
        by_cases e : j = i
        · subst e; rw [addL_same, blt_of (by omega)]
        · rw [addL_other _ e, hL j hj]
          by_cases e2 : j < i
          · rw [blt_of e2, blt_of (by omega)]
          · rw [blt_no (by omega), blt_no (by omega)]
theorem Aw.draw (hm : X.P.follows .mixedOrders = true) {id : Nat} {s : St} (effs : List Eff) (rds hrds : List (List Nat)) (hd : dstsOk X.nt ops = true) (he : edgesOk ops.toList 0 = true) (hlen : effs.length ≤ ops.size)
    (cf : ∀ i j fi fj, i < j → effs[i]? = some fi → effs[j]? = some fj → ((masks ops.toList []).getD j 0).testBit i = false →
      ((∀ t, t ∈ fi.ws.map (·.1) → t ∉ rds.getD j [] ∧ t ∉ fj.ws.map (·.1)) ∧ ∀ t, t ∈ rds.getD i [] → t ∉ fj.ws.map (·.1)) ∧
      ((∀ t, t ∈ fi.hs.map (·.1) → t ∉ hrds.getD j [] ∧ t ∉ fj.hs.map (·.1)) ∧ ∀ t, t ∈ hrds.getD i [] → t ∉ fj.hs.map (·.1)))
    (tail : ∀ i k, effs.length ≤ i → i < ops.size → k < i → ((masks ops.toList []).getD i 0).testBit k = true)
    (fire : ∀ i o f, ops[i]? = some o → effs[i]? = some f → FireOk X r ops o (rds.getD i []) (hrds.getD i []) (LS (fun k => Nat.blt k i) effs 0 s.S) (LH (fun k => Nat.blt k i) effs 0 s.H) f (s.c + i))
    (k : RegL X r ops (ops.toList.drop effs.length) ⟨LS (fun k => Nat.blt k effs.length) effs 0 s.S, LH (fun k => Nat.blt k effs.length) effs 0 s.H, s.c + effs.length⟩ (Q .normal)) :
    Aw X r (.region id ops true) Q s := by
  intro φ Z a w hr
  refine wpIn_region_any hm ?_
  have key : ∀ (n : Nat) (listed : Array Bool) {φ : Names} {Z : Still} {a : Act} {w : World}, listed.size = ops.size → cnt ops.size (isL listed) = n → Shut ops.toList (isL listed) →
      (∀ j, isL listed j = true → j < effs.length) → Rel X φ Z ⟨LS (isL listed) effs 0 s.S, LH (isL listed) effs 0 s.H, s.c + effs.length⟩ a w → (∀ i, i < effs.length → isL listed i = false → φ (s.c + i) = none) →
      wpAnyIn (fenceR r) 0 X.P .any ops (QC X Q) n listed a w := by
    intro n
    induction n with
    | zero =>
      intro listed φ Z a w hsz hn shut hlt hr hφ
      have hall := cnt_zero hn
      have hL : ∀ j, j < ops.size → isL listed j = Nat.blt j effs.length := fun j hj => by rw [hall j hj, blt_of (hlt j (hall j hj))]
      refine draw_tail hd he tail 0 listed effs.length hsz hn (Nat.le_refl _) hL ?_ hr
      have e1 : LS (isL listed) effs 0 s.S = LS (fun k => Nat.blt k effs.length) effs 0 s.S := by
        funext t; refine LS_congr rfl fun k f hk _ => ?_
        rw [Nat.zero_add]; exact hL k (Nat.lt_of_lt_of_le (List.getElem?_eq_some_iff.1 hk).1 hlen)
      have e2 : LH (isL listed) effs 0 s.H = LH (fun k => Nat.blt k effs.length) effs 0 s.H := by
        funext t; refine LH_congr rfl fun k f hk _ => ?_
        rw [Nat.zero_add]; exact hL k (Nat.lt_of_lt_of_le (List.getElem?_eq_some_iff.1 hk).1 hlen)
      rw [e1, e2]; exact k
    | succ n ih =>
      intro listed φ Z a w hsz hn shut hlt hr hφ
      by_cases hall : ∀ i, i < effs.length → isL listed i = true
      · have hL : ∀ j, j < ops.size → isL listed j = Nat.blt j effs.length := fun j hj => by
          by_cases h1 : j < effs.length
          · rw [hall j h1, blt_of h1]
          · rw [blt_no h1]; cases e : isL listed j with
            | false => rfl
            | true => exact absurd (hlt j e) h1
        refine draw_tail hd he tail (n + 1) listed effs.length hsz hn (Nat.le_refl _) hL ?_ hr
        have e1 : LS (isL listed) effs 0 s.S = LS (fun k => Nat.blt k effs.length) effs 0 s.S := by
          funext t; refine LS_congr rfl fun k f hk _ => ?_
          rw [Nat.zero_add]; exact hL k (Nat.lt_of_lt_of_le (List.getElem?_eq_some_iff.1 hk).1 hlen)
        have e2 : LH (isL listed) effs 0 s.H = LH (fun k => Nat.blt k effs.length) effs 0 s.H := by
          funext t; refine LH_congr rfl fun k f hk _ => ?_
          rw [Nat.zero_add]; exact hL k (Nat.lt_of_lt_of_le (List.getElem?_eq_some_iff.1 hk).1 hlen)
        rw [e1, e2]; exact k
      · obtain ⟨i0, h0⟩ := Classical.not_forall.1 hall
        obtain ⟨h01, h02⟩ := Classical.not_imp.1 h0
        have h02 : isL listed i0 = false := by simpa using h02
        refine ⟨fun hre => ?_, fun i hi => ?_⟩
        · rw [all_listed hsz he hre i0 (by omega)] at h02; cases h02
        · obtain ⟨h1, o, ho, hp⟩ := (ready_iff hsz).1 hi
          have hlt' := (Array.getElem?_eq_some_iff.1 ho).1
          by_cases him : i < effs.length
          · obtain ⟨f, hf⟩ : ∃ f, effs[i]? = some f := ⟨effs[i], by simp [him]⟩
            have before : ∀ k fk, effs[k]? = some fk → k < i → ((masks ops.toList []).getD i 0).testBit k = true → isL listed k = true := fun k fk _ _ hb => draw_mask he hb ho shut hp
            have behind : ∀ k fk, effs[k]? = some fk → i < k → ((masks ops.toList []).getD k 0).testBit i = true → isL listed k = false := fun k fk hk hlt2 hb => by
              cases e : isL listed k with
              | false => rfl
              | true =>
                have hk2 : k < ops.size := Nat.lt_of_lt_of_le (List.getElem?_eq_some_iff.1 hk).1 hlen
                have := draw_mask he (o := ops[k]) hb (by simp [hk2]) shut (shut k ops[k] (by simp [hk2]) e)
                rw [h1] at this; cases this
            have same : ∀ k fk, effs[k]? = some fk → (k < i → ((masks ops.toList []).getD i 0).testBit k = true) → (i < k → ((masks ops.toList []).getD k 0).testBit i = true) → isL listed (0 + k) = Nat.blt k i := fun k fk hk hb1 hb2 => by
              rw [Nat.zero_add]
              rcases Nat.lt_trichotomy k i with h2 | h2 | h2
              · rw [before k fk hk h2 (hb1 h2), blt_of h2]
              · subst h2; rw [h1, blt_no (Nat.lt_irrefl _)]
              · rw [behind k fk hk h2 (hb2 h2), blt_no (by omega)]
            have rS : ∀ t, t ∈ rds.getD i [] → LS (isL listed) effs 0 s.S t = LS (fun k => Nat.blt k i) effs 0 s.S t := fun t ht => by
              refine LS_congr rfl fun k fk hk htk => ?_
              rw [Nat.zero_add]
              have := same k fk hk (fun h2 => by
                cases e : ((masks ops.toList []).getD i 0).testBit k with
                | true => rfl
                | false => exact absurd ht ((cf k i fk f h2 hk hf e).1.1 t htk).1) (fun h2 => by
                cases e : ((masks ops.toList []).getD k 0).testBit i with
                | true => rfl
                | false => exact absurd htk ((cf i k f fk h2 hf hk e).1.2 t ht))
              rwa [Nat.zero_add] at this
            have rH : ∀ t, t ∈ hrds.getD i [] → LH (isL listed) effs 0 s.H t = LH (fun k => Nat.blt k i) effs 0 s.H t := fun t ht => by
              refine LH_congr rfl fun k fk hk htk => ?_
              rw [Nat.zero_add]
              have := same k fk hk (fun h2 => by
                cases e : ((masks ops.toList []).getD i 0).testBit k with
                | true => rfl
                | false => exact absurd ht ((cf k i fk f h2 hk hf e).2.1 t htk).1) (fun h2 => by
                cases e : ((masks ops.toList []).getD k 0).testBit i with
                | true => rfl
                | false => exact absurd htk ((cf i k f fk h2 hf hk e).2.2 t ht))
              rwa [Nat.zero_add] at this
            have aS := LS_add (L := isL listed) (S := s.S) (i := 0) hf (by rw [Nat.zero_add]; exact h1) fun k fk hk h2 h3 t ht htk => by
              rw [Nat.zero_add] at h3
              cases e : ((masks ops.toList []).getD k 0).testBit i with
              | true => rw [behind k fk hk h2 e] at h3; cases h3
              | false => exact ((cf i k f fk h2 hf hk e).1.1 t ht).2 htk
            have aH := LH_add (L := isL listed) (S := s.H) (i := 0) hf (by rw [Nat.zero_add]; exact h1) fun k fk hk h2 h3 t ht htk => by
              rw [Nat.zero_add] at h3
              cases e : ((masks ops.toList []).getD k 0).testBit i with
              | true => rw [behind k fk hk h2 e] at h3; cases h3
              | false => exact ((cf i k f fk h2 hf hk e).2.1 t ht).2 htk
            rw [Nat.zero_add] at aS aH
            have hset := isL_set (listed := listed) (i := i) (by omega)
            refine wpOp_of_step ho (fire i o f ho hf (dst_ok hd ho) _ _ _ φ Z a w hr rS rH (hφ i him h1) (by omega) _ _ fun φ' Z' a' w' hφ' hr' => ?_)
            refine ih (listed.setIfInBounds i true) (φ := φ') (Z := Z') (a := a') (w := w') (by simpa using hsz) ?_ ?_ ?_ ?_ ?_
            · rw [hset]; have := cnt_add h1 hlt'; omega
            · rw [hset]
              intro k' o' ho' hk' p hp'
              by_cases e : k' = i
              · subst e
                have : o' = o := by rw [Array.getElem?_toList, ho] at ho'; cases ho'; rfl
                subst this
                simp [addL, hp p hp']
              · rw [addL_other _ e] at hk'
                simp [addL, shut k' o' ho' hk' p hp']
            · rw [hset]
              intro j hj
              by_cases e : j = i
              · subst e; exact him
              · rw [addL_other _ e] at hj; exact hlt j hj
            · rw [hset, aS, aH]; exact hr'
            · rw [hset]
              intro j hj hj2
              have e : j ≠ i := fun e => by subst e; rw [addL_same] at hj2; cases hj2
              rw [addL_other _ e] at hj2
              rw [hφ' _ (by omega)]; exact hφ j hj hj2
          · exfalso
            have := draw_mask he (tail i i0 (by omega) hlt' (by omega)) ho shut hp
            rw [h02] at this; cases this
  have e0 : isL (Array.replicate ops.size false) = fun _ => false := by
    funext j
    simp only [isL, Array.getD_eq_getD_getElem?, Array.getElem?_replicate]
    split <;> rfl
  have n0 : cnt ops.size (fun _ => false) = ops.size := by
    generalize ops.size = N
    induction N with
    | zero => rfl
    | succ N ih => rw [cnt, ih]; rfl
  refine key ops.size (Array.replicate ops.size false) (φ := φ) (Z := Z) (a := a) (w := { w with drawn := w.drawn + 1 }) (by simp) (by rw [e0]; exact n0) (fun k o _ hk => by rw [e0] at hk; cases hk) (fun j hj => by rw [e0] at hj; cases hj) ?_ (fun i hi _ => hr.fresh _ (by omega))
  have l1 : LS (isL (Array.replicate ops.size false)) effs 0 s.S = s.S := by funext t; exact LS_none fun k f _ _ => by rw [e0]
  have l2 : LH (isL (Array.replicate ops.size false)) effs 0 s.H = s.H := by funext t; exact LH_none fun k f _ _ => by rw [e0]
  rw [l1, l2]
  exact (hr.drew _).weaken (S' := s.S) (H' := s.H) (c' := s.c + effs.length) (fun _ => .refl _) (fun id bx hb => ⟨bx, hb, .refl _⟩) (by omega)
end
end Go.AL

namespace Go.AL
open Go Go.RowKit
section
variable {X : Ctx} {P : Program} {φ φ' : Names} {Z Z' : Still} {s : St} {a : Act} {w w' : World} {H H' : Hp} {c c' : Nat}
theorem HRel.enter (hH : HRel P φ Z H c w) {S : Slots} {nt : Nat} {tmps : Array Value} (hs : tmps.size = nt) (hv : ∀ t, VR φ Z w (S t) (tmps.getD t undef)) (hd : ∀ t u, spareOf (S t) u = none) :
    Rel (En.cx ⟨w, Mine φ H w, Z, φ⟩ P nt) φ Z ⟨S, H, c⟩ { tmps := tmps, defers := [] } w := {
  size := hs
  slots := hv
  boxes := hH.boxes
  inj := hH.inj
  zok := hH.zok
  zbox := hH.zbox
  own1 := fun l b e hl => by
    cases l with
    | slot t => simp only [absAt] at hl; rw [hd] at hl; cases hl
    | box id j => exact hH.own1 id j b e hl
  own2 := fun l l' b e e' hl hl' => by
    cases l with
    | slot t => simp only [absAt] at hl; rw [hd] at hl; cases hl
    | box id j => cases l' with
      | slot t => simp only [absAt] at hl'; rw [hd] at hl'; cases hl'
      | box id' j' => exact hH.own2 id j id' j' b e e' hl hl'
  mut1 := fun id b hi hb => .inl (.inl ⟨id, hi, hb⟩)
  mut2 := fun l b e hl => by
    cases l with
    | slot t => simp only [absAt] at hl; rw [hd] at hl; cases hl
    | box id j => exact .inl (.inr ⟨id, j, e, hl⟩)
  grow := Nat.le_refl _
  frame := fun _ _ _ => rfl
  os := rfl
  tape := rfl
  output := rfl
  z0 := fun _ _ hz => ⟨hz, rfl⟩
  zback := fun _ _ hz _ => .inl hz
  names := fun _ _ h => h
  fresh := hH.fresh
  defs := fun d hd' => by cases hd'
  dnd := .nil }
theorem Rel.leave {nt : Nat} (hJ : Rel (En.cx ⟨w, Mine φ H w, Z, φ⟩ P nt) φ' Z' s a w') : HRel P φ' Z' s.H s.c w' ∧ Grew P φ φ' Z Z' H s.H w w' :=
  ⟨hJ.hrel, {
    size := hJ.grow
    frame := hJ.frame
    os := hJ.os
    tape := hJ.tape
    output := hJ.output
    up := hJ.z0
    back := hJ.zback
    names := hJ.names
    mine := fun b hb => by
      rcases hb with ⟨id, h1, h2⟩ | ⟨id, j, e, h1⟩
      · exact hJ.mut1 id b h1 h2
      · exact hJ.mut2 (.box id j) b e h1 }⟩
theorem putObj_other {b k : Nat} {ob : Obj} (h : k ≠ b) : (w.putObj b ob).heap[k]? = w.heap[k]? := by
  simp [World.putObj, Array.getElem?_setIfInBounds, Ne.symm h]
theorem putObj_same {b : Nat} {ob ob' : Obj} (h : w.heap[b]? = some ob) : (w.putObj b ob').heap[b]? = some ob' := by
  have := lt_of_block h
  simp [World.putObj, Array.getElem?_setIfInBounds, this]
theorem Rel.setLp (h : Rel X φ Z s a w) {id b : Nat} {st : LoopState} {pend : Option Code} {S : Slots} {nt : Nat} {ps : Array Tmp} {asg body : Code} (hi : s.H id = some (.lp st pend S nt ps asg body)) (hb : φ id = some b) :
    ∃ fn tmps d, w.heap[b]? = some (.loop { state := st, pending := pend, fn := fn, tmps := tmps, params := ps, assign := asg, body := body, defers := d }) ∧ tmps.size = nt ∧ (∀ t, VR φ Z w (S t) (tmps.getD t undef)) ∧
      ∀ st' pend', Rel X φ Z { s with H := updH s.H id (some (.lp st' pend' S nt ps asg body)) } a (w.putObj b (.loop { state := st', pending := pend', fn := fn, tmps := tmps, params := ps, assign := asg, body := body, defers := d })) := by
  obtain ⟨fn, tmps, d, h1, h2, h3⟩ := h.bl hi hb
  refine ⟨fn, tmps, d, h1, h2, h3, fun st' pend' => ?_⟩
  have q : At w (w.putObj b (.loop { state := st', pending := pend', fn := fn, tmps := tmps, params := ps, assign := asg, body := body, defers := d })) b Z :=
    ⟨by simp [World.putObj], fun k hk => putObj_other hk, rfl, rfl, rfl, fun b1 o _ => putObj_cell h1 (fun c t f e => by cases e) (fun c t f e => by cases e)⟩
  refine h.setBox hi hb q ⟨fn, tmps, d, putObj_same h1, h2, fun t => (h3 t).mono (fun _ _ h => h) (fun _ _ h => h) (fun b o hz => q.cells b o hz)⟩ fun j b1 e hs => ?_
  simp [cellOf, spareOf] at hs
theorem Rel.quiet (h : Rel X φ Z s a w) (m : More w w' Z Z') : Rel X φ Z' s a w' := by
  have hk : HRel X.P φ Z' s.H s.c w' := {
    boxes := fun id bx hb => by
      obtain ⟨b, h1, h2⟩ := h.boxes id bx hb
      exact ⟨b, h1, h2.mono (fun _ _ h => h) m.up (fun b o hz => m.quiet.cell (h.zlt hz)) (m.quiet.block b h2.lt)⟩
    inj := h.inj
    zok := fun b o hz => by
      by_cases hb : b < w.heap.size
      · obtain ⟨v, hv⟩ := h.zok b o (m.back b o hz hb)
        exact ⟨v, (m.quiet.cell hb).trans hv⟩
      · exact m.ok b o hz (by omega)
    zbox := fun b o id hz hi hb => by
      have hlt := h.box_lt hi hb
      exact h.zbox b o id (m.back b o hz hlt) hi hb
    own1 := fun id j b e hl => by
      have hi := spare_box_some hl
      have hc := h.con_box m.quiet (a' := ⟨#[], []⟩) (j := j) hi
      rw [hc] at hl ⊢
      exact (h.own1 (.box id j) b e hl).more h m
    own2 := fun id j id' j' b e e' hl hl' => by
      have hi := spare_box_some hl
      have hi' := spare_box_some hl'
      rw [h.con_box m.quiet (a' := ⟨#[], []⟩) hi] at hl
      rw [h.con_box m.quiet (a' := ⟨#[], []⟩) hi'] at hl'
      exact h.own2 (.box id j) (.box id' j') b e e' hl hl'
    fresh := h.fresh }
  refine h.called (φ' := φ) (H' := s.H) (c' := s.c) hk {
    size := m.quiet.size
    frame := fun b hb _ => m.quiet.block b hb
    os := m.quiet.os
    tape := m.quiet.tape
    output := m.quiet.output
    up := fun b o hz => ⟨m.up b o hz, m.quiet.cell (h.zlt hz)⟩
    back := fun b o hz hb => .inl (m.back b o hz hb)
    names := fun _ _ h => h
    mine := fun b hm => .inl (by
      rcases hm with ⟨id, h1, h2⟩ | ⟨id, j, e, h1⟩
      · exact .inl ⟨id, h1, h2⟩
      · have hi := spare_box_some h1
        rw [h.con_box m.quiet (a' := ⟨#[], []⟩) hi] at h1
        exact .inr ⟨id, j, e, h1⟩) }
end
theorem inv_yl {φ : Names} {Z : Still} {w : World} {id : Nat} {u : Value} (h : VR φ Z w (.yl id) u) : ∃ b, u = .func (.yield b) #[] #[] ∧ φ id = some b := by
  cases h with
  | yl _ b h => exact ⟨b, rfl, h⟩
def setPs (S : Slots) : List Nat → List A → Slots
  | t :: ts, v :: vs => setPs (upd S t v) ts vs
  | _, _ => S
theorem setPs_vr {φ : Names} {Z : Still} {w : World} : ∀ (ts : List Nat) (vs : List A) (us : List Value) {S : Slots} {tmps : Array Value}, (∀ t ∈ ts, t < tmps.size) → us.length = vs.length →
    (∀ i, i < vs.length → VR φ Z w (vs.getD i .un) (us.getD i undef)) → (∀ t, VR φ Z w (S t) (tmps.getD t undef)) →
    ((ts.zip us).foldl (fun tmps p => tmps.setIfInBounds p.1 p.2) tmps).size = tmps.size ∧ ∀ t, VR φ Z w (setPs S ts vs t) (((ts.zip us).foldl (fun tmps p => tmps.setIfInBounds p.1 p.2) tmps).getD t undef)
  | [], vs, us, S, tmps, _, _, _, h => ⟨rfl, by cases vs <;> exact h⟩
  | t :: ts, [], us, S, tmps, _, hl, _, h => by
    have : us = [] := List.length_eq_zero_iff.1 (by simpa using hl)
    subst this
    exact ⟨rfl, h⟩
  | t :: ts, v :: vs, [], S, tmps, _, hl, _, h => by simp at hl
  | t :: ts, v :: vs, u :: us, S, tmps, ht, hl, hv, h => by
    have h0 := hv 0 (by simp)
    simp only [List.getD_cons_zero] at h0
    have := setPs_vr ts vs us (S := upd S t v) (tmps := tmps.setIfInBounds t u) (fun t' ht' => by simpa using ht t' (by simp [ht'])) (by simpa using hl) (fun i hi => by simpa using hv (i + 1) (by simpa using hi)) (fun t' => by
      rw [getD_put (ht t (by simp)), upd_apply]
      split
      · exact h0
      · exact h t')
    exact ⟨by rw [List.zip_cons_cons, List.foldl_cons, this.1]; simp, this.2⟩
theorem setPs_own : ∀ (ts : List Nat) (vs : List A) {S : Slots}, (∀ v ∈ vs, ∀ u, spareOf v u = none) → (∀ t u, spareOf (S t) u = none) → ∀ t u, spareOf (setPs S ts vs t) u = none
  | [], vs, S, _, h => by cases vs <;> exact h
  | t :: ts, [], S, _, h => h
  | t :: ts, v :: vs, S, hv, h => setPs_own ts vs (fun v' h' => hv v' (by simp [h'])) fun t' u => by
    rw [upd_apply]
    split
    · exact hv v (by simp) u
    · exact h t' u
def roundQ (id : Nat) (post : A → Hp → Nat → Prop) : Exit → St → Prop
  | .normal, s => ∃ st pend S nt ps asg body, s.H id = some (.lp st pend S nt ps asg body) ∧ post (.bool true) (updH s.H id (some (.lp .ready none S nt ps asg body))) s.c
  | .ret, s => ∃ st pend S nt ps asg body, s.H id = some (.lp st pend S nt ps asg body) ∧ post (.bool false) (updH s.H id (some (.lp .done (some .ret) S nt ps asg body))) s.c
  | .exit j, s => ∃ st pend S nt ps asg body, s.H id = some (.lp st pend S nt ps asg body) ∧ post (.bool false) (updH s.H id (some (.lp .done (some (.exit j)) S nt ps asg body))) s.c
  | _, _ => False
section
variable {X : Ctx} {r : Option Nat} {s : St} {o : Oper} {K : St → Prop}
theorem run_getLoop {P : Program} {w : World} {b : Nat} {l : Loop} (h : w.heap[b]? = some (.loop l)) : (Instr.getLoop b).run P w = .ok l w := by
  have h1 : (getObj b).run P w = .ok (.loop l) w := by simp only [getObj, Sem.run, h]
  simp only [Instr.getLoop, Sem.run_bind, h1, Result.andThen_ok, Sem.run_pure]
theorem run_setLoop {P : Program} {w : World} {b : Nat} {l : Loop} {ob : Obj} (h : w.heap[b]? = some (.loop l)) : (setObj b ob).run P w = .ok () (w.putObj b ob) := by
  simp only [setObj, Sem.run, h]; rfl
theorem DoesR.yieldN {f : Operand} {args : Array Operand} {at' : Array TypeId} {id nt : Nat} {S : Slots} {pend : Option Code} {ps : Array Tmp} {asg body : Code} {post : A → Hp → Nat → Prop}
    (ho : o.op = .call { callee := .value f, args := args, argTypes := at' }) (hf : rd s.S f = .yl id) (hi : s.H id = some (.lp .ready pend S nt ps asg body)) (hlen : args.size = ps.size) (hps : ∀ t ∈ ps.toList, t < nt)
    (h : ∀ (E : En) (b : Nat), (∀ id, s.c ≤ id → E.φ0 id = none) → Aw (E.cx X.P nt) (some b) asg (fun e s1 => e = .normal ∧ ∃ p1 S1 nt1 ps1 as1 bo1, s1.H id = some (.lp .ready p1 S1 nt1 ps1 as1 bo1) ∧
      Aw (E.cx X.P nt) (some b) body (roundQ id post) { s1 with H := updH s1.H id (some (.lp .busy p1 S1 nt1 ps1 as1 bo1)) }) ⟨setPs (fun t => (S t).down) ps.toList (rds s.S args.toList), s.H, s.c⟩)
    (k : ∀ v H' c', post v H' c' → K ⟨putO s.S o.dst v, H', c'⟩) : DoesR X r o s K := by
  intro hdn φ Z a w hr next Q hn
  obtain ⟨dst, op, ty, pos, aft, gd⟩ := o
  simp only at ho
  subst ho
  obtain ⟨b, e0, hb⟩ := inv_yl (hf ▸ hr.sees.rd f)
  obtain ⟨fn, tmps, d, hl, hsz, htv, _⟩ := hr.setLp hi hb
  have hargs := vrs_rds hr.slots args
  have hset := setPs_vr (φ := φ) (Z := Z) (w := w) ps.toList (rds s.S args.toList) (args.map a.eval).toList (S := fun t => (S t).down) (tmps := tmps) (fun t ht => by rw [hsz]; exact hps t ht) (by simpa using hargs.1) (fun i hi => by
    have := hargs.2 i hi
    simpa [Array.getD_eq_getD_getElem?, List.getD_eq_getElem?_getD] using this) (fun t => (htv t).down)
  have hrun : (execOp a.eval { dst := dst, op := Op.call { callee := .value f, args := args, argTypes := at' }, type := ty, pos := pos, after := aft, guard := gd }).run X.P w =
      .ok (.round b fn ((ps.toList.zip (args.map a.eval).toList).foldl (fun tmps p => tmps.setIfInBounds p.1 p.2) tmps) asg body) w := by
    simp only [ex_call, resolve, e0, Deferred.ofValue, invoke, Sem.run_bind, Sem.run_pure, Result.andThen_ok]
    simp only [Instr.yield, Sem.run_bind, run_getLoop hl, Result.andThen_ok]
    rw [if_neg (by simp [hlen])]
    simp only [Sem.run_pure, Array.toList_map, ← Array.foldl_toList, Array.toList_zip, Array.empty_append, Array.append_empty]
  refine ⟨fun f _ => trivial, ?_⟩
  rw [Oper.semAt_eq _ _ _ (fun c => by simp), hrun, Oper.uponIn_round]
  refine ⟨fun h0 => (by cases h0), roundIn_of_wpIn trivial ?_⟩
  have hrel0 := hr.hrel.enter (S := setPs (fun t => (S t).down) ps.toList (rds s.S args.toList)) (nt := nt) (hset.1.trans hsz) hset.2 (setPs_own _ _ (fun v hv u => by
    obtain ⟨x, _, rfl⟩ := List.mem_map.1 hv
    exact spare_down _ _) (fun t u => spare_down _ _))
  refine wpIn_mono (h ⟨w, Mine φ s.H w, Z, φ⟩ b hr.fresh φ Z _ w hrel0) ?_
  rintro e a1 w1 ⟨s1, φ1, Z1, ⟨rfl, p1, S1, nt1, ps1, as1, bo1, hi1, hbody⟩, hr1⟩
  have hb1 : φ1 id = some b := hr1.names id b hb
  obtain ⟨fn1, tmps1, d1, hl1, _, _, hset1⟩ := hr1.setLp hi1 hb1
  refine ⟨_, by simp only [Instr.beginRound, Sem.run_bind, run_getLoop hl1, run_setLoop hl1, Result.andThen_ok, Sem.run_pure]; rfl, ?_⟩
  refine wpIn_mono (hbody φ1 Z1 a1 _ (hset1 .busy p1)) ?_
  rintro e a2 w2 ⟨s2, φ2, Z2, hq, hr2⟩
  have hb2 : φ2 id = some b := hr2.names id b hb
  have fin : ∀ (jump : Option Code) (st : LoopState), st = (if jump.isNone then .ready else .done) → (∃ st1 pend S nt ps asg body, s2.H id = some (.lp st1 pend S nt ps asg body) ∧ post (.bool jump.isNone) (updH s2.H id (some (.lp st jump S nt ps asg body))) s2.c) →
      ∃ v w', (Instr.endRound b jump).run X.P w2 = .ok v w' ∧ next (a.put dst v) w' := by
    rintro jump st hst ⟨st2, pend2, S2, nt2, ps2, as2, bo2, hi2, hp⟩
    obtain ⟨fn2, tmps2, d2, hl2, _, _, hset2⟩ := hr2.setLp hi2 hb2
    have hr3 := hset2 st jump
    obtain ⟨k1, k2⟩ := hr3.leave
    have hr4 := hr.called k1 k2
    have hk := k _ _ _ hp
    refine ⟨.bool jump.isNone, _, by simp only [Instr.endRound, Sem.run_bind, run_getLoop hl2, run_setLoop hl2, Result.andThen_ok, Sem.run_pure, ← hst]; rfl, ?_⟩
    cases dst with
    | none => exact hn _ φ2 Z2 _ _ hk hr4
    | some d => exact hn _ φ2 Z2 _ _ hk (hr4.put_down hr4.more_refl (hdn d rfl) (.s _) (fun p hs => by simp [spareOf] at hs))
  cases e with
  | normal => exact fin none .ready rfl hq
  | ret => exact fin (some .ret) .done rfl hq
  | exit j => exact fin (some (.exit j)) .done rfl hq
  | goto t => exact hq.elim
  | panic ch => exact hq.elim
  | outgrown => exact hq.elim
theorem DoesR.yield {f : Operand} {args : Array Operand} {at' : Array TypeId} {id nt : Nat} {S : Slots} {pend : Option Code} {ps : Array Tmp} {asg body : Code} {post : A → Hp → Nat → Prop}
    (ho : o.op = .call { callee := .value f, args := args, argTypes := at' }) (hf : rd s.S f = .yl id) (hi : s.H id = some (.lp .ready pend S nt ps asg body)) (hlen : args.size = ps.size) (hps : ∀ t ∈ ps.toList, t < nt)
    (h : ∀ (E : En) (b : Nat), Aw (E.cx X.P nt) (some b) asg (fun e s1 => e = .normal ∧ ∃ p1 S1 nt1 ps1 as1 bo1, s1.H id = some (.lp .ready p1 S1 nt1 ps1 as1 bo1) ∧
      Aw (E.cx X.P nt) (some b) body (roundQ id post) { s1 with H := updH s1.H id (some (.lp .busy p1 S1 nt1 ps1 as1 bo1)) }) ⟨setPs (fun t => (S t).down) ps.toList (rds s.S args.toList), s.H, s.c⟩)
    (k : ∀ v H' c', post v H' c' → K ⟨putO s.S o.dst v, H', c'⟩) : DoesR X r o s K := DoesR.yieldN ho hf hi hlen hps (fun E b _ => h E b) k
end
end Go.AL

namespace Go.AL
open Go Go.RowKit
section
variable {X : Ctx} {φ : Names} {Z : Still} {s : St} {a : Act} {w : World}
theorem Rel.addMark (h : Rel X φ Z s a w) {r0 : Nat} (h1 : X.w0.heap.size ≤ r0) (h2 : w.heap[r0]? = some (.deferred (some []))) (h3 : ∀ id, (s.H id).isSome = true → φ id ≠ some r0)
    (h4 : ∀ d, d ∈ a.defers → d.target ≠ .collected r0) : Rel X φ Z s { a with defers := { target := .collected r0, args := #[] } :: a.defers } w := {
  size := h.size
  slots := h.slots
  boxes := h.boxes
  inj := h.inj
  zok := h.zok
  zbox := h.zbox
  own1 := fun l b e hl => by cases l <;> exact h.own1 _ b e hl
  own2 := fun l l' b e e' hl hl' => by
    cases l <;> cases l' <;> exact h.own2 _ _ b e e' hl hl'
  mut1 := h.mut1
  mut2 := fun l b e hl => by cases l <;> exact h.mut2 _ b e hl
  grow := h.grow
  frame := h.frame
  os := h.os
  tape := h.tape
  output := h.output
  z0 := h.z0
  zback := h.zback
  names := h.names
  fresh := h.fresh
  defs := fun d hd => by
    rcases List.mem_cons.1 hd with rfl | hd
    · exact ⟨r0, rfl, h1, h2, h3⟩
    · exact h.defs d hd
  dnd := List.pairwise_cons.2 ⟨fun d hd e => h4 d hd e.symm, h.dnd⟩ }
theorem run_new {P : Program} {w : World} (ob : Obj) : (newObj ob).run P w = .ok w.heap.size (w.alloc ob) := rfl
theorem Aw.rangeFunc {Q : Exit → St → Prop} {g : Operand} {ps : Array Tmp} {asg body : Code} {f : Nat} {fst cap : List A} {post : A → Hp → Nat → Prop} (hf : rd s.S g = .fn (.func f) fst cap) (he : Enters X.P f)
    (h : SCall X.P f ((fst ++ [.yl s.c]) ++ cap) (updH s.H s.c (some (.lp .ready none (fun t => (s.S t).down) X.nt ps asg body))) (s.c + 1) post)
    (k : ∀ v H' c', post v H' c' → ∃ st pend S1 nt1 ps1 as1 bo1, H' s.c = some (.lp st pend S1 nt1 ps1 as1 bo1) ∧ st ≠ .busy ∧
      (match pend with | none => Q .normal ⟨s.S, updH H' s.c none, c'⟩ | some j => Aw X none j Q ⟨s.S, updH H' s.c none, c'⟩)) : Aw X none (.rangeFunc g ps asg body) Q s := by
  intro φ Z a w hr
  refine wpIn_rangeFunc fun fn _ => ?_
  have m1 : More w (w.alloc (.deferred (some []))) Z Z := ⟨Quiet.alloc _ _, fun _ _ h => h, fun _ _ h _ => h, fun b o hz hb => by have := hr.zlt hz; omega⟩
  have hr1 := (hr.quiet m1).addMark (r0 := w.heap.size) hr.grow (heap_alloc_new w _) (fun id hi hb => by have := hr.box_lt hi hb; omega) (fun d hd e => by
    obtain ⟨r, h1, _, h3, _⟩ := hr.defs d hd
    have := lt_of_block h3
    rw [h1] at e
    simp only at e
    cases e
    omega)
  generalize hw1 : w.alloc (.deferred (some [])) = w1 at *
  let rec0 : Loop := { state := .ready, pending := none, fn := fn, tmps := a.tmps, params := ps, assign := asg, body := body, defers := w.heap.size }
  have m2 : More w1 (w1.alloc (.loop rec0)) Z Z := ⟨Quiet.alloc _ _, fun _ _ h => h, fun _ _ h _ => h, fun b o hz hb => by have := hr1.zlt hz; omega⟩
  have hr2 := hr1.newBox (bx := .lp .ready none (fun t => (s.S t).down) X.nt ps asg body) (b := w1.heap.size) (nm := s.c) (c' := s.c + 1) m2 (hr.fresh _ (Nat.le_refl _)) (Nat.le_succ _) (Nat.lt_succ_self _) (Nat.le_refl _) (fun o hz => by have := hr1.zlt hz; omega)
    ⟨fn, a.tmps, w.heap.size, heap_alloc_new w1 _, hr.size, fun t => (hr1.slots t).down.mono (fun id b hid => by
      have : id ≠ s.c := fun e => by rw [e, hr.fresh _ (Nat.le_refl _)] at hid; cases hid
      simp [beq_no this, hid]) (fun _ _ h => h) (fun b o hz => m2.quiet.cell (hr1.zlt hz))⟩ (fun j v p => by simp [cellOf, spareOf])
  obtain ⟨fv, cv, e0, h1, h2⟩ := inv_fn (hf ▸ hr2.sees.rd g)
  have hyl : VRs (fun i => _root_.cond (Nat.beq i s.c) (some w1.heap.size) (φ i)) Z (w1.alloc (.loop rec0)) [.yl s.c] #[.func (.yield w1.heap.size) #[] #[]] := ⟨rfl, fun i hi => by
    have : i = 0 := by simpa using hi
    subst this
    exact .yl _ _ (by simp)⟩
  have e0' : a.eval g = .func (.func f) fv cv := e0
  refine ⟨w1.heap.size, [{ target := .collected w.heap.size, args := #[] }], w1.alloc (.loop rec0), { target := .fn (.func f) cv, args := fv ++ #[.func (.yield w1.heap.size) #[] #[]] }, w1.alloc (.loop rec0), f, fv ++ #[.func (.yield w1.heap.size) #[] #[]] ++ cv, w1.alloc (.loop rec0), ?_, ?_, fun _ _ => trivial, ?_, fun h0 => (by cases h0), ?_⟩
  · simp only [Instr.enterLoop, fenceR, Sem.run_bind, run_new, Result.andThen_ok, Sem.run_pure, hw1]; rfl
  · have : (#[.const (.func (.yield w1.heap.size) #[] #[])] : Array Operand).map a.eval = #[.func (.yield w1.heap.size) #[] #[]] := by simp [Act.eval]
    simp only [resolve, e0', Deferred.ofValue, Sem.run_bind, Sem.run_pure, Result.andThen_ok, this]
  · exact he (fv ++ #[.func (.yield w1.heap.size) #[] #[]] ++ cv) (w1.alloc (.loop rec0))
  · refine callsIn_fenceR ((h _ Z _ _ hr2.hrel ((h1.append hyl).append h2)).mono ?_)
    rintro e w' ⟨u, v, H', c', φ', Z', rfl, hp, hv, hsp, k1, k2⟩
    obtain ⟨st, pend, S1, nt1, ps1, as1, bo1, hH, hst, hQ⟩ := k v H' c' hp
    have hr3 := hr2.called k1 k2
    have hb : φ' s.c = some w1.heap.size := k2.names _ _ (by simp)
    obtain ⟨fn3, tmps3, d3, hl3, _, _, hset⟩ := hr3.setLp hH hb
    have hr4 := (hset .exhausted pend).weaken (S' := s.S) (H' := updH H' s.c none) (c' := c') (fun _ => .refl _) (fun id bx hb' => by
      rw [updH_apply] at hb'
      split at hb'
      · cases hb'
      · rename_i hne
        exact ⟨bx, by show updH H' s.c _ id = _; rw [updH_other _ _ hne]; exact hb', .refl _⟩) (Nat.le_refl _)
    have hbz : (st == LoopState.busy) = false := by cases st <;> first | rfl | exact absurd rfl hst
    refine ⟨pend, _, by simp only [Instr.endLoop, Sem.run_bind, run_getLoop hl3, Result.andThen_ok, hbz, Bool.false_eq_true, if_false, run_setLoop hl3, Sem.run_pure]; rfl, ?_⟩
    cases pend with
    | none => exact ⟨_, φ', Z', hQ, hr4⟩
    | some j => exact hQ φ' Z' _ _ hr4
end
end Go.AL

namespace Go.AL
open Go Go.RowKit
theorem pureRun_bind {α β : Type} {P : Program} : ∀ {m : Sem α} {f : α → Sem β}, pureRun P (m >>= f) = (pureRun P m).bind fun a => pureRun P (f a)
  | .pure a, f => rfl
  | .program k, f => pureRun_bind (m := k P) (f := f)
  | .load .., _ => rfl
  | .store .., _ => rfl
  | .new .., _ => rfl
  | .shape .., _ => rfl
  | .freeze .., _ => rfl
  | .frozen .., _ => rfl
  | .getObj .., _ => rfl
  | .setObj .., _ => rfl
  | .choose .., _ => rfl
  | .sys .., _ => rfl
  | .mark .., _ => rfl
  | .halt .., _ => rfl
theorem findNow_keys {kind : TypeDesc} {k : Value} : ∀ (es : List MapEntry) (i : Nat),
    (Instr.findNow kind k (bare (es.map (·.key))) i = none → Instr.findNow kind k es i = none) ∧
    (Instr.findNow kind k (bare (es.map (·.key))) i = some none → Instr.findNow kind k es i = some none) ∧
    ∀ j v, Instr.findNow kind k (bare (es.map (·.key))) i = some (some (j, v)) → ∃ e, i ≤ j ∧ es[j - i]? = some e ∧ Instr.findNow kind k es i = some (some (j, e.val))
  | [], i => by
    refine ⟨fun h => by simp [bare, Instr.findNow] at h, fun _ => rfl, fun j v h => by simp [bare, Instr.findNow] at h⟩
  | e :: es, i => by
    have ih := findNow_keys (kind := kind) (k := k) es (i + 1)
    simp only [bare, List.map_cons, Instr.findNow] at ih ⊢
    cases hs : Instr.sameNow kind k e.key with
    | none => exact ⟨fun _ => rfl, fun h => by simp at h, fun j v h => by simp at h⟩
    | some b =>
      cases b with
      | true =>
        refine ⟨fun h => by simp at h, fun h => by simp at h, fun j v h => ?_⟩
        simp only [Option.some.injEq, Prod.mk.injEq] at h
        obtain ⟨rfl, _⟩ := h
        exact ⟨e, Nat.le_refl _, by simp, rfl⟩
      | false =>
        refine ⟨ih.1, ih.2.1, fun j v h => ?_⟩
        obtain ⟨e', h1, h2, h3⟩ := ih.2.2 j v h
        refine ⟨e', by omega, ?_, h3⟩
        rw [show j - i = (j - (i + 1)) + 1 by omega]
        simpa using h2
theorem findAsking_keys {P : Program} {kt : TypeId} {k : Value} : ∀ (es : List MapEntry) (i : Nat),
    (pureRun P (Instr.findAsking kt k (bare (es.map (·.key))) i) = some none → pureRun P (Instr.findAsking kt k es i) = some none) ∧
    ∀ j v, pureRun P (Instr.findAsking kt k (bare (es.map (·.key))) i) = some (some (j, v)) → ∃ e, i ≤ j ∧ es[j - i]? = some e ∧ pureRun P (Instr.findAsking kt k es i) = some (some (j, e.val))
  | [], i => ⟨fun _ => rfl, fun j v h => by simp [bare, Instr.findAsking, pureRun, pure] at h⟩
  | e :: es, i => by
    have ih := findAsking_keys (P := P) (kt := kt) (k := k) es (i + 1)
    simp only [bare, List.map_cons, Instr.findAsking] at ih ⊢
    rw [pureRun_bind, pureRun_bind]
    cases hs : pureRun P (Op.equal kt k e.key) with
    | none => exact ⟨fun h => by simp at h, fun j v h => by simp at h⟩
    | some b =>
      cases b with
      | true =>
        refine ⟨fun h => by simp [pureRun, pure] at h, fun j v h => ?_⟩
        simp only [Option.bind_some, if_true, pureRun, pure, Option.some.injEq, Prod.mk.injEq] at h
        obtain ⟨rfl, _⟩ := h
        exact ⟨e, Nat.le_refl _, by simp, rfl⟩
      | false =>
        simp only [Option.bind_some, Bool.false_eq_true, if_false]
        refine ⟨ih.1, fun j v h => ?_⟩
        obtain ⟨e', h1, h2, h3⟩ := ih.2 j v h
        refine ⟨e', by omega, ?_, h3⟩
        rw [show j - i = (j - (i + 1)) + 1 by omega]
        simpa using h2
theorem findKey_of {P : Program} {kt : TypeId} {k : Value} {es : List MapEntry} {w : World} {r : Option Nat} (h : findIx P kt k (es.map (·.key)) = some r) :
    match r with
    | some j => ∃ e, es[j]? = some e ∧ (Instr.findKey kt k es).run P w = .ok (some (j, e.val)) w
    | none => (Instr.findKey kt k es).run P w = .ok none w := by
  have key : ∀ q, pureRun P (Instr.findKey kt k (bare (es.map (·.key)))) = some q → match q with
      | some (j, _) => ∃ e, es[j]? = some e ∧ pureRun P (Instr.findKey kt k es) = some (some (j, e.val))
      | none => pureRun P (Instr.findKey kt k es) = some none := by
    intro q hq
    unfold Instr.findKey at hq ⊢
    rw [pureRun_bind] at hq ⊢
    cases hu : pureRun P (underlying kt) with
    | none => rw [hu] at hq; simp at hq
    | some d =>
      rw [hu] at hq
      simp only [Option.bind_some] at hq ⊢
      have h1 := findNow_keys (kind := d) (k := k) es 0
      cases hf : Instr.findNow d k (bare (es.map (·.key))) 0 with
      | none =>
        rw [hf] at hq
        rw [h1.1 hf]
        simp only at hq ⊢
        have h2 := findAsking_keys (P := P) (kt := kt) (k := k) es 0
        cases q with
        | none => exact h2.1 hq
        | some p =>
          obtain ⟨e, _, h3, h4⟩ := h2.2 p.1 p.2 hq
          exact ⟨e, by simpa using h3, h4⟩
      | some o =>
        rw [hf] at hq
        simp only [pureRun, pure, Option.some.injEq] at hq
        subst hq
        cases o with
        | none => rw [h1.2.1 hf]; rfl
        | some p =>
          obtain ⟨e, _, h3, h4⟩ := h1.2.2 p.1 p.2 hf
          rw [h4]
          exact ⟨e, by simpa using h3, rfl⟩
  unfold findIx at h
  split at h
  · rename_i j v hq
    cases h
    obtain ⟨e, h1, h2⟩ := key _ hq
    exact ⟨e, h1, pureRun_ok h2⟩
  · rename_i hq
    cases h
    exact pureRun_ok (key _ hq)
  · cases h
end Go.AL

namespace Go.AL
open Go Go.RowKit
def concKeys : List (A × A) → Option (List Value)
  | [] => some []
  | (k, _) :: l => match concA k, concKeys l with
    | some v, some vs => some (v :: vs)
    | _, _ => none
theorem concKeys_ok {φ : Names} {Z : Still} {w : World} : ∀ {kvs : List (A × A)} {ks : List Value} {es : List MapEntry}, concKeys kvs = some ks → es.length = kvs.length →
    (∀ i, i < kvs.length → ∃ e, es[i]? = some e ∧ VR φ Z w ((kvs.getD i (.un, .un)).1) e.key) → es.map (·.key) = ks
  | [], ks, es, h, hl, _ => by
    simp only [concKeys, Option.some.injEq] at h
    subst h
    rw [List.length_eq_zero_iff.1 hl]; rfl
  | (k, v) :: kvs, ks, [], h, hl, _ => by simp at hl
  | (k, v) :: kvs, ks, e :: es, h, hl, hv => by
    simp only [concKeys] at h
    split at h
    · rename_i kv vs h1 h2
      simp only [Option.some.injEq] at h
      subst h
      obtain ⟨e0, h3, h4⟩ := hv 0 (by simp)
      simp only [List.getElem?_cons_zero, Option.some.injEq] at h3
      subst h3
      simp only [List.getD_cons_zero] at h4
      rw [List.map_cons, conc_vr h4 h1, concKeys_ok h2 (by simpa using hl) fun i hi => by simpa using hv (i + 1) (by simpa using hi)]
    · cases h
theorem inv_mp {φ : Names} {Z : Still} {w : World} {id : Nat} {u : Value} (h : VR φ Z w (.mp id) u) : ∃ b, u = .map (some b) ∧ φ id = some b := by
  cases h with
  | mp _ b h => exact ⟨b, rfl, h⟩
theorem run_getMap {P : Program} {w : World} {b c : Nat} {es : Array MapEntry} (h : w.heap[b]? = some (.map es c)) : (getObj b).run P w = .ok (.map es c) w := by
  simp only [getObj, Sem.run, h]
theorem run_setMap {P : Program} {w : World} {b c : Nat} {es : Array MapEntry} {ob : Obj} (h : w.heap[b]? = some (.map es c)) : (setObj b ob).run P w = .ok () (w.putObj b ob) := by
  simp only [setObj, Sem.run, h]; rfl
def zeroA (T : Tab) (t : Nat) : A := match (T.ty t).isAgg with
  | true => .agg (T.zr t)
  | false => (T.zr t).getD 0 .un
section
variable {X : Ctx} {φ : Names} {Z : Still} {s : St} {a : Act} {w : World}
theorem one_cells {u : Value} (h : u.oneCell' = true) : u.cells = #[u] := by
  cases u <;> first | rfl | (simp [Value.oneCell'] at h)
theorem zeroA_vr {T : Tab} {t : Nat} {z : Value} (h : zeroFits (T.ty t) (T.sz t) (T.zr t) z) : VR φ Z w (zeroA T t).down z := by
  refine VR.down ?_
  have hz := zero_vrc (φ := φ) (Z := Z) (w := w) h
  unfold zeroA
  split
  · rename_i e
    obtain ⟨vs, rfl⟩ := h.2.2.1 e
    exact vr_agg hz
  · rename_i e
    have h1 := h.2.2.2.1 e
    rw [one_cells h1] at hz
    have := (hz.2 0 (by rw [← hz.1]; simp)).2
    simpa using this
theorem Rel.setMap (h : Rel X φ Z s a w) {id b : Nat} {kvs : List (A × A)} (hi : s.H id = some (.map kvs)) (hb : φ id = some b) :
    ∃ es : Array MapEntry, w.heap[b]? = some (.map es es.size) ∧ es.size = kvs.length ∧ (∀ i, i < kvs.length → ∃ e, es[i]? = some e ∧ e.born = i ∧ VR φ Z w ((kvs.getD i (.un, .un)).1) e.key ∧ VR φ Z w ((kvs.getD i (.un, .un)).2) e.val) ∧
      ∀ (kvs' : List (A × A)) (es' : Array MapEntry), es'.size = kvs'.length → (∀ i, i < kvs'.length → ∃ e, es'[i]? = some e ∧ e.born = i ∧ VR φ Z w ((kvs'.getD i (.un, .un)).1) e.key ∧ VR φ Z w ((kvs'.getD i (.un, .un)).2) e.val) →
        Rel X φ Z { s with H := updH s.H id (some (.map kvs')) } a (w.putObj b (.map es' es'.size)) := by
  obtain ⟨es, h1, h2, h3⟩ := h.bl hi hb
  refine ⟨es, h1, h2, h3, fun kvs' es' k1 k2 => ?_⟩
  have q : At w (w.putObj b (.map es' es'.size)) b Z :=
    ⟨by simp [World.putObj], fun k hk => putObj_other hk, rfl, rfl, rfl, fun b1 o _ => putObj_cell h1 (fun c t f e => by cases e) (fun c t f e => by cases e)⟩
  refine h.setBox hi hb q ⟨es', putObj_same h1, k1, fun i hi' => ?_⟩ fun j b1 e hs => ?_
  · obtain ⟨e, e1, e2, e3, e4⟩ := k2 i hi'
    have up := fun {x : A} {v : Value} (hx : VR φ Z w x v) => VR.mono (φ := φ) (φ' := φ) (Z := Z) (Z' := Z) (w := w) (w' := w.putObj b (.map es' es'.size)) (fun _ _ h => h) (fun _ _ h => h) (fun b o hz => q.cells b o hz) hx
    exact ⟨e, e1, e2, up e3, up e4⟩
  · simp [cellOf, spareOf] at hs
end
section
variable {X : Ctx} {T : Tab} {r : Option Nat} {s : St} {o : Oper} {K : St → Prop}
section
variable (ρ : Operand → Value) (d : Option Tmp) (ty : TypeId) (p : String) (af : Array Edge) (g : Option (Nat × Bool))
theorem ex_makeMap (t : TypeId) (x : Option Operand) : execOp ρ ⟨d, .makeMap t x, ty, p, af, g⟩ = (do pure (.value (← Instr.makeMap t (x.map ρ)))) := rfl
theorem ex_lookup (t : TypeId) (x k : Operand) (ok : Bool) : execOp ρ ⟨d, .lookup t x k ok, ty, p, af, g⟩ = (do pure (.value (← Instr.lookup t (ρ x) (ρ k) ok))) := rfl
theorem ex_mapUpdate (t : TypeId) (x k v : Operand) : execOp ρ ⟨d, .mapUpdate t x k v, ty, p, af, g⟩ = (do Instr.mapUpdate t (ρ x) (ρ k) (ρ v); pure .skip) := rfl
theorem ex_mapEntry (t : TypeId) (x k : Operand) : execOp ρ ⟨d, .mapEntry t x k, ty, p, af, g⟩ = (do pure (.value (← Instr.mapEntry t (ρ x) (ρ k)))) := rfl
theorem ex_entryStore (t : TypeId) (x k v : Operand) : execOp ρ ⟨d, .entryStore t x k v, ty, p, af, g⟩ = (do Instr.entryStore t (ρ x) (ρ k) (ρ v); pure .skip) := rfl
end
def lkA (T : Tab) (et : Nat) (kvs : List (A × A)) : Option Nat → A
  | some j => (kvs.getD j (.un, .un)).2.down
  | none => (zeroA T et).down
theorem DoesP.lookup (hT : T.Ok X.P) {d t kt et id : Nat} {x k : Operand} {ok : Bool} {kvs : List (A × A)} {ks : List Value} {kv : Value} {j : Option Nat} (ho : o.op = .lookup t x k ok) (hd : o.dst = some d) (ht : T.ty t = .map kt et) (he : T.ty et ≠ .none)
    (hx : rd s.S x = .mp id) (hi : s.H id = some (.map kvs)) (hk : concA (rd s.S k) = some kv) (hks : concKeys kvs = some ks) (hc : pureRun X.P (Instr.checkKey ks.isEmpty 10000 kt kv) = some ()) (hf : findIx X.P kt kv ks = some j)
    (hK : K { s with S := upd s.S d (cond ok (.tup [lkA T et kvs j, .bool j.isSome]) (lkA T et kvs j)) }) : DoesP X r o s K := by
  intro hdn φ Z a w hr next Q hn
  obtain ⟨dst, op, ty, pos, aft, gd⟩ := o
  simp only at ho hd
  subst ho; subst hd
  obtain ⟨b, e0, hb⟩ := inv_mp (hx ▸ hr.sees.rd x)
  obtain ⟨es, h1, h2, h3, _⟩ := hr.setMap hi hb
  have ek := conc_vr (hr.sees.rd k) hk
  have hkeys : es.toList.map (·.key) = ks := concKeys_ok hks (by simpa using h2) fun i hi => by
    obtain ⟨e, e1, _, e3, _⟩ := h3 i hi
    exact ⟨e, by simpa using e1, e3⟩
  have hemp : es.isEmpty = ks.isEmpty := by rw [← hkeys]; cases es with | mk l => cases l <;> rfl
  have hfk := findKey_of (w := w) (by rw [hkeys]; exact hf)
  have hck : (Instr.checkKey es.isEmpty 10000 kt kv).run X.P w = .ok () w := by rw [hemp]; exact pureRun_ok hc
  obtain ⟨z, hz1, hz2⟩ := run_zero hT (w := w) he
  obtain ⟨u, hrun, hvr⟩ : ∃ u,
      (Instr.lookup t (.map (some b)) kv ok).run X.P w = .ok (if ok then .tuple #[u, .bool j.isSome] else u) w ∧ VR φ Z w (lkA T et kvs j) u := by
    cases j with
    | some j =>
      obtain ⟨e, e1, e2⟩ := hfk
      have hlt : j < kvs.length := by
        have := (List.getElem?_eq_some_iff.1 e1).1
        simp only [Array.length_toList] at this; omega
      obtain ⟨e', f1, _, _, f4⟩ := h3 j hlt
      have : e' = e := by rw [Array.getElem?_toList, f1] at e1; cases e1; rfl
      subst this
      refine ⟨e'.val, ?_, f4.down⟩
      simp [Instr.lookup, run_und (und_map hT ht), run_getMap h1, hck, e2]
    | none =>
      refine ⟨z, ?_, zeroA_vr hz2⟩
      simp [Instr.lookup, run_und (und_map hT ht), run_getMap h1, hck, hfk, hz1]
  have hsp : ∀ p, spareOf (lkA T et kvs j) u ≠ some p := fun p => by cases j <;> exact spare_dn _ _ _
  cases ok with
  | true =>
    refine wp_run (w' := w) (fun c => by simp) (by rw [ex_lookup, Sem.run_bind, e0, ek, hrun]; rfl) (hn _ Z _ _ hK (hr.put_down hr.more_refl (hdn d rfl) ?_ (fun p => by simp [spareOf])))
    refine .tup _ _ rfl fun i hi => ?_
    match i, hi with
    | 0, _ => simpa using hvr
    | 1, _ => exact .s _
  | false =>
    exact wp_run (w' := w) (fun c => by simp) (by rw [ex_lookup, Sem.run_bind, e0, ek, hrun]; rfl) (hn _ Z _ _ hK (hr.put_down hr.more_refl (hdn d rfl) hvr hsp))
end
end Go.AL

namespace Go.AL
open Go Go.RowKit
def upKV (kvs : List (A × A)) (k v : A) : Option Nat → List (A × A)
  | some j => kvs.set j (k, v)
  | none => kvs ++ [(k, v)]
def KvR (φ : Names) (Z : Still) (w : World) (kvs : List (A × A)) (es : Array MapEntry) : Prop :=
  ∀ i, i < kvs.length → ∃ e, es[i]? = some e ∧ e.born = i ∧ VR φ Z w ((kvs.getD i (.un, .un)).1) e.key ∧ VR φ Z w ((kvs.getD i (.un, .un)).2) e.val
section
variable {φ : Names} {Z : Still} {w : World}
theorem KvR.set {kvs : List (A × A)} {es : Array MapEntry} (h : KvR φ Z w kvs es) (hl : es.size = kvs.length) {j : Nat} (hj : j < kvs.length) {k v : A} {kv uv : Value} (hk : VR φ Z w k kv) (hv : VR φ Z w v uv) {g : MapEntry → MapEntry}
    (hg : ∀ e, (g e).born = e.born ∧ (g e).key = kv ∧ (g e).val = uv) : KvR φ Z w (kvs.set j (k, v)) (es.modify j g) := by
  intro i hi
  rw [List.length_set] at hi
  obtain ⟨e, e1, e2, e3, e4⟩ := h i hi
  by_cases hij : j = i
  · subst hij
    refine ⟨g e, by simp [Array.getElem?_modify, e1], (hg e).1.trans e2, ?_, ?_⟩
    · rw [(hg e).2.1]; simpa [List.getD_eq_getElem?_getD, hi] using hk
    · rw [(hg e).2.2]; simpa [List.getD_eq_getElem?_getD, hi] using hv
  · refine ⟨e, by simp [Array.getElem?_modify, e1, hij], e2, ?_, ?_⟩
    · simpa [List.getD_eq_getElem?_getD, List.getElem?_set, hij] using e3
    · simpa [List.getD_eq_getElem?_getD, List.getElem?_set, hij] using e4
theorem KvR.push {kvs : List (A × A)} {es : Array MapEntry} (h : KvR φ Z w kvs es) (hl : es.size = kvs.length) {k v : A} {kv uv : Value} (hk : VR φ Z w k kv) (hv : VR φ Z w v uv) :
    KvR φ Z w (kvs ++ [(k, v)]) (es.push { key := kv, val := uv, born := es.size }) := by
  intro i hi
  simp only [List.length_append, List.length_cons, List.length_nil] at hi
  by_cases h1 : i < kvs.length
  · obtain ⟨e, e1, e2, e3, e4⟩ := h i h1
    refine ⟨e, ?_, e2, ?_, ?_⟩
    · rw [Array.getElem?_push, if_neg (by omega)]; exact e1
    · simpa [List.getD_eq_getElem?_getD, List.getElem?_append, h1] using e3
    · simpa [List.getD_eq_getElem?_getD, List.getElem?_append, h1] using e4
  · have : i = kvs.length := by omega
    subst this
    refine ⟨{ key := kv, val := uv, born := es.size }, ?_, hl, ?_, ?_⟩
    · rw [Array.getElem?_push, if_pos hl.symm]
    · simpa using hk
    · simpa using hv
end
section
variable {X : Ctx} {T : Tab} {r : Option Nat} {s : St} {o : Oper} {K : St → Prop}
theorem DoesR.mkMap (hT : T.Ok X.P) {d t : Nat} (ho : o.op = .makeMap t none) (hd : o.dst = some d) (k : K ⟨upd s.S d (.mp s.c), updH s.H s.c (some (.map [])), s.c + 1⟩) : DoesR X r o s K := by
  intro hdn φ Z a w hr next Q hn
  obtain ⟨dst, op, ty, pos, aft, gd⟩ := o
  simp only at ho hd
  subst ho; subst hd
  have m : More w (w.alloc (.map #[] 0)) Z Z := ⟨Quiet.alloc _ _, fun _ _ h => h, fun _ _ h _ => h, fun b o hz hb => by have := hr.zlt hz; omega⟩
  have h1 := hr.newBox (bx := .map []) (b := w.heap.size) (nm := s.c) (c' := s.c + 1) m (hr.fresh _ (Nat.le_refl _)) (Nat.le_succ _) (Nat.lt_succ_self _) (Nat.le_refl _) (fun o hz => by have := hr.zlt hz; omega)
    ⟨#[], heap_alloc_new w _, rfl, fun i hi => by simp at hi⟩ (fun j v p => by simp [cellOf, spareOf])
  have h2 := h1.put_down h1.more_refl (hdn d rfl) (x := .mp s.c) (v := .map (some w.heap.size)) (.mp _ _ (by simp)) (fun p => by simp [spareOf])
  exact wp_run (v := .map (some w.heap.size)) (w' := w.alloc (.map #[] 0)) (fun c => by simp) (by rw [ex_makeMap]; rfl) (hn _ _ Z _ _ k h2)
theorem DoesP.mapUpdate (hT : T.Ok X.P) {t kt et id : Nat} {x k v : Operand} {kvs : List (A × A)} {ks : List Value} {kv : Value} {j : Option Nat} (ho : o.op = .mapUpdate t x k v) (hd : o.dst = none) (ht : T.ty t = .map kt et)
    (hx : rd s.S x = .mp id) (hi : s.H id = some (.map kvs)) (hk : concA (rd s.S k) = some kv) (hks : concKeys kvs = some ks) (hc : pureRun X.P (Instr.checkKey false 10000 kt kv) = some ()) (hf : findIx X.P kt kv ks = some j)
    (hsame : ∀ i, j = some i → Instr.sameBits 10000 (ks.getD i undef) kv = true) (hK : K { s with H := updH s.H id (some (.map (upKV kvs (rd s.S k) (rd s.S v).down j))) }) : DoesP X r o s K := by
  intro hdn φ Z a w hr next Q hn
  obtain ⟨dst, op, ty, pos, aft, gd⟩ := o
  simp only at ho hd
  subst ho; subst hd
  obtain ⟨b, e0, hb⟩ := inv_mp (hx ▸ hr.sees.rd x)
  obtain ⟨es, h1, h2, h3, hset⟩ := hr.setMap hi hb
  have ek := conc_vr (hr.sees.rd k) hk
  have hkeys : es.toList.map (·.key) = ks := concKeys_ok hks (by simpa using h2) fun i hi => by
    obtain ⟨e, e1, _, e3, _⟩ := h3 i hi
    exact ⟨e, by simpa using e1, e3⟩
  have hfk := findKey_of (w := w) (by rw [hkeys]; exact hf)
  have hck : (Instr.checkKey false 10000 kt kv).run X.P w = .ok () w := pureRun_ok hc
  have hvk : VR φ Z w (rd s.S k) kv := ek ▸ hr.sees.rd k
  have hvv := (hr.sees.rd v).down
  cases j with
  | some j =>
    obtain ⟨e, e1, e2⟩ := hfk
    have hlt : j < kvs.length := by
      have := (List.getElem?_eq_some_iff.1 e1).1
      simp only [Array.length_toList] at this; omega
    have e1' : es[j]? = some e := by rw [← Array.getElem?_toList]; exact e1
    have hold : ks.getD j undef = e.key := by rw [← hkeys]; simp [List.getD_eq_getElem?_getD, e1']
    have hsb := hsame j rfl
    rw [hold] at hsb
    have hset' := hset _ _ (by simp [h2]) (KvR.set h3 h2 hlt hvk hvv (g := fun e => { e with key := kv, val := a.eval v }) (fun e => ⟨rfl, rfl, rfl⟩))
    refine wp_skip (fun c => by simp) ?_ (hn _ Z _ _ hK hset')
    rw [ex_mapUpdate, Sem.run_bind, e0, ek]
    simp [Instr.mapUpdate, run_und (und_map hT ht), run_getMap h1, hck, e2, Instr.keyThatStays, e1', hsb, run_setMap h1]
  | none =>
    have hset' := hset _ _ (by simp [h2]) (KvR.push h3 h2 hvk hvv)
    refine wp_skip (fun c => by simp) ?_ (hn _ Z _ _ hK hset')
    rw [ex_mapUpdate, Sem.run_bind, e0, ek]
    simp [Instr.mapUpdate, run_und (und_map hT ht), run_getMap h1, hck, hfk, run_setMap h1]
theorem DoesP.mapEntry (hT : T.Ok X.P) {d t kt et id : Nat} {x k : Operand} {kvs : List (A × A)} {ks : List Value} {kv : Value} {j : Option Nat} (ho : o.op = .mapEntry t x k) (hd : o.dst = some d) (ht : T.ty t = .map kt et) (he : T.ty et ≠ .none)
    (hx : rd s.S x = .mp id) (hi : s.H id = some (.map kvs)) (hk : concA (rd s.S k) = some kv) (hks : concKeys kvs = some ks) (hc : pureRun X.P (Instr.checkKey false 10000 kt kv) = some ()) (hf : findIx X.P kt kv ks = some j)
    (hsame : ∀ i, j = some i → Instr.sameBits 10000 (ks.getD i undef) kv = true)
    (hK : K ⟨upd s.S d (.tup [lkA T et kvs j, .int (match j with | some j => j | none => kvs.length)]), updH s.H id (some (.map (upKV kvs (rd s.S k) (lkA T et kvs j) j))), s.c⟩) : DoesP X r o s K := by
  intro hdn φ Z a w hr next Q hn
  obtain ⟨dst, op, ty, pos, aft, gd⟩ := o
  simp only at ho hd
  subst ho; subst hd
  obtain ⟨b, e0, hb⟩ := inv_mp (hx ▸ hr.sees.rd x)
  obtain ⟨es, h1, h2, h3, hset⟩ := hr.setMap hi hb
  have ek := conc_vr (hr.sees.rd k) hk
  have hkeys : es.toList.map (·.key) = ks := concKeys_ok hks (by simpa using h2) fun i hi => by
    obtain ⟨e, e1, _, e3, _⟩ := h3 i hi
    exact ⟨e, by simpa using e1, e3⟩
  have hfk := findKey_of (w := w) (by rw [hkeys]; exact hf)
  have hck : (Instr.checkKey false 10000 kt kv).run X.P w = .ok () w := pureRun_ok hc
  have hvk : VR φ Z w (rd s.S k) kv := ek ▸ hr.sees.rd k
  obtain ⟨z, hz1, hz2⟩ := run_zero hT (w := w) he
  have pair : ∀ {w' : World} {x : A} {u : Value} {n : Int}, VR φ Z w' x u → VR φ Z w' (.tup [x, .int n]) (.tuple #[u, .int .i64 n]) := fun {w' x u n} hx => .tup _ _ rfl fun i hi => by
    match i, hi with
    | 0, _ => simpa using hx
    | 1, _ => exact .s _
  have fin : ∀ (kvs' : List (A × A)) (es' : Array MapEntry) (u : Value) (v : A) (n : Int), es'.size = kvs'.length → KvR φ Z w kvs' es' → VR φ Z w v u →
      K ⟨upd s.S d (.tup [v, .int n]), updH s.H id (some (.map kvs')), s.c⟩ → (Instr.mapEntry t (.map (some b)) kv).run X.P w = .ok (.tuple #[u, .int .i64 n]) (w.putObj b (.map es' es'.size)) →
      (⟨some d, .mapEntry t x k, ty, pos, aft, gd⟩ : Oper).wpIn (fenceR r) 0 X.P a w next Q := by
    intro kvs' es' u v n k1 k2 k3 k4 k5
    have hs := hset kvs' es' k1 k2
    have hv' : VR φ Z (w.putObj b (.map es' es'.size)) v u := VR.mono (φ := φ) (φ' := φ) (Z := Z) (Z' := Z) (w := w) (fun _ _ h => h) (fun _ _ h => h) (fun b1 o _ => putObj_cell h1 (fun c t f e => by cases e) (fun c t f e => by cases e)) k3
    exact wp_run (v := .tuple #[u, .int .i64 n]) (w' := w.putObj b (.map es' es'.size)) (fun c => by simp) (by rw [ex_mapEntry, Sem.run_bind, e0, ek, k5]; rfl) (hn _ Z _ _ k4 (hs.put_down hs.more_refl (hdn d rfl) (pair hv') (fun p => by simp [spareOf])))
  cases j with
  | some j =>
    obtain ⟨e, e1, e2⟩ := hfk
    have hlt : j < kvs.length := by
      have := (List.getElem?_eq_some_iff.1 e1).1
      simp only [Array.length_toList] at this; omega
    have e1' : es[j]? = some e := by rw [← Array.getElem?_toList]; exact e1
    obtain ⟨e', f1, f2, _, f4⟩ := h3 j hlt
    have : e' = e := by rw [f1] at e1'; cases e1'; rfl
    subst this
    have hold : ks.getD j undef = e'.key := by rw [← hkeys]; simp [List.getD_eq_getElem?_getD, e1']
    have hsb := hsame j rfl
    rw [hold] at hsb
    have hkv : KvR φ Z w (kvs.set j (rd s.S k, (kvs.getD j (.un, .un)).2.down)) (es.modify j fun e => { e with key := kv }) := by
      intro i hi
      rw [List.length_set] at hi
      obtain ⟨e2, g1, g2, g3, g4⟩ := h3 i hi
      by_cases hij : j = i
      · subst hij
        refine ⟨{ e2 with key := kv }, by simp [Array.getElem?_modify, g1], g2, ?_, ?_⟩
        · simpa [List.getD_eq_getElem?_getD, hi] using hvk
        · have := g4.down
          simpa [List.getD_eq_getElem?_getD, hi] using this
      · refine ⟨e2, by simp [Array.getElem?_modify, g1, hij], g2, ?_, ?_⟩
        · simpa [List.getD_eq_getElem?_getD, List.getElem?_set, hij] using g3
        · simpa [List.getD_eq_getElem?_getD, List.getElem?_set, hij] using g4
    refine fin _ _ e'.val _ j (by simp [h2]) hkv f4.down hK ?_
    simp [Instr.mapEntry, run_und (und_map hT ht), run_getMap h1, hck, e2, Instr.keyThatStays, e1', hsb, run_setMap h1, f2, goInt]
  | none =>
    refine fin _ _ z _ kvs.length (by simp [h2]) (KvR.push h3 h2 hvk (zeroA_vr hz2)) (zeroA_vr hz2) hK ?_
    simp [Instr.mapEntry, run_und (und_map hT ht), run_getMap h1, hck, hfk, hz1, run_setMap h1, h2, goInt]
theorem findBorn {es : Array MapEntry} {n : Nat} (h : ∀ i, i < es.size → ∃ e, es[i]? = some e ∧ e.born = i) (hn : n < es.size) : es.findIdx? (fun e => (e.born : Int) == (n : Int)) = some n := by
  rw [Array.findIdx?_eq_some_iff_getElem]
  obtain ⟨e, e1, e2⟩ := h n hn
  refine ⟨hn, ?_, fun j hj => ?_⟩
  · have : es[n] = e := by rw [Array.getElem?_eq_getElem hn] at e1; exact Option.some.inj e1
    rw [this, e2]; simp
  · obtain ⟨e', f1, f2⟩ := h j (by omega)
    have : es[j] = e' := by rw [Array.getElem?_eq_getElem (by omega)] at f1; exact Option.some.inj f1
    rw [this, f2]; simp; omega
theorem DoesP.entryStore (hT : T.Ok X.P) {t id n : Nat} {x st v : Operand} {kvs : List (A × A)} (ho : o.op = .entryStore t x st v) (hd : o.dst = none) (hx : rd s.S x = .mp id) (hi : s.H id = some (.map kvs)) (hst : rd s.S st = .int (n : Int)) (hn' : n < kvs.length)
    (hK : K { s with H := updH s.H id (some (.map (kvs.set n ((kvs.getD n (.un, .un)).1, (rd s.S v).down)))) }) : DoesP X r o s K := by
  intro hdn φ Z a w hr next Q hn
  obtain ⟨dst, op, ty, pos, aft, gd⟩ := o
  simp only at ho hd
  subst ho; subst hd
  obtain ⟨b, e0, hb⟩ := inv_mp (hx ▸ hr.sees.rd x)
  obtain ⟨es, h1, h2, h3, hset⟩ := hr.setMap hi hb
  have e1 := inv_s (hst ▸ hr.sees.rd st)
  have hvv := (hr.sees.rd v).down
  have hkv : KvR φ Z w (kvs.set n ((kvs.getD n (.un, .un)).1, (rd s.S v).down)) (es.modify n fun e => { e with val := a.eval v }) := by
    intro i hi
    rw [List.length_set] at hi
    obtain ⟨e2, g1, g2, g3, g4⟩ := h3 i hi
    by_cases hij : n = i
    · subst hij
      refine ⟨{ e2 with val := a.eval v }, by simp [Array.getElem?_modify, g1], g2, ?_, ?_⟩
      · simpa [List.getD_eq_getElem?_getD, hi] using g3
      · simpa [List.getD_eq_getElem?_getD, hi] using hvv
    · refine ⟨e2, by simp [Array.getElem?_modify, g1, hij], g2, ?_, ?_⟩
      · simpa [List.getD_eq_getElem?_getD, List.getElem?_set, hij] using g3
      · simpa [List.getD_eq_getElem?_getD, List.getElem?_set, hij] using g4
  have hset' := hset _ _ (by simp [h2]) hkv
  have hfb := findBorn (es := es) (n := n) (fun i hi => by obtain ⟨e, g1, g2, _⟩ := h3 i (by omega); exact ⟨e, g1, g2⟩) (by omega)
  refine wp_skip (fun c => by simp) ?_ (hn _ Z _ _ hK hset')
  rw [ex_entryStore, Sem.run_bind, e0, e1]
  simp [Instr.entryStore, run_getMap h1, asInt, asIntOf, hfb, run_setMap h1]
end
end Go.AL

namespace Go.AL
open Go Go.RowKit
def qMv (S : Slots) (x : Operand) : Option (A × List Ob) := forceK (rd S x).down fun v => some (v, [])
def qPick (S : Slots) (c a b : Operand) : Option (A × List Ob) := match rd S c with
    | .s (.bool g) => match asB (rd S a), asB (rd S b) with
      | some (ga, x), some (gb, y) => some (.bool (cond g x y), [.of (g = true → ga = true), .of (g = false → gb = true)])
      | _, _ => match g with
        | true => forceK (rd S a).down fun v => some (v, [])
        | false => forceK (rd S b).down fun v => some (v, [])
    | _ => none
def qNot (S : Slots) (x : Operand) : Option (A × List Ob) := match rd S x with | .s (.bool b) => some (.bool (!b), []) | _ => none
def qNeg (S : Slots) (x : Operand) : Option (A × List Ob) := match rd S x with | .s (.int .i64 n) => some (.int (-n), [.of (inR (-n))]) | _ => none
def qBinB (T : Tab) (op : BinOp) (t : TypeId) (a b : Bool) : Option (A × List Ob) := match op, T.ty t with
      | .eql, .bool => some (.bool (a == b), [])
      | .neq, .bool => some (.bool (!(a == b)), [])
      | _, _ => none
def qBinN (T : Tab) (op : BinOp) (t : TypeId) (y : Operand) (nil : Bool) : Option (A × List Ob) := match y, T.ty t, op with
      | .const (.slice none 0 0), .slice _, .eql => some (.bool nil, [])
      | .const (.slice none 0 0), .slice _, .neq => some (.bool (!nil), [])
      | _, _, _ => none
def qBinC (T : Tab) (op : BinOp) (t : TypeId) (x y : Operand) (a b : A) : Option (A × List Ob) := match concA a, concA b with
      | some a, some b => match T.eqv op t x y a b with
        | some (.bool r) => some (.bool r, [])
        | _ => none
      | _, _ => none
def qBinP (T : Tab) (op : BinOp) (t : TypeId) (y : Operand) : Option (A × List Ob) := match y, T.ty t, op with
      | .const (.pointer none), .ptr _, .eql => some (.bool false, [])
      | .const (.pointer none), .ptr _, .neq => some (.bool true, [])
      | _, _, _ => none
def qBin (T : Tab) (S : Slots) (op : BinOp) (t : TypeId) (x y : Operand) : Option (A × List Ob) := match rd S x, rd S y with
    | .s (.int .i64 a), .s (.int .i64 b) => arithL op a b
    | .s (.bool a), .s (.bool b) => qBinB T op t a b
    | .sl nil _ _, _ => qBinN T op t y nil
    | .ref _ _, _ => qBinP T op t y
    | a, b => qBinC T op t x y a b
def qLoadPt (T : Tab) (t : TypeId) (cs : List A) : Option (A × List Ob) := match T.ty t with
    | .none => none
    | .arr _ _ => some (.agg (cs.take (T.sz t)), [.of (T.sz t ≤ cs.length)])
    | .struct _ => some (.agg (cs.take (T.sz t)), [.of (T.sz t ≤ cs.length)])
    | _ => forceK (cs.getD 0 .un).down fun v => some (v, [.of (0 < cs.length)])
def qLoadC (T : Tab) (t : TypeId) (off : Nat) (cs : List A) : Option (A × List Ob) := match T.ty t with
        | .none => none
        | .arr _ _ => some (.agg (((cs.drop off).take (T.sz t)).map A.down), [.of (off + T.sz t ≤ cs.length)])
        | .struct _ => some (.agg (((cs.drop off).take (T.sz t)).map A.down), [.of (off + T.sz t ≤ cs.length)])
        | _ => forceK (cs.getD off .un).down fun v => some (v, [.of (off < cs.length)])
def qLoadRef (T : Tab) (H : Hp) (t : TypeId) (id off : Nat) : Option (A × List Ob) := match H id with
      | some (.cells cs) => qLoadC T t off cs
      | _ => none
def qLoad (T : Tab) (S : Slots) (H : Hp) (t : TypeId) (x : Operand) : Option (A × List Ob) := match rd S x with
    | .pt cs => qLoadPt T t cs
    | .ref id off => qLoadRef T H t id off
    | _ => none
def qPart (T : Tab) (cs : List A) (ft off : Nat) : Option (A × List Ob) := match T.ty ft with
        | .none => none
        | .arr _ _ => some (.agg ((cs.drop off).take (T.sz ft)), [.of (off + T.sz ft ≤ cs.length)])
        | .struct _ => some (.agg ((cs.drop off).take (T.sz ft)), [.of (off + T.sz ft ≤ cs.length)])
        | _ => forceK (cs.getD off .un).down fun v => some (v, [.of (off < cs.length)])
def qField (T : Tab) (S : Slots) (st : TypeId) (x : Operand) (i : Nat) : Option (A × List Ob) := match rd S x, T.ty st with
    | .agg cs, .struct fs => match fs[i]? with
      | some (ft, off) => qPart T cs ft off
      | none => none
    | _, _ => none
def qFA (T : Tab) (ft : Nat) (v : A) : Option (A × List Ob) := match T.ty ft, T.sz ft with
        | .none, _ => none
        | _, 0 => none
        | _, _ => some (v, [])
def qFieldAddr (T : Tab) (S : Slots) (st : TypeId) (x : Operand) (i : Nat) : Option (A × List Ob) := match rd S x, T.ty st with
    | .pt cs, .struct fs => match fs[i]? with
      | some (ft, off) => qFA T ft (.pt (cs.drop off))
      | none => none
    | .ref id o, .struct fs => match fs[i]? with
      | some (ft, off) => qFA T ft (.ref id (o + off))
      | none => none
    | _, _ => none
def qIndex (T : Tab) (S : Slots) (t : TypeId) (x ix : Operand) : Option (A × List Ob) := match rd S x, rd S ix, T.ty t with
    | .agg cs, .s (.int .i64 i), .arr n e => match T.ty e with
      | .none => none
      | .arr _ _ => some (.agg ((cs.drop (i.toNat * T.sz e)).take (T.sz e)), [.of (0 ≤ i), .of (i < n), .of (i.toNat * T.sz e + T.sz e ≤ cs.length)])
      | .struct _ => some (.agg ((cs.drop (i.toNat * T.sz e)).take (T.sz e)), [.of (0 ≤ i), .of (i < n), .of (i.toNat * T.sz e + T.sz e ≤ cs.length)])
      | _ => forceK (cs.getD (i.toNat * T.sz e) .un).down fun v => some (v, [.of (0 ≤ i), .of (i < n), .of (i.toNat * T.sz e < cs.length)])
    | _, _, _ => none
def qIxSl (T : Tab) (ht : Option (List A)) (es : List (List A)) (i : Int) (e : Nat) : Option (A × List Ob) := match T.ty e with
      | .none => none
      | _ => match ht with
        | some cs => some (.pt cs, [.of (0 ≤ i), ⟨es[i.toNat]? = some cs, false, fun h => by cases h⟩, .of (cs.length = T.sz e)])
        | none => match es[i.toNat]? with
          | some cs => some (.pt cs, [.of (0 ≤ i), .of (cs.length = T.sz e)])
          | none => none
def qIxA (T : Tab) (e : Nat) (v : A) (i : Int) (n : Nat) : Option (A × List Ob) := match T.ty e with
      | .none => none
      | _ => some (v, [.of (0 ≤ i), .of (i < n)])
def qIndexAddr (T : Tab) (S : Slots) (ht : Option (List A)) (t : TypeId) (x ix : Operand) : Option (A × List Ob) := match rd S x, rd S ix, T.ty t with
    | .sl _ _ es, .s (.int .i64 i), .slice e => qIxSl T ht es i e
    | .pt cs, .s (.int .i64 i), .arr n e => qIxA T e (.pt (cs.drop (i.toNat * T.sz e))) i n
    | .ref id off, .s (.int .i64 i), .arr n e => qIxA T e (.ref id (off + i.toNat * T.sz e)) i n
    | .ms id off n, .s (.int .i64 i), .slice e => qIxA T e (.ref id (off + i.toNat * T.sz e)) i n
    | _, _, _ => none
def qLen (T : Tab) (S : Slots) (args : Array Operand) (argTypes : Array TypeId) : Option (A × List Ob) := match args.toList, argTypes.toList with
      | [x], [t] => match T.ty t, rd S x with
        | .slice _, .sl _ _ es => some (.int es.length, [])
        | .slice _, .ms _ _ n => some (.int n, [])
        | .arr n _, _ => some (.int n, [])
        | _, _ => none
      | _, _ => none
def qExtract (S : Slots) (x : Operand) (i : Nat) : Option (A × List Ob) := match rd S x with
    | .tup vs => match vs[i]? with | some v => forceK v.down fun v => some (v, []) | none => none
    | _ => none
def qBox (S : Slots) (x : Operand) : Option (A × List Ob) := match okPart (rd S x) with
    | true => some (.pt (cellsA (rd S x)), [])
    | false => none
def qCall (T : Tab) (S : Slots) (H : Hp) (ht : Option (List A)) (ty : TypeId) (c : Call) : Option (A × List Ob) := match c.callee with
    | .builtin .len => qLen T S c.args c.argTypes
    | .builtin _ => evV T S H ht (.call c) ty
    | _ => none
def evQ (T : Tab) (S : Slots) (H : Hp) (ht : Option (List A)) (op : Op) (ty : TypeId) : Option (A × List Ob) := match op with
  | .move x => qMv S x
  | .assign x => qMv S x
  | .pick c a b => qPick S c a b
  | .unOp .not _ x => qNot S x
  | .unOp .neg _ x => qNeg S x
  | .binOp op t x y _ => qBin T S op t x y
  | .load t x => qLoad T S H t x
  | .field st x i => qField T S st x i
  | .fieldAddr st x i => qFieldAddr T S st x i
  | .index t x ix => qIndex T S t x ix
  | .indexAddr t x ix => qIndexAddr T S ht t x ix
  | .extract x i => qExtract S x i
  | .makeFunc f fst cap => some (.fn f (rds S fst.toList) (rds S cap.toList), [])
  | .box _ x => qBox S x
  | .call c => qCall T S H ht ty c
  | op => evV T S H ht op ty
end Go.AL

namespace Go.AL
open Go Go.RowKit
inductive Tr where
  | lf
  | nd (l : Tr) (v : A) (r : Tr)
def Tr.get : Nat → Tr → Nat → A
  | 0, _, _ => .un
  | _ + 1, .lf, _ => .un
  | _ + 1, .nd _ v _, 0 => v
  | n + 1, .nd l _ r, t + 1 => match t % 2 with
    | 0 => Tr.get n l (t / 2)
    | _ => Tr.get n r (t / 2)
def Tr.set : Nat → Tr → Nat → A → Tr
  | 0, tr, _, _ => tr
  | _ + 1, .lf, 0, x => .nd .lf x .lf
  | _ + 1, .nd l _ r, 0, x => .nd l x r
  | n + 1, .lf, t + 1, x => match t % 2 with
    | 0 => .nd (Tr.set n .lf (t / 2) x) .un .lf
    | _ => .nd .lf .un (Tr.set n .lf (t / 2) x)
  | n + 1, .nd l v r, t + 1, x => match t % 2 with
    | 0 => .nd (Tr.set n l (t / 2) x) v r
    | _ => .nd l v (Tr.set n r (t / 2) x)
def lkH : List (Nat × B) → Nat → Option B
  | [], _ => none
  | (i, b) :: l, j => cond (Nat.beq j i) (some b) (lkH l j)
structure ES where
  S : Tr
  H : List (Nat × B)
  c : Nat
def ES.sl (e : ES) : Slots := fun t => Tr.get 10 e.S t
def ES.st (e : ES) : St := ⟨e.sl, lkH e.H, e.c⟩
def ES.put (e : ES) (d : Nat) (v : A) : ES := forceK v fun v => ⟨Tr.set 10 e.S d v, e.H, e.c⟩
def isOwn : A → Bool
  | .sl _ (.own _) _ => true
  | _ => false
theorem own_one {v : A} (h : isOwn v = true) : v.one = true := by
  unfold isOwn at h
  split at h
  · rfl
  · cases h
def feeds : List Oper → Nat → Bool
  | [], _ => false
  | o :: l, d => (match o.op with
    | .call { callee := .builtin .append, args, .. } => (match args.toList with | .tmp t :: _ => Nat.beq t d | _ => false)
    | _ => false) || feeds l d
abbrev CallF := Nat → List A → List (Nat × B) → Nat → Option (A × List (Nat × B) × Nat)
section
variable (T : Tab) (mb : Nat → Bool) (callf yf : CallF) (ops : List Oper)
end
section
variable {X : Ctx} {T : Tab} {r : Option Nat} {mb : Nat → Bool} {callf yf : CallF} {ops : List Oper} {o : Oper} {e e' : ES}
theorem DoesR.dst {K : St → Prop} (h : (∀ d, o.dst = some d → d < X.nt) → DoesR X r o e.st K) : DoesR X r o e.st K := fun hd => h hd hd
end
end Go.AL

namespace Go.AL
open Go Go.RowKit
def freeB : Nat → A → Bool
  | 0, _ => false
  | n + 1, a => match a with
    | .un => true
    | .s _ => true
    | .sl _ _ es => es.all fun cs => cs.all (freeB n)
    | .pt cs => cs.all (freeB n)
    | .fn _ fst cap => fst.all (freeB n) && cap.all (freeB n)
    | .agg cs => cs.all (freeB n)
    | .tup cs => cs.all (freeB n)
    | _ => false
theorem SCall.mono {P : Program} {f : FuncId} {args : List A} {H : Hp} {c : Nat} {post post' : A → Hp → Nat → Prop} (h : SCall P f args H c post) (hp : ∀ v H' c', post v H' c' → post' v H' c') : SCall P f args H c post' := by
  intro φ Z w vs h1 h2
  refine (h φ Z w vs h1 h2).mono ?_
  rintro e w' ⟨u, v, H', c', φ', Z', k1, k2, k3⟩
  exact ⟨u, v, H', c', φ', Z', k1, hp _ _ _ k2, k3⟩
section
variable (T : Tab) (mb : Nat → Bool) (callf : CallF)
def effV (H : Hp) (hr : List Nat) (o : Oper) (d : Nat) (e : ES) : Option (Eff × List Nat) := match evQ T e.sl H none o.op o.type with
  | some (v, obs) => match allChk obs with
    | true => forceK v fun v => some (⟨[(d, v)], []⟩, hr)
    | false => none
  | none => none
def stepD (nm : Nat) (o : Oper) (e : ES) : Option (Eff × List Nat) := match o.op, o.dst with
  | .alloc t, some d => match T.ty t with
    | .none => none
    | _ => some (⟨[(d, .ref nm 0)], [(nm, .cells ((T.zr t).map A.down))]⟩, [])
  | .box t x, some d => match mb d with
    | true => match okPart (rd e.sl x) with
      | true => some (⟨[(d, .ref nm 0)], [(nm, .cells ((cellsA (rd e.sl x)).map A.down))]⟩, [])
      | false => none
    | false => effV T (fun _ => none) [] o d e
  | .store t x v, none => match rd e.sl x with
    | .ref id off => match lkH e.H id, T.ty t with
      | _, .none => none
      | some (.cells cs), _ => match okPart (rd e.sl v), Nat.beq (cellsA (rd e.sl v)).length (T.sz t), Nat.ble (off + T.sz t) cs.length with
          | true, true, true => some (⟨[], [(id, .cells (setSeg cs off ((cellsA (rd e.sl v)).map A.down)))]⟩, [id])
          | _, _, _ => none
      | _, _ => none
    | _ => none
  | .assign (.tmp t), some d => match isOwn (e.sl t) && !Nat.beq t d with
    | true => some (⟨[(t, (e.sl t).down), (d, e.sl t)], []⟩, [])
    | false => effV T (fun _ => none) [] o d e
  | .load t x, some d => match rd e.sl x with
    | .ref id off => effV T (fun j => cond (Nat.beq j id) (lkH e.H id) none) [id] o d e
    | _ => effV T (fun _ => none) [] o d e
  | .call { callee := .value f, args, argTypes }, some d => match rd e.sl f with
    | .fn (.func g) fst cap => match callf g (fst ++ rds e.sl args.toList ++ cap) [] 0 with
      | some (v, _, _) => match (fst ++ rds e.sl args.toList ++ cap).all (freeB 20) && freeB 20 v with
        | true => some (⟨[(d, v)], []⟩, [])
        | false => none
      | none => none
    | _ => none
  | .call { callee := .builtin .append, args, argTypes }, some d => match args.toList, argTypes.toList with
    | [.tmp tx, y], [t, t'] => match e.sl tx, rd e.sl y, T.ty t with
      | .sl false (.own el) es, .sl _ _ ys, .slice el' => match decide (t = t' ∧ el = el' ∧ T.ty el ≠ .none ∧ 0 < T.sz el ∧ tx ≠ d ∧ (∀ z ∈ ys, z.length = T.sz el) ∧ (∀ z ∈ es, z.length = T.sz el) ∧ (es.length + ys.length) * T.by' el ≤ 140737488355328 ∧ es.length + ys.length ≤ maxLen) with
        | true => some (⟨[(tx, (e.sl tx).down), (d, .sl false (.own el) (es ++ ys))], []⟩, [])
        | false => none
      | _, _, _ => effV T (fun _ => none) [] o d e
    | _, _ => effV T (fun _ => none) [] o d e
  | .lookup t x k ok, some d => match T.ty t, rd e.sl x with
    | .map kt et, .mp id => match lkH e.H id, concA (rd e.sl k) with
      | some (.map kvs), some kv => match concKeys kvs with
        | some ks => match T.ty et, T.ck ks.isEmpty kt kv, T.fix kt kv ks with
          | .none, _, _ => none
          | _, true, some j => some (⟨[(d, cond ok (.tup [lkA T et kvs j, .bool j.isSome]) (lkA T et kvs j))], []⟩, [id])
          | _, _, _ => none
        | none => none
      | _, _ => none
    | _, _ => none
  | _, some d => effV T (fun _ => none) [] o d e
  | _, none => none
def dAlloc (nm : Nat) (t : TypeId) (d : Nat) : Option (Eff × List Nat) := match T.ty t with
    | .none => none
    | _ => some (⟨[(d, .ref nm 0)], [(nm, .cells ((T.zr t).map A.down))]⟩, [])
def dBox (nm : Nat) (o : Oper) (x : Operand) (d : Nat) (e : ES) : Option (Eff × List Nat) := match mb d with
    | true => match okPart (rd e.sl x) with
      | true => some (⟨[(d, .ref nm 0)], [(nm, .cells ((cellsA (rd e.sl x)).map A.down))]⟩, [])
      | false => none
    | false => effV T (fun _ => none) [] o d e
def dStore (t : TypeId) (x v : Operand) (e : ES) : Option (Eff × List Nat) := match rd e.sl x with
    | .ref id off => match lkH e.H id, T.ty t with
      | _, .none => none
      | some (.cells cs), _ => match okPart (rd e.sl v), Nat.beq (cellsA (rd e.sl v)).length (T.sz t), Nat.ble (off + T.sz t) cs.length with
          | true, true, true => some (⟨[], [(id, .cells (setSeg cs off ((cellsA (rd e.sl v)).map A.down)))]⟩, [id])
          | _, _, _ => none
      | _, _ => none
    | _ => none
def dAssign (o : Oper) (t d : Nat) (e : ES) : Option (Eff × List Nat) := match isOwn (e.sl t) && !Nat.beq t d with
    | true => some (⟨[(t, (e.sl t).down), (d, e.sl t)], []⟩, [])
    | false => effV T (fun _ => none) [] o d e
def dLoad (o : Oper) (x : Operand) (d : Nat) (e : ES) : Option (Eff × List Nat) := match rd e.sl x with
    | .ref id off => effV T (fun j => cond (Nat.beq j id) (lkH e.H id) none) [id] o d e
    | _ => effV T (fun _ => none) [] o d e
def dCall (f : Operand) (args : Array Operand) (d : Nat) (e : ES) : Option (Eff × List Nat) := match rd e.sl f with
    | .fn (.func g) fst cap => match callf g (fst ++ rds e.sl args.toList ++ cap) [] 0 with
      | some (v, _, _) => match (fst ++ rds e.sl args.toList ++ cap).all (freeB 20) && freeB 20 v with
        | true => some (⟨[(d, v)], []⟩, [])
        | false => none
      | none => none
    | _ => none
def dOn (dst : Option Nat) (k : Nat → Option (Eff × List Nat)) : Option (Eff × List Nat) := match dst with | some d => k d | none => none
def stepE (nm : Nat) (o : Oper) (e : ES) : Option (Eff × List Nat) := match o.op with
  | .alloc t => dOn o.dst fun d => dAlloc T nm t d
  | .box _ x => dOn o.dst fun d => dBox T mb nm o x d e
  | .store t x v => match o.dst with
    | none => dStore T t x v e
    | some _ => stepD T mb callf nm o e
  | .move _ => dOn o.dst fun d => effV T (fun _ => none) [] o d e
  | .assign x => match x with
    | .tmp t => dOn o.dst fun d => dAssign T o t d e
    | _ => dOn o.dst fun d => effV T (fun _ => none) [] o d e
  | .load _ x => dOn o.dst fun d => dLoad T o x d e
  | .call c => match c.callee with
    | .value f => match o.dst with
      | some d => dCall callf f c.args d e
      | none => none
    | _ => stepD T mb callf nm o e
  | .pick .. => dOn o.dst fun d => effV T (fun _ => none) [] o d e
  | .binOp .. => dOn o.dst fun d => effV T (fun _ => none) [] o d e
  | .unOp .. => dOn o.dst fun d => effV T (fun _ => none) [] o d e
  | .field .. => dOn o.dst fun d => effV T (fun _ => none) [] o d e
  | .fieldAddr .. => dOn o.dst fun d => effV T (fun _ => none) [] o d e
  | .index .. => dOn o.dst fun d => effV T (fun _ => none) [] o d e
  | .indexAddr .. => dOn o.dst fun d => effV T (fun _ => none) [] o d e
  | .extract .. => dOn o.dst fun d => effV T (fun _ => none) [] o d e
  | .makeFunc .. => dOn o.dst fun d => effV T (fun _ => none) [] o d e
  | .build .. => dOn o.dst fun d => effV T (fun _ => none) [] o d e
  | _ => stepD T mb callf nm o e
def guardTmps (all : Array Oper) (o : Oper) : List Nat := match o.guard with
  | some (j, _) => match (all[j]?).bind (·.dst) with
    | some t => [t]
    | none => []
  | none => []
def stepG (all : Array Oper) (nm : Nat) (o : Oper) (e : ES) : Option (Eff × List Nat) := match o.guard with
  | none => stepE T mb callf nm o e
  | some (j, want) => match (all[j]?).bind (·.dst) with
    | some t => match e.sl t with
      | .s (.bool g) => match gq g want with
        | true => stepE T mb callf nm o e
        | false => match o.dst with
          | some d => some (⟨[(d, .un)], []⟩, [])
          | none => some (⟨[], []⟩, [])
      | _ => none
    | none => none
end
def rst (all : Array Oper) (o : Oper) : List Nat := opTmps o.op ++ guardTmps all o
section
variable {X : Ctx} {T : Tab} {r : Option Nat} {mb : Nat → Bool} {callf : CallF} {o : Oper} {e : ES} {all : Array Oper}
def FireR (X : Ctx) (r : Option Nat) (o : Oper) (rs hrs : List Nat) (S0 : Slots) (H0 : Hp) (f : Eff) (nm : Nat) : Prop :=
  (∀ d, o.dst = some d → d < X.nt) → ∀ S' H' c' φ Z a w, Rel X φ Z ⟨S', H', c'⟩ a w → (∀ t, t ∈ rs → S' t = S0 t) → (∀ id, id ∈ hrs → H' id = H0 id) → φ nm = none → nm < c' → ∀ next Q,
    (∀ φ' Z' a' w', (∀ k, k ≠ nm → φ' k = φ k) → Rel X φ' Z' ⟨apS S' f.ws, apH H' f.hs, c'⟩ a' w' → next a' w') → o.wpIn (fenceR r) 0 X.P a w next Q
theorem FireR.of_P {rs hrs : List Nat} {S0 : Slots} {H0 : Hp} {f : Eff} {nm : Nat} (h : ∀ S' H' c', (∀ t, t ∈ rs → S' t = S0 t) → (∀ id, id ∈ hrs → H' id = H0 id) → DoesP X r o ⟨S', H', c'⟩ (fun s => s = ⟨apS S' f.ws, apH H' f.hs, c'⟩)) :
    FireR X r o rs hrs S0 H0 f nm := fun hd S' H' c' φ Z a w hr h1 h2 _ _ next Q hn =>
  h S' H' c' h1 h2 hd φ Z a w hr next Q fun s' Z' a' w' hs hr' => hn φ Z' a' w' (fun _ _ => rfl) (by subst hs; exact hr')
theorem tmp_mem {op : Op} {x : Operand} {S S' : Slots} (hx : x ∈ op.operands.toList) (h : ∀ t, t ∈ opTmps op → S' t = S t) : rd S' x = rd S x :=
  rd_congr fun t e => h t (mem_opTmps (e ▸ hx))
end
end Go.AL

namespace Go.AL
open Go Go.RowKit
def wst (o : Oper) : List Nat := o.dst.toList ++ (match o.op with
  | .assign (.tmp t) => [t]
  | .call { callee := .builtin .append, args, .. } => (match args.toList with | .tmp t :: _ => [t] | _ => [])
  | _ => [])
section
variable (T : Tab) (mb : Nat → Bool) (callf : CallF) (all : Array Oper) (c0 : Nat)
end
def disj (a b : List Nat) : Bool := a.all fun x => !b.any fun y => Nat.beq x y
theorem disj_ok {a b : List Nat} (h : disj a b = true) : ∀ t, t ∈ a → t ∉ b := fun t ht hb => by
  have := List.all_eq_true.1 h t ht
  rw [Bool.not_eq_true', List.any_eq_false] at this
  exact this t hb (by simp)
def apAll (S : Slots) (l : List Eff) : Slots := l.foldl (fun S f => apS S f.ws) S
def apAllH (H : Hp) (l : List Eff) : Hp := l.foldl (fun S f => apH S f.hs) H
theorem LS_prefix : ∀ (l : List Eff) (i k : Nat) (S : Slots), LS (fun j => Nat.blt j (i + k)) l i S = apAll S (l.take k)
  | [], i, k, S => by simp [LS, apAll]
  | f :: l, i, 0, S => by
    funext t
    exact LS_none (L := fun j => Nat.blt j (i + 0)) fun k f' _ _ => blt_no (by omega)
  | f :: l, i, k + 1, S => by
    have := LS_prefix l (i + 1) k (apS S f.ws)
    rw [LS, blt_of (by omega), cond_true]
    rw [show i + 1 + k = i + (k + 1) by omega] at this
    rw [this]; rfl
theorem LH_prefix : ∀ (l : List Eff) (i k : Nat) (S : Hp), LH (fun j => Nat.blt j (i + k)) l i S = apAllH S (l.take k)
  | [], i, k, S => by simp [LH, apAllH]
  | f :: l, i, 0, S => by
    funext t
    exact LH_none (L := fun j => Nat.blt j (i + 0)) fun k f' _ _ => blt_no (by omega)
  | f :: l, i, k + 1, S => by
    have := LH_prefix l (i + 1) k (apH S f.hs)
    rw [LH, blt_of (by omega), cond_true]
    rw [show i + 1 + k = i + (k + 1) by omega] at this
    rw [this]; rfl
section
variable {X : Ctx} {T : Tab} {r : Option Nat} {mb : Nat → Bool} {callf : CallF} {all : Array Oper}
end
section
variable (T : Tab) (mb : Nat → Bool) (callf yf : CallF)
end
section
variable {X : Ctx} {T : Tab} {r : Option Nat} {mb : Nat → Bool} {callf yf : CallF}
end
end Go.AL

namespace Go.AL
open Go Go.RowKit
inductive Under (n : Nat) : A → Prop
  | un : Under n .un
  | s (v : Value) : Under n (.s v)
  | sl (nil : Bool) (cap : Cap) (es : List (List A)) (h : ∀ e ∈ es, ∀ x ∈ e, Under n x) : Under n (.sl nil cap es)
  | pt (cs : List A) (h : ∀ x ∈ cs, Under n x) : Under n (.pt cs)
  | fn (f : Fn) (fst cap : List A) (h1 : ∀ x ∈ fst, Under n x) (h2 : ∀ x ∈ cap, Under n x) : Under n (.fn f fst cap)
  | ref (id off : Nat) (h : id < n) : Under n (.ref id off)
  | ms (id off k : Nat) (h : id < n) : Under n (.ms id off k)
  | gs (id k cap : Nat) (h : id < n) : Under n (.gs id k cap)
  | mp (id : Nat) (h : id < n) : Under n (.mp id)
  | yl (id : Nat) (h : id < n) : Under n (.yl id)
  | agg (cs : List A) (h : ∀ x ∈ cs, Under n x) : Under n (.agg cs)
  | tup (cs : List A) (h : ∀ x ∈ cs, Under n x) : Under n (.tup cs)
  | cnd (g : Bool) (a : A) (h : Under n a) : Under n (.cnd g a)
theorem Free.under {n : Nat} {a : A} (h : Free a) : Under n a := by
  induction h with
  | un => exact .un
  | s v => exact .s v
  | sl nil cap es _ ih => exact .sl _ _ _ ih
  | pt cs _ ih => exact .pt _ ih
  | fn f fst cap _ _ ih1 ih2 => exact .fn _ _ _ ih1 ih2
  | agg cs _ ih => exact .agg _ ih
  | tup cs _ ih => exact .tup _ ih
  | cnd g a _ ih => exact .cnd _ _ ih
theorem Under.mono {n m : Nat} {a : A} (h : Under n a) (hm : n ≤ m) : Under m a := by
  induction h with
  | un => exact .un
  | s v => exact .s v
  | sl nil cap es _ ih => exact .sl _ _ _ ih
  | pt cs _ ih => exact .pt _ ih
  | fn f fst cap _ _ ih1 ih2 => exact .fn _ _ _ ih1 ih2
  | ref id off h => exact .ref _ _ (by omega)
  | ms id off k h => exact .ms _ _ _ (by omega)
  | gs id k cap h => exact .gs _ _ _ (by omega)
  | mp id h => exact .mp _ (by omega)
  | yl id h => exact .yl _ (by omega)
  | agg cs _ ih => exact .agg _ ih
  | tup cs _ ih => exact .tup _ ih
  | cnd g a _ ih => exact .cnd _ _ ih
theorem Under.down {n : Nat} {a : A} (h : Under n a) : Under n a.down := by
  cases h with
  | sl nil cap es h => cases cap <;> exact .sl _ _ _ h
  | un => exact .un
  | s v => exact .s v
  | pt cs h => exact .pt _ h
  | fn f fst cap h1 h2 => exact .fn _ _ _ h1 h2
  | ref id off h => exact .ref _ _ h
  | ms id off k h => exact .ms _ _ _ h
  | gs id k cap h => exact .gs _ _ _ h
  | mp id h => exact .mp _ h
  | yl id h => exact .yl _ h
  | agg cs h => exact .agg _ h
  | tup cs h => exact .tup _ h
  | cnd g a h => exact .cnd _ _ h
theorem VR.under {φ φ' : Names} {Z : Still} {w : World} {n : Nat} {a : A} {v : Value} (h : VR φ Z w a v) (hu : Under n a) (hφ : ∀ id b, id < n → φ id = some b → φ' id = some b) : VR φ' Z w a v := by
  induction h with
  | un v => exact .un v
  | s v => exact .s v
  | nil cap => exact .nil cap
  | slz cap a => exact .slz cap a
  | sl cap es b off sz c val hc hx hm hs hz hv ho _ ih =>
    cases hu with
    | sl _ _ _ hu => exact .sl cap es b off sz c val hc hx hm hs hz hv ho fun i j hi hj => ih i j hi hj (by
        have h1 : es.getD i [] = es[i] := by simp [List.getD_eq_getElem?_getD, hi]
        have h2 : es[i].length = sz := hs _ (List.getElem_mem hi)
        rw [h1]
        exact hu _ (List.getElem_mem hi) _ (mem_getD (by omega)))
  | pt cs b off val hz hv ho _ ih => cases hu with | pt _ hu => exact .pt cs b off val hz hv ho fun j hj => ih j hj (hu _ (mem_getD hj))
  | fn f fst cap fv cv h1 h2 _ _ ih1 ih2 => cases hu with | fn _ _ _ u1 u2 => exact .fn f fst cap fv cv h1 h2 (fun i hi => ih1 i hi (u1 _ (mem_getD hi))) (fun i hi => ih2 i hi (u2 _ (mem_getD hi)))
  | ref id off b h => cases hu with | ref _ _ hu => exact .ref id off b (hφ _ _ hu h)
  | ms id off k b c h hc hm => cases hu with | ms _ _ _ hu => exact .ms id off k b c (hφ _ _ hu h) hc hm
  | gs id k cap b h hc hm => cases hu with | gs _ _ _ hu => exact .gs id k cap b (hφ _ _ hu h) hc hm
  | mp id b h => cases hu with | mp _ hu => exact .mp id b (hφ _ _ hu h)
  | yl id b h => cases hu with | yl _ hu => exact .yl id b (hφ _ _ hu h)
  | agg cs vs h ho _ ih => cases hu with | agg _ hu => exact .agg cs vs h ho fun i hi => ih i hi (hu _ (mem_getD hi))
  | tup cs vs h _ ih => cases hu with | tup _ hu => exact .tup cs vs h fun i hi => ih i hi (hu _ (mem_getD hi))
  | cnd g a v h1 h0 ih => cases hu with | cnd _ _ hu => exact .cnd g a v (fun hg => ih hg hu) h0
inductive UnderB (n : Nat) : B → Prop
  | cells (cs : List A) (h : ∀ x ∈ cs, Under n x) : UnderB n (.cells cs)
  | map (kvs : List (A × A)) (h : ∀ p ∈ kvs, Under n p.1 ∧ Under n p.2) : UnderB n (.map kvs)
  | lp (st : LoopState) (pend : Option Code) (S : Nat → A) (nt : Nat) (ps : Array Tmp) (asg body : Code) (h : ∀ t, Under n (S t)) : UnderB n (.lp st pend S nt ps asg body)
theorem BR.under {φ φ' : Names} {Z : Still} {w : World} {n b : Nat} {bx : B} (h : BR φ Z w b bx) (hu : UnderB n bx) (hφ : ∀ id b, id < n → φ id = some b → φ' id = some b) : BR φ' Z w b bx := by
  cases hu with
  | cells cs hu =>
    obtain ⟨c, T, h1, h2, h3⟩ := h
    exact ⟨c, T, h1, h2, fun j hj => ⟨(h3 j hj).1.under (hu _ (mem_getD hj)) hφ, (h3 j hj).2⟩⟩
  | map kvs hu =>
    obtain ⟨es, h1, h2, h3⟩ := h
    refine ⟨es, h1, h2, fun i hi => ?_⟩
    obtain ⟨e, e1, e2, e3, e4⟩ := h3 i hi
    have hm : kvs.getD i (.un, .un) ∈ kvs := by simp [List.getD_eq_getElem?_getD, hi]
    exact ⟨e, e1, e2, e3.under (hu _ hm).1 hφ, e4.under (hu _ hm).2 hφ⟩
  | lp st pend S nt ps asg body hu =>
    obtain ⟨fn, tmps, d, h1, h2, h3⟩ := h
    exact ⟨fn, tmps, d, h1, h2, fun t => (h3 t).under (hu t) hφ⟩
section
variable {X : Ctx} {φ : Names} {Z : Still} {s : St} {a : Act} {w : World}
def cutN (n : Nat) (φ : Names) : Names := fun id => if id < n then φ id else none
theorem cutN_up {n : Nat} {φ : Names} {id b : Nat} (h : cutN n φ id = some b) : φ id = some b ∧ id < n := by
  unfold cutN at h; split at h
  · exact ⟨h, by assumption⟩
  · cases h
theorem Rel.forget (h : Rel X φ Z s a w) {n : Nat} (h0 : ∀ id, n ≤ id → X.φ0 id = none) (hc : n ≤ s.c) (hS : ∀ t, Under n (s.S t)) (hH : ∀ id bx, s.H id = some bx → id < n ∧ UnderB n bx) :
    Rel X (cutN n φ) Z { s with c := n } a w := by
  have up : ∀ id b, id < n → φ id = some b → cutN n φ id = some b := fun id b hi hb => by unfold cutN; rw [if_pos hi]; exact hb
  have some_lt : ∀ id, (s.H id).isSome = true → id < n := fun id hi => by
    obtain ⟨bx, hbx⟩ := Option.isSome_iff_exists.1 hi; exact (hH id bx hbx).1
  have con : ∀ l p, spareOf (absAt s l) (conAt (cutN n φ) a w l) = some p → conAt (cutN n φ) a w l = conAt φ a w l := fun l p hl => by
    cases l with
    | slot t => rfl
    | box id j =>
      have hi : (s.H id).isSome = true := by
        cases e : s.H id with
        | none => simp [absAt, e, spareOf] at hl
        | some bx => rfl
      have := some_lt id hi
      simp only [conAt]
      have e : cutN n φ id = φ id := by unfold cutN; rw [if_pos this]
      rw [e]
  exact { h with
    slots := fun t => (h.slots t).under (hS t) up
    boxes := fun id bx hb => by
      obtain ⟨b, h1, h2⟩ := h.boxes id bx hb
      exact ⟨b, up _ _ (hH id bx hb).1 h1, h2.under (hH id bx hb).2 up⟩
    inj := fun id id' b hi hi' h1 h2 => h.inj id id' b hi hi' (cutN_up h1).1 (cutN_up h2).1
    zbox := fun b o id hz hi hb => h.zbox b o id hz hi (cutN_up hb).1
    own1 := fun l b e hl => by
      have hcn := con l _ hl
      have hl' : spareOf (absAt s l) (conAt φ a w l) = some (b, e) := by rw [← hcn]; exact hl
      obtain ⟨k0, k⟩ := h.own1 l b e hl'
      rw [hcn]
      exact ⟨fun id hi hb => k0 id hi (cutN_up hb).1, k⟩
    own2 := fun l l' b e e' hl hl' => by
      have h1 := con l _ hl
      have h2 := con l' _ hl'
      exact h.own2 l l' b e e' (by rw [← h1]; exact hl) (by rw [← h2]; exact hl')
    mut1 := fun id b hi hb => h.mut1 id b hi (cutN_up hb).1
    mut2 := fun l b e hl => by
      have h1 := con l _ hl
      exact h.mut2 l b e (by rw [← h1]; exact hl)
    names := fun id b hb => by
      by_cases hi : id < n
      · exact up id b hi (h.names id b hb)
      · rw [h0 id (by omega)] at hb; cases hb
    fresh := fun id hi => by
      have hi : n ≤ id := hi
      unfold cutN; rw [if_neg (by omega)]
    defs := fun d hd => by
      obtain ⟨r, h1, h2, h3, h4⟩ := h.defs d hd
      exact ⟨r, h1, h2, h3, fun id hi hb => h4 id hi (cutN_up hb).1⟩ }
end
section
variable {X : Ctx} {r : Option Nat} {s : St} {Q : Exit → St → Prop}
theorem Aw.forget {x : Code} {n : Nat} (h0 : ∀ id, n ≤ id → X.φ0 id = none) (hc : n ≤ s.c) (hS : ∀ t, Under n (s.S t)) (hH : ∀ id bx, s.H id = some bx → id < n ∧ UnderB n bx) (h : Aw X r x Q { s with c := n }) : Aw X r x Q s :=
  fun φ Z a w hr => h _ Z a w (hr.forget h0 hc hS hH)
def ofH : List (Nat × B) → Hp
  | [] => fun _ => none
  | (i, b) :: l => updH (ofH l) i (some b)
def HasH (H : Hp) : List (Nat × B) → Prop
  | [] => True
  | (i, b) :: l => H i = some b ∧ HasH H l
theorem HasH.ofH {H : Hp} : ∀ {l : List (Nat × B)}, HasH H l → ∀ id bx, ofH l id = some bx → H id = some bx
  | [], _, id, bx, h => by cases h
  | (i, b) :: l, hh, id, bx, h => by
    simp only [AL.ofH, updH_apply] at h
    split at h
    · rename_i e; subst e; cases h; exact hh.1
    · exact HasH.ofH hh.2 id bx h
def UnderL (n : Nat) : List (Nat × A) → Prop
  | [] => True
  | (_, v) :: l => Under n v ∧ UnderL n l
def UnderH (n : Nat) : List (Nat × B) → Prop
  | [] => True
  | (i, b) :: l => (i < n ∧ UnderB n b) ∧ UnderH n l
theorem UnderH.ofH {n : Nat} : ∀ {l : List (Nat × B)}, UnderH n l → ∀ id bx, ofH l id = some bx → id < n ∧ UnderB n bx
  | [], _, id, bx, h => by cases h
  | (i, b) :: l, hh, id, bx, h => by
    simp only [AL.ofH, updH_apply] at h
    split at h
    · rename_i e; subst e; cases h; exact hh.1
    · exact UnderH.ofH hh.2 id bx h
def ofL2 (cst v : List (Nat × A)) : Slots := ofL (v ++ cst)
theorem ofL2_under {n : Nat} : ∀ {l : List (Nat × A)}, UnderL n l → ∀ t, Under n (ofL l t)
  | [], _, t => .un
  | (i, x) :: l, h, t => by
    simp only [ofL, upd_apply]
    split
    · exact h.1
    · exact ofL2_under h.2 t
def AllLe (S : Slots) : List (Nat × A) → Prop
  | [] => True
  | (t, v) :: l => A.Le v (S t) ∧ AllLe S l
theorem AllLe.le {S : Slots} : ∀ {l : List (Nat × A)}, AllLe S l → ∀ t, A.Le (ofL l t) (S t)
  | [], _, t => .un _
  | (t', v) :: l, h, t => by
    simp only [ofL, upd_apply]
    split
    · rename_i e; subst e; exact h.1
    · exact AllLe.le h.2 t
theorem AllLe.app {S : Slots} : ∀ {l k : List (Nat × A)}, AllLe S l → AllLe S k → AllLe S (l ++ k)
  | [], k, _, h => h
  | (t, v) :: l, k, h, h' => ⟨h.1, AllLe.app h.2 h'⟩
theorem A.Le.of_eq {x y : A} (h : x = y) : A.Le x y := h ▸ .refl _
theorem A.Le.any (n : Bool) (c : Cap) (es : List (List A)) : A.Le (.sl n .any es) (.sl n c es) :=
  ⟨fun φ Z w v h => by
    cases h with
    | nil => exact .nil _
    | slz _ a => exact .slz _ a
    | sl _ _ b off sz c val hc hx hm hs hz hv ho hr => exact .sl .any es b off sz c val hc (fun h => by cases h) hm hs hz hv ho hr, fun v p h => by simp [spareOf] at h⟩
theorem UnderL.app {n : Nat} : ∀ {l k : List (Nat × A)}, UnderL n l → UnderL n k → UnderL n (l ++ k)
  | [], k, _, h => h
  | (t, v) :: l, k, h, h' => ⟨h.1, UnderL.app h.2 h'⟩
structure Keep (n : Nat) (cst v : List (Nat × A)) (Hl : List (Nat × B)) (s : St) : Prop where
  cst : AllLe s.S cst
  var : AllLe s.S v
  hp : HasH s.H Hl
  c : n ≤ s.c
theorem Aw.keep {x : Code} {n : Nat} {cst v : List (Nat × A)} {Hl : List (Nat × B)} (h0 : ∀ id, n ≤ id → X.φ0 id = none) (uc : UnderL n cst) (uv : UnderL n v) (uh : UnderH n Hl) (hk : Keep n cst v Hl s)
    (h : Aw X r x Q ⟨ofL2 cst v, ofH Hl, n⟩) : Aw X r x Q s := by
  refine Aw.weaken (S' := ofL2 cst v) (H' := ofH Hl) (c' := s.c) (AllLe.app hk.var hk.cst).le (fun id bx hb => ⟨bx, hk.hp.ofH id bx hb, .refl _⟩) (Nat.le_refl _) ?_
  exact Aw.forget h0 hk.c (ofL2_under (uv.app uc)) uh.ofH h
theorem Aw.join1 {x y : Code} (n : Nat) (h0 : ∀ id, n ≤ id → X.φ0 id = none) (cst : List (Nat × A)) (v : List (Nat × A)) (Hl : List (Nat × B))
    (uc : UnderL n cst) (uv : UnderL n v) (uh : UnderH n Hl)
    (h1 : Aw X r x (thenQ (Keep n cst v Hl) Q) s) (h2 : Aw X r y Q ⟨ofL2 cst v, ofH Hl, n⟩) : Aw X r (.seq x y) Q s :=
  Aw.cut _ h1 fun _ hk => Aw.keep h0 uc uv uh hk h2
theorem Aw.rounds {ι : Type} {x : Code} (n : Nat) (h0 : ∀ id, n ≤ id → X.φ0 id = none) (cst : List (Nat × A)) (v : ι → List (Nat × A)) (Hl : ι → List (Nat × B)) (G : ι → Prop) (μ : ι → Nat) (i0 : ι)
    (hG : G i0) (hk : Keep n cst (v i0) (Hl i0) s) (uc : UnderL n cst) (uv : ∀ i, G i → UnderL n (v i)) (uh : ∀ i, G i → UnderH n (Hl i))
    (round : ∀ i, G i → Aw X r x (thenQ (fun s' => ∃ j, G j ∧ μ j < μ i ∧ Keep n cst (v j) (Hl j) s') Q) ⟨ofL2 cst (v i), ofH (Hl i), n⟩) : Aw X r (.loop x) Q s := by
  refine Aw.loop (fun s m => ∃ i, G i ∧ m = μ i ∧ Keep n cst (v i) (Hl i) s) (μ i0) ⟨i0, hG, rfl, hk⟩ ?_
  rintro s m ⟨i, hg, rfl, hk⟩
  refine Aw.keep h0 uc (uv i hg) (uh i hg) hk ((round i hg).mono fun e s' h => ?_)
  cases e with
  | normal => obtain ⟨j, h1, h2, h3⟩ := h; exact ⟨μ j, h2, j, h1, rfl, h3⟩
  | _ => exact h
end
theorem blockQ_here {id : Nat} {Q : Exit → St → Prop} {s : St} (h : Q .normal s) : blockQ id Q (.exit id) s := by
  show (if id = id then _ else _)
  rw [if_pos rfl]; exact h
theorem thenE {K : St → Prop} {Q : Exit → St → Prop} {i : Nat} {s : St} (h : Q (.exit i) s) : thenQ K Q (.exit i) s := h
theorem blkE {Q : Exit → St → Prop} {i : Nat} {s : St} (h : Q .normal s) : blockQ i Q (.exit i) s := blockQ_here h
theorem blkN {Q : Exit → St → Prop} {i j : Nat} {s : St} (hij : Nat.beq i j = false) (h : Q (.exit i) s) : blockQ j Q (.exit i) s := by
  show (if i = j then _ else _)
  rw [if_neg (fun e => by subst e; simp at hij)]; exact h
theorem Aw.exit2 {X : Ctx} {r : Option Nat} {s : St} {id : Nat} {K K' : St → Prop} {Q : Exit → St → Prop} (h : Q .normal s) : Aw X r (.exit id) (thenQ K (thenQ K' (blockQ id Q))) s := Aw.exit (blockQ_here h)
theorem Aw.skip1 {X : Ctx} {r : Option Nat} {s : St} {y : Code} {Q Q' : Exit → St → Prop} (h : Aw X r y Q s) : Aw X r .skip (thenQ (Aw X r y Q) Q') s := Aw.skip h
theorem Pure.of {P : Program} {T : Tab} (hT : T.Ok P) {f nt : Nat} {fn : Func} {c : Code} {args : List A} {v : A}
    (hf : P.funcs[f]? = some fn) (hb : fn.body = some c) (hnt : fn.ntmps = nt) (hn : Nat.ble args.length nt = true) (hfree : ∀ x ∈ args, Free x) (hd : ∀ v ∈ args, ∀ u, spareOf v u = none) (hv : Free v)
    (h : ∀ E : En, (∀ id, 0 ≤ id → E.φ0 id = none) → Aw (E.cx P nt) none c (retQ P T fn.results.toList fun v' _ _ => v' = v) ⟨initS args, fun _ => none, 0⟩) : Pure P f args v :=
  Pure.of_scall hfree (SCall.of_bodyN hT hf hb hnt (Nat.le_of_ble_eq_true hn) hd h) hv
theorem Pure.le {P : Program} {f : FuncId} {args args' : List A} {v : A} (h : Pure P f args v) (hl : args.length = args'.length) (ha : ∀ i, i < args.length → A.Le (args.getD i .un) (args'.getD i .un)) : Pure P f args' v :=
  fun φ Z w vs hz hv => h φ Z w vs hz ⟨hv.1.trans hl.symm, fun i hi => (ha i hi).vr _ _ _ _ (hv.2 i (hl ▸ hi))⟩
end Go.AL

namespace Go.AL
open Go Go.RowKit
inductive Nms (D : Nat → Prop) : A → Prop
  | un : Nms D .un
  | s (v : Value) : Nms D (.s v)
  | sl (nil : Bool) (cap : Cap) (es : List (List A)) (h : ∀ e ∈ es, ∀ x ∈ e, Nms D x) : Nms D (.sl nil cap es)
  | pt (cs : List A) (h : ∀ x ∈ cs, Nms D x) : Nms D (.pt cs)
  | fn (f : Fn) (fst cap : List A) (h1 : ∀ x ∈ fst, Nms D x) (h2 : ∀ x ∈ cap, Nms D x) : Nms D (.fn f fst cap)
  | ref (id off : Nat) (h : D id) : Nms D (.ref id off)
  | ms (id off k : Nat) (h : D id) : Nms D (.ms id off k)
  | gs (id k cap : Nat) (h : D id) : Nms D (.gs id k cap)
  | mp (id : Nat) (h : D id) : Nms D (.mp id)
  | yl (id : Nat) (h : D id) : Nms D (.yl id)
  | agg (cs : List A) (h : ∀ x ∈ cs, Nms D x) : Nms D (.agg cs)
  | tup (cs : List A) (h : ∀ x ∈ cs, Nms D x) : Nms D (.tup cs)
  | cnd (g : Bool) (a : A) (h : Nms D a) : Nms D (.cnd g a)
theorem Free.nms {D : Nat → Prop} {a : A} (h : Free a) : Nms D a := by
  induction h with
  | un => exact .un
  | s v => exact .s v
  | sl nil cap es _ ih => exact .sl _ _ _ ih
  | pt cs _ ih => exact .pt _ ih
  | fn f fst cap _ _ ih1 ih2 => exact .fn _ _ _ ih1 ih2
  | agg cs _ ih => exact .agg _ ih
  | tup cs _ ih => exact .tup _ ih
  | cnd g a _ ih => exact .cnd _ _ ih
theorem VR.nms {φ φ' : Names} {Z : Still} {w : World} {D : Nat → Prop} {a : A} {v : Value} (h : VR φ Z w a v) (hu : Nms D a) (hφ : ∀ id b, D id → φ id = some b → φ' id = some b) : VR φ' Z w a v := by
  induction h with
  | un v => exact .un v
  | s v => exact .s v
  | nil cap => exact .nil cap
  | slz cap a => exact .slz cap a
  | sl cap es b off sz c val hc hx hm hs hz hv ho _ ih =>
    cases hu with
    | sl _ _ _ hu => exact .sl cap es b off sz c val hc hx hm hs hz hv ho fun i j hi hj => ih i j hi hj (by
        have h1 : es.getD i [] = es[i] := by simp [List.getD_eq_getElem?_getD, hi]
        have h2 : es[i].length = sz := hs _ (List.getElem_mem hi)
        rw [h1]
        exact hu _ (List.getElem_mem hi) _ (mem_getD (by omega)))
  | pt cs b off val hz hv ho _ ih => cases hu with | pt _ hu => exact .pt cs b off val hz hv ho fun j hj => ih j hj (hu _ (mem_getD hj))
  | fn f fst cap fv cv h1 h2 _ _ ih1 ih2 => cases hu with | fn _ _ _ u1 u2 => exact .fn f fst cap fv cv h1 h2 (fun i hi => ih1 i hi (u1 _ (mem_getD hi))) (fun i hi => ih2 i hi (u2 _ (mem_getD hi)))
  | ref id off b h => cases hu with | ref _ _ hu => exact .ref id off b (hφ _ _ hu h)
  | ms id off k b c h hc hm => cases hu with | ms _ _ _ hu => exact .ms id off k b c (hφ _ _ hu h) hc hm
  | gs id k cap b h hc hm => cases hu with | gs _ _ _ hu => exact .gs id k cap b (hφ _ _ hu h) hc hm
  | mp id b h => cases hu with | mp _ hu => exact .mp id b (hφ _ _ hu h)
  | yl id b h => cases hu with | yl _ hu => exact .yl id b (hφ _ _ hu h)
  | agg cs vs h ho _ ih => cases hu with | agg _ hu => exact .agg cs vs h ho fun i hi => ih i hi (hu _ (mem_getD hi))
  | tup cs vs h _ ih => cases hu with | tup _ hu => exact .tup cs vs h fun i hi => ih i hi (hu _ (mem_getD hi))
  | cnd g a v h1 h0 ih => cases hu with | cnd _ _ hu => exact .cnd g a v (fun hg => ih hg hu) h0
inductive NmsB (D : Nat → Prop) : B → Prop
  | cells (cs : List A) (h : ∀ x ∈ cs, Nms D x) : NmsB D (.cells cs)
  | map (kvs : List (A × A)) (h : ∀ p ∈ kvs, Nms D p.1 ∧ Nms D p.2) : NmsB D (.map kvs)
  | lp (st : LoopState) (pend : Option Code) (S : Nat → A) (nt : Nat) (ps : Array Tmp) (asg body : Code) (h : ∀ t, Nms D (S t)) : NmsB D (.lp st pend S nt ps asg body)
theorem BR.nms {φ φ' : Names} {Z : Still} {w : World} {D : Nat → Prop} {b : Nat} {bx : B} (h : BR φ Z w b bx) (hu : NmsB D bx) (hφ : ∀ id b, D id → φ id = some b → φ' id = some b) : BR φ' Z w b bx := by
  cases hu with
  | cells cs hu =>
    obtain ⟨c, T, h1, h2, h3⟩ := h
    exact ⟨c, T, h1, h2, fun j hj => ⟨(h3 j hj).1.nms (hu _ (mem_getD hj)) hφ, (h3 j hj).2⟩⟩
  | map kvs hu =>
    obtain ⟨es, h1, h2, h3⟩ := h
    refine ⟨es, h1, h2, fun i hi => ?_⟩
    obtain ⟨e, e1, e2, e3, e4⟩ := h3 i hi
    have hm : kvs.getD i (.un, .un) ∈ kvs := by simp [List.getD_eq_getElem?_getD, hi]
    exact ⟨e, e1, e2, e3.nms (hu _ hm).1 hφ, e4.nms (hu _ hm).2 hφ⟩
  | lp st pend S nt ps asg body hu =>
    obtain ⟨fn, tmps, d, h1, h2, h3⟩ := h
    exact ⟨fn, tmps, d, h1, h2, fun t => (h3 t).nms (hu t) hφ⟩
def overH (H Hl H' : Hp) : Hp := fun id => match Hl id with
  | some _ => H' id
  | none => H id
theorem SCall.frame {P : Program} {f : FuncId} {args : List A} {Hl : Hp} {n : Nat} {post : A → Hp → Nat → Prop} (h : SCall P f args Hl n post) {H : Hp} {c : Nat}
    (hn : ∀ id bx, Hl id = some bx → id < n) (hH : ∀ id bx, Hl id = some bx → NmsB (fun i => (Hl i).isSome = true) bx ∧ H id = some bx) (ha : ∀ x ∈ args, Nms (fun i => (Hl i).isSome = true) x)
    (hp : ∀ v H' c', post v H' c' → Nms (fun i => (Hl i).isSome = true) v ∧ ∀ id bx, H' id = some bx → (Hl id).isSome = true ∧ NmsB (fun i => (Hl i).isSome = true) bx) :
    SCall P f args H c fun v H1 c1 => ∃ H' c', post v H' c' ∧ H1 = overH H Hl H' ∧ c1 = c := by
  intro φ Z w vs hr hv
  let φs : Names := fun id => if (Hl id).isSome = true then φ id else none
  have φin : ∀ id, (Hl id).isSome = true → φs id = φ id := fun id hi => if_pos hi
  have φout : ∀ id b, φs id = some b → (Hl id).isSome = true ∧ φ id = some b := fun id b hb => by
    by_cases hi : (Hl id).isSome = true
    · exact ⟨hi, by rw [← φin id hi]; exact hb⟩
    · simp only [φs, if_neg hi] at hb; cases hb
  have same : ∀ id, (Hl id).isSome = true → H id = Hl id := fun id hi => by
    obtain ⟨bx, hbx⟩ := Option.isSome_iff_exists.1 hi
    rw [hbx]; exact (hH id bx hbx).2
  have inH : ∀ id, (Hl id).isSome = true → (H id).isSome = true := fun id hi => by rw [same id hi]; exact hi
  have absS : ∀ id j, (Hl id).isSome = true → absAt ⟨fun _ => .un, Hl, n⟩ (.box id j) = absAt ⟨fun _ => .un, H, c⟩ (.box id j) := fun id j hi => by simp only [absAt, same id hi]
  have conS : ∀ id j w, (Hl id).isSome = true → conAt φs ⟨#[], []⟩ w (.box id j) = conAt φ ⟨#[], []⟩ w (.box id j) := fun id j w hi => by simp only [conAt, φin id hi]
  have abs_some : ∀ {Hx : Hp} {k id j : Nat} {v : Value} {p : Nat × Nat}, spareOf (absAt ⟨fun _ => .un, Hx, k⟩ (.box id j)) v = some p → (Hx id).isSome = true := fun {Hx k id j v p} hs => by
    cases e : Hx id with
    | some b => rfl
    | none => simp [absAt, e, spareOf] at hs
  have hrs : HRel P φs Z Hl n w := {
    boxes := fun id bx hb => by
      obtain ⟨b, h1, h2⟩ := hr.boxes id bx (hH id bx hb).2
      have hi : (Hl id).isSome = true := by rw [hb]; rfl
      exact ⟨b, by rw [φin id hi]; exact h1, h2.nms (hH id bx hb).1 fun i b hi hb => by rw [φin i hi]; exact hb⟩
    inj := fun id id' b hi hi' h1 h2 => hr.inj id id' b (inH id hi) (inH id' hi') (φout _ _ h1).2 (φout _ _ h2).2
    zok := hr.zok
    zbox := fun b o id hz hi hb => hr.zbox b o id hz (inH id hi) (φout _ _ hb).2
    own1 := fun id j b e hl => by
      have hi := abs_some hl
      rw [absS id j hi, conS id j w hi] at hl
      obtain ⟨k0, k⟩ := hr.own1 id j b e hl
      rw [conS id j w hi]
      exact ⟨fun i hi hb => k0 i (inH i hi) (φout _ _ hb).2, k⟩
    own2 := fun id j id' j' b e e' hl hl' => by
      have hi := abs_some hl
      have hi' := abs_some hl'
      rw [absS id j hi, conS id j w hi] at hl
      rw [absS id' j' hi', conS id' j' w hi'] at hl'
      exact hr.own2 id j id' j' b e e' hl hl'
    fresh := fun id hi => by
      have : (Hl id).isSome ≠ true := fun h1 => by
        obtain ⟨bx, hbx⟩ := Option.isSome_iff_exists.1 h1
        have := hn id bx hbx; omega
      exact if_neg this }
  have mineS : ∀ b, Mine φs Hl w b → Mine φ H w b := fun b hm => by
    rcases hm with ⟨id, h1, h2⟩ | ⟨id, j, e, h1⟩
    · exact .inl ⟨id, inH id h1, (φout _ _ h2).2⟩
    · have hi := abs_some h1
      refine .inr ⟨id, j, e, ?_⟩
      rw [← conS id j w hi]
      have := absS id j hi
      simp only [absAt] at this h1 ⊢
      rw [← this]; exact h1
  have boxOut : ∀ id b, (H id).isSome = true → (Hl id).isSome ≠ true → φ id = some b → ¬ Mine φs Hl w b := fun id b h1 h2 h3 hm => by
    rcases hm with ⟨i, k1, k2⟩ | ⟨i, j, e, k1⟩
    · have := hr.inj id i b h1 (inH i k1) h3 (φout _ _ k2).2
      subst this; exact h2 k1
    · have hi := abs_some k1
      have k1' : spareOf (absAt ⟨fun _ => .un, H, c⟩ (.box i j)) (conAt φ ⟨#[], []⟩ w (.box i j)) = some (b, e) := by
        rw [← conS i j w hi, ← absS i j hi]; exact k1
      exact (hr.own1 i j b e k1').1 id h1 h3
  have spareOut : ∀ id j b e, (Hl id).isSome ≠ true → spareOf (absAt ⟨fun _ => .un, H, c⟩ (.box id j)) (conAt φ ⟨#[], []⟩ w (.box id j)) = some (b, e) → ¬ Mine φs Hl w b := fun id j b e h1 h2 hm => by
    rcases hm with ⟨i, k1, k2⟩ | ⟨i, j', e', k1⟩
    · exact (hr.own1 id j b e h2).1 i (inH i k1) (φout _ _ k2).2
    · have hi := abs_some k1
      have k1' : spareOf (absAt ⟨fun _ => .un, H, c⟩ (.box i j')) (conAt φ ⟨#[], []⟩ w (.box i j')) = some (b, e') := by
        rw [← conS i j' w hi, ← absS i j' hi]; exact k1
      have := hr.own2 id j i j' b e e' h2 k1'
      cases this; exact h1 hi
  have hvs : VRs φs Z w args vs := ⟨hv.1, fun i hi => (hv.2 i hi).nms (ha _ (mem_getD hi)) fun i b hi hb => by rw [φin i hi]; exact hb⟩
  refine (h φs Z w vs hrs hvs).mono ?_
  rintro e w' ⟨u, v, H', c', φ', Z', rfl, hpost, hv', hsp, hr', g⟩
  obtain ⟨nv, nH⟩ := hp v H' c' hpost
  have back : ∀ id b, (Hl id).isSome = true → φ' id = some b → φ id = some b := fun id b hi hb => by
    obtain ⟨bx, hbx⟩ := Option.isSome_iff_exists.1 hi
    obtain ⟨b0, h1, _⟩ := hr.boxes id bx (hH id bx hbx).2
    have := g.names id b0 (by rw [φin id hi]; exact h1)
    rw [this] at hb; cases hb; exact h1
  have fwd : ∀ id b, (Hl id).isSome = true → φ id = some b → φ' id = some b := fun id b hi hb => g.names id b (by rw [φin id hi]; exact hb)
  have ov1 : ∀ id, (Hl id).isSome = true → overH H Hl H' id = H' id := fun id hi => by
    obtain ⟨bx, hbx⟩ := Option.isSome_iff_exists.1 hi
    simp only [overH, hbx]
  have ov2 : ∀ id, (Hl id).isSome ≠ true → overH H Hl H' id = H id := fun id hi => by
    cases e : Hl id with
    | some bx => exact absurd (by rw [e]; rfl) hi
    | none => simp only [overH, e]
  have dom : ∀ id, (overH H Hl H' id).isSome = true → (H id).isSome = true := fun id hi => by
    by_cases h1 : (Hl id).isSome = true
    · exact inH id h1
    · rwa [ov2 id h1] at hi
  have blt : ∀ id b, (H id).isSome = true → φ id = some b → b < w.heap.size := fun id b h1 h2 => by
    obtain ⟨bx, hbx⟩ := Option.isSome_iff_exists.1 h1
    obtain ⟨b0, h3, h4⟩ := hr.boxes id bx hbx
    rw [h2] at h3; cases h3; exact h4.lt
  have keep : ∀ b, b < w.heap.size → ¬ Mine φs Hl w b → w'.heap[b]? = w.heap[b]? := g.frame
  have conO : ∀ id j, (H id).isSome = true → (Hl id).isSome ≠ true → conAt φ ⟨#[], []⟩ w' (.box id j) = conAt φ ⟨#[], []⟩ w (.box id j) := fun id j h1 h2 => by
    cases e : φ id with
    | none => simp only [conAt, e]
    | some b =>
      simp only [conAt, e]
      rw [World.cell?_of_block (w := w) (w' := w') (a := ⟨b, j, none⟩) (keep b (blt id b h1 e) (boxOut id b h1 h2 e))]
  have absO : ∀ id j, (Hl id).isSome ≠ true → absAt ⟨fun _ => .un, overH H Hl H', c⟩ (.box id j) = absAt ⟨fun _ => .un, H, c⟩ (.box id j) := fun id j h2 => by simp only [absAt, ov2 id h2]
  have absI : ∀ id j, (Hl id).isSome = true → absAt ⟨fun _ => .un, overH H Hl H', c⟩ (.box id j) = absAt ⟨fun _ => .un, H', c'⟩ (.box id j) := fun id j h2 => by simp only [absAt, ov1 id h2]
  have conI : ∀ id j, (Hl id).isSome = true → conAt φ ⟨#[], []⟩ w' (.box id j) = conAt φ' ⟨#[], []⟩ w' (.box id j) := fun id j h2 => by
    obtain ⟨bx, hbx⟩ := Option.isSome_iff_exists.1 h2
    obtain ⟨b0, h1, _⟩ := hr.boxes id bx (hH id bx hbx).2
    simp only [conAt, h1, fwd id b0 h2 h1]
  have mineO : ∀ id j b e, spareOf (absAt ⟨fun _ => .un, overH H Hl H', c⟩ (.box id j)) (conAt φ ⟨#[], []⟩ w' (.box id j)) = some (b, e) → (Hl id).isSome ≠ true →
      spareOf (absAt ⟨fun _ => .un, H, c⟩ (.box id j)) (conAt φ ⟨#[], []⟩ w (.box id j)) = some (b, e) := fun id j b e hl hi => by
    have h1 := dom id (abs_some hl)
    rw [absO id j hi, conO id j h1 hi] at hl; exact hl
  have mineI : ∀ id j b e, spareOf (absAt ⟨fun _ => .un, overH H Hl H', c⟩ (.box id j)) (conAt φ ⟨#[], []⟩ w' (.box id j)) = some (b, e) → (Hl id).isSome = true →
      spareOf (absAt ⟨fun _ => .un, H', c'⟩ (.box id j)) (conAt φ' ⟨#[], []⟩ w' (.box id j)) = some (b, e) := fun id j b e hl hi => by
    rw [absI id j hi, conI id j hi] at hl; exact hl
  have newMine : ∀ id j b e, spareOf (absAt ⟨fun _ => .un, H', c'⟩ (.box id j)) (conAt φ' ⟨#[], []⟩ w' (.box id j)) = some (b, e) → Mine φs Hl w b ∨ w.heap.size ≤ b := fun id j b e hl => g.mine b (.inr ⟨id, j, e, by simpa only [absAt] using hl⟩)
  have spLt : ∀ {s : St} {φ : Names} {Z : Still} {w : World} {v : Value} {b e : Nat}, SpareOk P s φ Z w v b e → b < w.heap.size := fun hk => by
    obtain ⟨_, _, _, _, _, _, _, k3, _⟩ := hk; exact lt_of_block k3
  refine ⟨u, v, overH H Hl H', c, φ, Z', rfl, ⟨H', c', hpost, rfl, rfl⟩, hv'.nms nv back, hsp, {
    boxes := fun id bx hb => by
      by_cases hi : (Hl id).isSome = true
      · rw [ov1 id hi] at hb
        obtain ⟨b, h1, h2⟩ := hr'.boxes id bx hb
        exact ⟨b, back id b hi h1, h2.nms (nH id bx hb).2 back⟩
      · rw [ov2 id hi] at hb
        obtain ⟨b, h1, h2⟩ := hr.boxes id bx hb
        exact ⟨b, h1, h2.mono (fun _ _ h => h) (fun b o hz => (g.up b o hz).1) (fun b o hz => (g.up b o hz).2) (keep b h2.lt (boxOut id b (by rw [hb]; rfl) hi h1))⟩
    inj := fun id id' b hi hi' => hr.inj id id' b (dom id hi) (dom id' hi')
    zok := hr'.zok
    zbox := fun b o id hz hi hb => by
      by_cases h1 : (Hl id).isSome = true
      · rw [ov1 id h1] at hi
        exact hr'.zbox b o id hz hi (fwd id b h1 hb)
      · have h2 := dom id hi
        have hlt := blt id b h2 hb
        exact (g.back b o hz hlt).elim (fun h3 => hr.zbox b o id h3 h2 hb) (boxOut id b h2 h1 hb)
    own1 := fun id j b e hl => by
      by_cases hi : (Hl id).isSome = true
      · have hl' := mineI id j b e hl hi
        obtain ⟨k0, k⟩ := hr'.own1 id j b e hl'
        rw [conI id j hi]
        refine ⟨fun i h1 h2 => ?_, k⟩
        by_cases h3 : (Hl i).isSome = true
        · change (overH H Hl H' i).isSome = true at h1
          rw [ov1 i h3] at h1
          exact k0 i h1 (fwd i b h3 h2)
        · have h4 := dom i h1
          have hlt := blt i b h4 h2
          exact (newMine id j b e hl').elim (boxOut i b h4 h3 h2) (fun h5 => by omega)
      · have hl' := mineO id j b e hl hi
        have h1 := dom id (abs_some hl)
        obtain ⟨k0, n', c'', i, cur, k1, k2, k3, k4, k5⟩ := hr.own1 id j b e hl'
        have hlt := lt_of_block k3
        have hnm := spareOut id j b e hi hl'
        rw [conO id j h1 hi]
        exact ⟨fun i hi hb => k0 i (dom i hi) hb, n', c'', i, cur, k1, k2, (keep b hlt hnm).trans k3, k4, fun o ho hz => (g.back b o hz hlt).elim (k5 o ho) hnm⟩
    own2 := fun id j id' j' b e e' hl hl' => by
      by_cases hi : (Hl id).isSome = true <;> by_cases hi' : (Hl id').isSome = true
      · exact hr'.own2 id j id' j' b e e' (mineI id j b e hl hi) (mineI id' j' b e' hl' hi')
      · exfalso
        have h2 := mineO id' j' b e' hl' hi'
        have hlt := spLt (hr.own1 id' j' b e' h2)
        exact (newMine id j b e (mineI id j b e hl hi)).elim (spareOut id' j' b e' hi' h2) (fun h5 => by omega)
      · exfalso
        have h2 := mineO id j b e hl hi
        have hlt := spLt (hr.own1 id j b e h2)
        exact (newMine id' j' b e' (mineI id' j' b e' hl' hi')).elim (spareOut id j b e hi h2) (fun h5 => by omega)
      · exact hr.own2 id j id' j' b e e' (mineO id j b e hl hi) (mineO id' j' b e' hl' hi')
    fresh := hr.fresh }, {
    size := g.size
    frame := fun b hb hm => g.frame b hb fun h1 => hm (mineS b h1)
    os := g.os
    tape := g.tape
    output := g.output
    up := g.up
    back := fun b o hz hb => (g.back b o hz hb).elim .inl fun h1 => .inr (mineS b h1)
    names := fun _ _ h => h
    mine := fun b hm => by
      rcases hm with ⟨id, h1, h2⟩ | ⟨id, j, e, h1⟩
      · exact .inl (.inl ⟨id, dom id h1, h2⟩)
      · have h1' : spareOf (absAt ⟨fun _ => .un, overH H Hl H', c⟩ (.box id j)) (conAt φ ⟨#[], []⟩ w' (.box id j)) = some (b, e) := by simpa only [absAt] using h1
        by_cases hi : (Hl id).isSome = true
        · exact (newMine id j b e (mineI id j b e h1' hi)).elim (fun h2 => .inl (mineS b h2)) .inr
        · have h2 := mineO id j b e h1' hi
          exact .inl (.inr ⟨id, j, e, by simpa only [absAt] using h2⟩) }⟩
theorem SCall.drop {P : Program} {f : FuncId} {args : List A} {H : Hp} {c : Nat} {post post' : A → Hp → Nat → Prop} (h : SCall P f args H c post)
    (hp : ∀ v H' c', post v H' c' → ∃ H2, (∀ id bx, H2 id = some bx → H' id = some bx) ∧ post' v H2 c') : SCall P f args H c post' := by
  intro φ Z w vs h1 h2
  refine (h φ Z w vs h1 h2).mono ?_
  rintro e w' ⟨u, v, H', c', φ', Z', k1, k2, k3, k4, hr, g⟩
  obtain ⟨H2, hs, hp2⟩ := hp v H' c' k2
  have some_of : ∀ id, (H2 id).isSome = true → (H' id).isSome = true := fun id hi => by
    obtain ⟨bx, hbx⟩ := Option.isSome_iff_exists.1 hi; rw [hs id bx hbx]; rfl
  have same : ∀ {id j : Nat} {v : Value} {p : Nat × Nat}, spareOf (absAt ⟨fun _ => .un, H2, c'⟩ (.box id j)) v = some p → absAt ⟨fun _ => .un, H2, c'⟩ (.box id j) = absAt ⟨fun _ => .un, H', c'⟩ (.box id j) := fun {id j v p} hl => by
    cases e : H2 id with
    | none => simp [absAt, e, spareOf] at hl
    | some bx => simp only [absAt, e, hs id bx e]
  refine ⟨u, v, H2, c', φ', Z', k1, hp2, k3, k4, {
    boxes := fun id bx hb => hr.boxes id bx (hs id bx hb)
    inj := fun id id' b hi hi' => hr.inj id id' b (some_of id hi) (some_of id' hi')
    zok := hr.zok
    zbox := fun b o id hz hi => hr.zbox b o id hz (some_of id hi)
    own1 := fun id j b e hl => by
      obtain ⟨k0, k⟩ := hr.own1 id j b e (by rw [← same hl]; exact hl)
      exact ⟨fun i hi => k0 i (some_of i hi), k⟩
    own2 := fun id j id' j' b e e' hl hl' => hr.own2 id j id' j' b e e' (by rw [← same hl]; exact hl) (by rw [← same hl']; exact hl')
    fresh := hr.fresh }, { g with
    mine := fun b hm => g.mine b (by
      rcases hm with ⟨id, h1, h2⟩ | ⟨id, j, e, h1⟩
      · exact .inl ⟨id, some_of id h1, h2⟩
      · have h1' : spareOf (absAt ⟨fun _ => .un, H2, c'⟩ (.box id j)) (conAt φ' ⟨#[], []⟩ w' (.box id j)) = some (b, e) := by simpa only [absAt] using h1
        rw [same h1'] at h1'
        exact .inr ⟨id, j, e, by simpa only [absAt] using h1'⟩) }⟩
theorem SCall.le {P : Program} {f : FuncId} {args : List A} {H : Hp} {c : Nat} {post post' : A → Hp → Nat → Prop} (h : SCall P f args H c post) (hp : ∀ v H' c', post v H' c' → ∃ v', A.Le v' v ∧ post' v' H' c') : SCall P f args H c post' := by
  intro φ Z w vs h1 h2
  refine (h φ Z w vs h1 h2).mono ?_
  rintro e w' ⟨u, v, H', c', φ', Z', k1, k2, k3, k4⟩
  obtain ⟨v', k6, k7⟩ := hp v H' c' k2
  refine ⟨u, v', H', c', φ', Z', k1, k7, k6.vr _ _ _ _ k3, fun u' => ?_, k4.2⟩
  cases e1 : spareOf v' u' with
  | none => rfl
  | some p => have h9 := k6.own u' p e1; rw [k4.1 u'] at h9; cases h9
section
variable {X : Ctx} {φ : Names} {Z Z' : Still} {s : St} {a : Act} {w w' : World}
theorem Rel.recell (h : Rel X φ Z s a w) {id j : Nat} {cs : List A} (hi : s.H id = some (.cells cs)) (hj : j < cs.length) {x : A} (hv : ∀ v, VR φ Z w (cs.getD j .un) v → VR φ Z w x v) (ho : ∀ v p, spareOf x v ≠ some p) :
    Rel X φ Z { s with H := updH s.H id (some (.cells (cs.set j x))) } a w := by
  have hib : (s.H id).isSome = true := by simp [hi]
  have getS : ∀ k, (cs.set j x).getD k .un = if j = k then x else cs.getD k .un := fun k => by
    simp only [List.getD_eq_getElem?_getD, List.getElem?_set]
    by_cases e : j = k
    · subst e; simp [hj]
    · simp [e]
  have some_of : ∀ i, (updH s.H id (some (.cells (cs.set j x))) i).isSome = true → (s.H i).isSome = true := fun i h1 => by
    by_cases e : i = id
    · subst e; exact hib
    · rw [updH_other _ _ e] at h1; exact h1
  have own_of : ∀ l v p, spareOf (absAt { s with H := updH s.H id (some (.cells (cs.set j x))) } l) v = some p → spareOf (absAt s l) v = some p := by
    intro l v p hl
    cases l with
    | slot t => exact hl
    | box i k =>
      rw [absAt_box] at hl ⊢
      by_cases e : i = id
      · subst e
        simp only [updH_same, cellOf, getS] at hl
        rw [hi]
        by_cases e2 : j = k
        · rw [if_pos e2] at hl; exact (ho _ _ hl).elim
        · rw [if_neg e2] at hl; exact hl
      · simpa [updH_other _ _ e] using hl
  exact { h with
    boxes := fun i bx h1 => by
      replace h1 : updH s.H id (some (.cells (cs.set j x))) i = some bx := h1
      by_cases e : i = id
      · subst e
        rw [updH_same] at h1; cases h1
        obtain ⟨b, hb, c, T, h2, h3, h4⟩ := h.boxes i _ hi
        refine ⟨b, hb, c, T, h2, by rw [List.length_set]; exact h3, fun k hk => ?_⟩
        rw [List.length_set] at hk
        have h5 := h4 k hk
        rw [getS]
        split
        · rename_i e; subst e; exact ⟨hv _ h5.1, h5.2⟩
        · exact h5
      · rw [updH_other _ _ e] at h1; exact h.boxes i bx h1
    inj := fun i i' b1 h1 h2 => h.inj i i' b1 (some_of i h1) (some_of i' h2)
    zbox := fun b1 o i hz h1 h2 => h.zbox b1 o i hz (some_of i h1) h2
    own1 := fun l b1 e hl => by
      obtain ⟨k0, k1⟩ := h.own1 l b1 e (own_of l _ _ hl)
      exact ⟨fun i h1 => k0 i (some_of i h1), k1⟩
    own2 := fun l l' b1 e e' hl hl' => h.own2 l l' b1 e e' (own_of l _ _ hl) (own_of l' _ _ hl')
    mut1 := fun i b1 h1 => h.mut1 i b1 (some_of i h1)
    mut2 := fun l b1 e hl => h.mut2 l b1 e (own_of l _ _ hl)
    defs := fun d hd => by
      obtain ⟨r, h1, h2, h3, h4⟩ := h.defs d hd
      exact ⟨r, h1, h2, h3, fun i h5 => h4 i (some_of i h5)⟩ }
structure RowsAre (cs : List A) (es : List (List A)) (sz : Nat) : Prop where
  each : ∀ e ∈ es, e.length = sz
  len : es.length * sz ≤ cs.length
  is : ∀ i j, i < es.length → j < sz → (es.getD i []).getD j .un = (cs.getD (i * sz + j) .un).down
theorem Rel.sl_of (h : Rel X φ Z s a w) {id b n sz : Nat} {cs : List A} {es : List (List A)} (hi : s.H id = some (.cells cs)) (hb : φ id = some b) (hr : RowsAre cs es sz) (hn : es.length = n)
    (hZ : ∀ b o, Z b o → Z' b o) (hz : ∀ j, j < cs.length → Z' b j) {v : Value} (hv : VR φ Z' w (.ms id 0 n) v) : VR φ Z' w (.sl false .any es) v := by
  obtain ⟨b2, c2, rfl, hb2, hc, hm⟩ := inv_ms hv
  rw [hb] at hb2; cases hb2
  subst hn
  obtain ⟨c, T, hblk, hlen, hc'⟩ := h.bl hi hb
  have idx : ∀ i j, i < es.length → j < sz → i * sz + j < cs.length := fun i j hi hj => by
    have : (i + 1) * sz ≤ es.length * sz := Nat.mul_le_mul_right _ hi
    have := hr.len
    rw [Nat.add_mul, Nat.one_mul] at *; omega
  refine .sl .any es b 0 sz c2 (fun i j => c.getD (i * sz + j) undef) hc (fun h => by cases h) hm hr.each (fun i j hi hj => ?_) (fun i j hi hj => ?_) (fun i j hi hj => ?_) fun i j hi hj => ?_
  · rw [Nat.zero_add]; exact hz _ (idx i j hi hj)
  · have hlt : i * sz + j < c.size := by have := idx i j hi hj; omega
    rw [Nat.zero_add]
    simp [World.cell?, hblk, hlt]
  · exact (hc' _ (idx i j hi hj)).2
  · rw [hr.is i j hi hj]
    exact ((hc' _ (idx i j hi hj)).1.mono (φ' := φ) (Z' := Z') (w' := w) (fun _ _ h => h) hZ (fun _ _ _ => rfl)).down
end
section
variable {X : Ctx} {r : Option Nat} {s : St} {Q : Exit → St → Prop}
theorem Aw.freezeS {x : Code} {id t n sz : Nat} {cs : List A} (es : List (List A)) (hi : s.H id = some (.cells cs)) (ht : s.S t = .ms id 0 n) (hr : RowsAre cs es sz) (hn : es.length = n)
    (h : Aw X r x Q ⟨upd s.S t (.sl false .any es), updH s.H id none, s.c⟩) : Aw X r x Q s :=
  fun φ Z a w hrel => by
    obtain ⟨b, hb, _⟩ := hrel.boxes id _ hi
    obtain ⟨Z', h1, h2, h3⟩ := hrel.freeze hi hb
    refine h φ Z' a w (Rel.reslot (s := { s with H := updH s.H id none }) h3 ?_ (fun v p e => by simp [spareOf] at e))
    have h4 := h3.slots t
    rw [show ({ s with H := updH s.H id none } : St).S t = .ms id 0 n from ht] at h4
    exact hrel.sl_of hi hb hr hn h1 h2 h4
theorem Aw.freezeC {x : Code} {id id2 j n sz : Nat} {cs cs2 : List A} (es : List (List A)) (hi : s.H id = some (.cells cs)) (hi2 : s.H id2 = some (.cells cs2)) (hne : id2 ≠ id) (hj : j < cs2.length) (hm : cs2.getD j .un = .ms id 0 n) (hr : RowsAre cs es sz) (hn : es.length = n)
    (h : Aw X r x Q ⟨s.S, updH (updH s.H id none) id2 (some (.cells (cs2.set j (.sl false .any es)))), s.c⟩) : Aw X r x Q s :=
  fun φ Z a w hrel => by
    obtain ⟨b, hb, _⟩ := hrel.boxes id _ hi
    obtain ⟨Z', h1, h2, h3⟩ := hrel.freeze hi hb
    refine h φ Z' a w (Rel.recell (s := { s with H := updH s.H id none }) (id := id2) (j := j) (cs := cs2) h3 (by show updH s.H id none id2 = _; rw [updH_other _ _ hne]; exact hi2) hj (fun v hv => ?_) (fun v p e => by simp [spareOf] at e))
    rw [hm] at hv
    exact hrel.sl_of hi hb hr hn h1 h2 hv
theorem Aw.freeze {x : Code} {id t : Nat} {cs : List A} (hi : s.H id = some (.cells cs)) (ht : s.S t = .ref id 0) (h : Aw X r x Q ⟨upd s.S t (.pt (cs.map A.down)), updH s.H id none, s.c⟩) : Aw X r x Q s :=
  fun φ Z a w hr => by
    obtain ⟨Z', _, hr'⟩ := hr.freeze_slot hi ht
    exact h φ Z' a w hr'
end
end Go.AL

namespace Go.AL
open Go Go.RowKit
structure NewMap (P : Program) (g : FuncId) (args : List A) (nm : Nat) (v : A) (kvs : List (A × A)) : Prop where
  ent : Enters P g
  run : ∀ H c φ Z w vs, HRel P φ Z H c w → VRs φ Z w args vs → φ nm = none → nm < c → Calls P g vs w fun e w' =>
    ∃ u φ' Z', e = .returned u ∧ VR φ' Z' w' v u ∧ (∀ u', spareOf v u' = none) ∧ HRel P φ' Z' (updH H nm (some (.map kvs))) c w' ∧ Grew P φ φ' Z Z' H (updH H nm (some (.map kvs))) w w' ∧ ∀ k, k ≠ nm → φ' k = φ k
theorem NewMap.of {P : Program} {g : FuncId} {args : List A} {nm k : Nat} {v v' : A} {kvs : List (A × A)} (he : Enters P g) (ha : ∀ x ∈ args, Free x) (hk : ∀ p ∈ kvs, Free p.1 ∧ Free p.2)
    (h : SCall P g args (fun _ => none) 0 fun v' H' _ => v' = v ∧ H' = ofH [(k, .map kvs)])
    (hv : ∀ φ φ' Z w u b, φ k = some b → φ' nm = some b → VR φ Z w v u → VR φ' Z w v' u) (hs : ∀ u, spareOf v' u = none) : NewMap P g args nm v' kvs := by
  refine ⟨he, fun H c φ Z w vs hr hvs hnm hlt => ?_⟩
  let φs : Names := fun _ => none
  have hrs : HRel P φs Z (fun _ => none) 0 w := {
    boxes := fun id bx hb => by cases hb
    inj := fun id id' b hi => by cases hi
    zok := hr.zok
    zbox := fun b o id hz hi hb => by cases hb
    own1 := fun id j b e hl => by simp [absAt, spareOf] at hl
    own2 := fun id j id' j' b e e' hl hl' => by simp [absAt, spareOf] at hl
    fresh := fun id hi => rfl }
  have mine0 : ∀ b, ¬ Mine φs (fun _ => none) w b := fun b hm => by
    rcases hm with ⟨id, h1, h2⟩ | ⟨id, j, e, h1⟩
    · cases h2
    · simp [absAt, spareOf] at h1
  have hvs' : VRs φs Z w args vs := ⟨hvs.1, fun i hi => (hvs.2 i hi).nms (D := fun _ => False) (ha _ (mem_getD hi)).nms fun _ _ h => h.elim⟩
  refine (h φs Z w vs hrs hvs').mono ?_
  rintro e w' ⟨u, v0, H', c', φ', Z', rfl, ⟨rfl, rfl⟩, hv', hsp, hr', g⟩
  have hHk : ofH [(k, B.map kvs)] k = some (.map kvs) := by simp [ofH, updH_apply]
  obtain ⟨b, hb1, hb2⟩ := hr'.boxes k (.map kvs) hHk
  have bnew : w.heap.size ≤ b := (g.mine b (.inl ⟨k, by rw [hHk]; rfl, hb1⟩)).resolve_left (mine0 b)
  have keep : ∀ b, b < w.heap.size → w'.heap[b]? = w.heap[b]? := fun b hb => g.frame b hb (mine0 b)
  have blt : ∀ id b, (H id).isSome = true → φ id = some b → b < w.heap.size := fun id b h1 h2 => by
    obtain ⟨bx, hbx⟩ := Option.isSome_iff_exists.1 h1
    obtain ⟨b0, h3, h4⟩ := hr.boxes id bx hbx
    rw [h2] at h3; cases h3; exact h4.lt
  have hHn : H nm = none := by
    cases e : H nm with
    | none => rfl
    | some bx => obtain ⟨b0, h3, _⟩ := hr.boxes nm bx e; rw [hnm] at h3; cases h3
  let φ2 : Names := fun id => if id = nm then some b else φ id
  have φn : φ2 nm = some b := if_pos rfl
  have φo : ∀ id, id ≠ nm → φ2 id = φ id := fun id h => if_neg h
  have up : ∀ id b, φ id = some b → φ2 id = some b := fun id b h => by
    have : id ≠ nm := fun e => by rw [e, hnm] at h; cases h
    rw [φo id this]; exact h
  have Hn : updH H nm (some (.map kvs)) nm = some (.map kvs) := by simp [updH_apply]
  have Ho : ∀ id, id ≠ nm → updH H nm (some (.map kvs)) id = H id := fun id h => by simp [updH_apply, h]
  have dom : ∀ id, (updH H nm (some (.map kvs)) id).isSome = true → id ≠ nm → (H id).isSome = true := fun id h1 h2 => by rwa [Ho id h2] at h1
  have absN : ∀ j, absAt ⟨fun _ => .un, updH H nm (some (.map kvs)), c⟩ (.box nm j) = .un := fun j => by simp only [absAt, Hn]
  have absO : ∀ id j, id ≠ nm → absAt ⟨fun _ => .un, updH H nm (some (.map kvs)), c⟩ (.box id j) = absAt ⟨fun _ => .un, H, c⟩ (.box id j) := fun id j h => by simp only [absAt, Ho id h]
  have notN : ∀ {id j : Nat} {x : Value} {p : Nat × Nat}, spareOf (absAt ⟨fun _ => .un, updH H nm (some (.map kvs)), c⟩ (.box id j)) x = some p → id ≠ nm := fun {id j x p} hl e => by
    subst e; rw [absN] at hl; simp [spareOf] at hl
  have abs_some : ∀ {id j : Nat} {x : Value} {p : Nat × Nat}, spareOf (absAt ⟨fun _ => .un, H, c⟩ (.box id j)) x = some p → (H id).isSome = true := fun {id j v p} hs => by
    cases e : H id with
    | some b => rfl
    | none => simp [absAt, e, spareOf] at hs
  have conO : ∀ id j, (H id).isSome = true → id ≠ nm → conAt φ2 ⟨#[], []⟩ w' (.box id j) = conAt φ ⟨#[], []⟩ w (.box id j) := fun id j h1 h2 => by
    simp only [conAt, φo id h2]
    cases e : φ id with
    | none => rfl
    | some b0 => simp only [World.cell?_of_block (w := w) (w' := w') (a := ⟨b0, j, none⟩) (keep b0 (blt id b0 h1 e))]
  have mineO : ∀ id j b e, spareOf (absAt ⟨fun _ => .un, updH H nm (some (.map kvs)), c⟩ (.box id j)) (conAt φ2 ⟨#[], []⟩ w' (.box id j)) = some (b, e) →
      id ≠ nm ∧ (H id).isSome = true ∧ spareOf (absAt ⟨fun _ => .un, H, c⟩ (.box id j)) (conAt φ ⟨#[], []⟩ w (.box id j)) = some (b, e) := fun id j b e hl => by
    have h1 := notN hl
    rw [absO id j h1] at hl
    have h2 := abs_some hl
    rw [conO id j h2 h1] at hl
    exact ⟨h1, h2, hl⟩
  refine ⟨u, φ2, Z', rfl, hv φ' φ2 Z' w' u b hb1 φn hv', hs, {
    boxes := fun id bx hb => by
      by_cases hi : id = nm
      · subst hi
        rw [Hn] at hb; cases hb
        exact ⟨b, φn, hb2.nms (D := fun _ => False) (.map _ fun p hp => ⟨(hk p hp).1.nms, (hk p hp).2.nms⟩) fun _ _ h => h.elim⟩
      · rw [Ho id hi] at hb
        obtain ⟨b0, h1, h2⟩ := hr.boxes id bx hb
        exact ⟨b0, up id b0 h1, h2.mono up (fun b o hz => (g.up b o hz).1) (fun b o hz => (g.up b o hz).2) (keep b0 h2.lt)⟩
    inj := fun id id' b0 hi hi' h1 h2 => by
      by_cases e : id = nm <;> by_cases e' : id' = nm
      · rw [e, e']
      · subst e; rw [φn] at h1; cases h1
        rw [φo id' e'] at h2
        have := blt id' b (dom id' hi' e') h2; omega
      · subst e'; rw [φn] at h2; cases h2
        rw [φo id e] at h1
        have := blt id b (dom id hi e) h1; omega
      · rw [φo id e] at h1; rw [φo id' e'] at h2
        exact hr.inj id id' b0 (dom id hi e) (dom id' hi' e') h1 h2
    zok := hr'.zok
    zbox := fun b0 o id hz hi hb => by
      by_cases e : id = nm
      · subst e; rw [φn] at hb; cases hb
        exact hr'.zbox b o k hz (by rw [hHk]; rfl) hb1
      · rw [φo id e] at hb
        have h2 := dom id hi e
        have hlt := blt id b0 h2 hb
        exact (g.back b0 o hz hlt).elim (fun h3 => hr.zbox b0 o id h3 h2 hb) (mine0 b0)
    own1 := fun id j b0 e hl => by
      obtain ⟨h1, h2, h3⟩ := mineO id j b0 e hl
      obtain ⟨k0, n', c'', i, cur, k1, k2, k3, k4, k5⟩ := hr.own1 id j b0 e h3
      have hlt := lt_of_block k3
      rw [conO id j h2 h1]
      refine ⟨fun i hi hb => ?_, n', c'', i, cur, k1, k2, (keep b0 hlt).trans k3, k4, fun o ho hz => (g.back b0 o hz hlt).elim (k5 o ho) (mine0 b0)⟩
      by_cases e : i = nm
      · subst e; rw [φn] at hb; cases hb; omega
      · rw [φo i e] at hb; exact k0 i (dom i hi e) hb
    own2 := fun id j id' j' b0 e e' hl hl' => hr.own2 id j id' j' b0 e e' (mineO id j b0 e hl).2.2 (mineO id' j' b0 e' hl').2.2
    fresh := fun id hi => by rw [φo id (by omega)]; exact hr.fresh id hi }, {
    size := g.size
    frame := fun b hb _ => keep b hb
    os := g.os
    tape := g.tape
    output := g.output
    up := g.up
    back := fun b o hz hb => (g.back b o hz hb).elim .inl fun h1 => (mine0 b h1).elim
    names := up
    mine := fun b0 hm => by
      rcases hm with ⟨id, h1, h2⟩ | ⟨id, j, e, h1⟩
      · by_cases e : id = nm
        · subst e; rw [φn] at h2; cases h2; exact .inr bnew
        · rw [φo id e] at h2; exact .inl (.inl ⟨id, dom id h1 e, h2⟩)
      · obtain ⟨q1, q2, q3⟩ := mineO id j b0 e (by simpa only [absAt] using h1)
        exact .inl (.inr ⟨id, j, e, by simpa only [absAt] using q3⟩) }, φo⟩
def kvsOf (l : List (List A)) : List (A × A) := l.map fun e => (e.getD 0 .un, e.getD 1 .un)
def kvsTo (l : List (A × A)) : List (List A) := l.map fun p => [p.1, p.2]
theorem kvs_to (l : List (A × A)) : kvsOf (kvsTo l) = l := by
  unfold kvsOf kvsTo; rw [List.map_map]; exact (List.map_congr_left fun p _ => rfl).trans (List.map_id l)
section
variable {X : Ctx} {r : Option Nat} {o : Oper}
theorem NewMap.fire {f : Operand} {args : Array Operand} {at' : Array TypeId} {d g : Nat} {fst cap : List A} {nm : Nat} {v : A} {kvs : List (A × A)} {S : Slots} {H : Hp} (ho : o.op = .call { callee := .value f, args := args, argTypes := at' }) (hd : o.dst = some d)
    (hf : rd S f = .fn (.func g) fst cap) (h : NewMap X.P g (fst ++ rds S args.toList ++ cap) nm v kvs) : FireR X r o (opTmps o.op) [] S H ⟨[(d, v)], [(nm, .map kvs)]⟩ nm := by
  intro hdn S' H' c' φ Z a w hr h1 h2 hnm hlt next Q hn
  obtain ⟨dst, op, ty, pos, aft, gd⟩ := o
  simp only at ho hd
  subst ho; subst hd
  have hf' : rd S' f = .fn (.func g) fst cap := by rw [← hf]; exact tmp_mem (by simp [Op.operands, Call.operands]) h1
  have ha : rds S' args.toList = rds S args.toList := rds_congr fun t ht => h1 t (mem_opTmps (by simp [Op.operands, Call.operands] at ht ⊢; exact .inr ht))
  obtain ⟨fv, cv, e0, q1, q2⟩ := inv_fn (hf' ▸ hr.sees.rd f)
  have q3 := vrs_rds hr.slots args
  refine ⟨fun f _ => trivial, ?_⟩
  have hrun : (execOp a.eval { dst := some d, op := Op.call { callee := .value f, args := args, argTypes := at' }, type := ty, pos := pos, after := aft, guard := gd }).run X.P w =
      .ok (.enter g (fv ++ args.map a.eval ++ cv)) w := by
    simp only [ex_call, resolve, e0, Deferred.ofValue, invoke, Sem.run_bind, Sem.run_pure, Result.andThen_ok]
    exact h.ent _ _
  rw [Oper.semAt_eq _ _ _ (fun c => by simp), hrun, Oper.uponIn_enter]
  refine ⟨fun h0 => (by cases h0), callsIn_fenceR ((h.run H' c' φ Z w _ hr.hrel (by rw [← ha]; exact (q1.append q3).append q2) hnm hlt).mono ?_)⟩
  rintro e w' ⟨u, φ', Z', rfl, hv, hsp, k1, k2, k3⟩
  have hr' := hr.called k1 k2
  exact hn φ' Z' _ w' k3 (hr'.put_down hr'.more_refl (hdn d rfl) hv (fun p hs => by rw [hsp] at hs; cases hs))
end
end Go.AL

namespace Go.AL
open Go Go.RowKit
theorem SCall.frameN {P : Program} {f : FuncId} {args : List A} {Hl : Hp} {n : Nat} {post : A → Hp → Nat → Prop} (h : SCall P f args Hl n post) {H : Hp} {c : Nat}
    (hn : ∀ id bx, Hl id = some bx → id < n) (hH : ∀ id bx, Hl id = some bx → NmsB (fun i => (Hl i).isSome = true) bx ∧ H id = some bx) (ha : ∀ x ∈ args, Nms (fun i => (Hl i).isSome = true) x)
    (hp : ∀ v H' c', post v H' c' → Nms (fun i => (Hl i).isSome = true) v ∧ ∀ id bx, H' id = some bx → (Hl id).isSome = true ∧ NmsB (fun i => (Hl i).isSome = true) bx) :
    ∀ φ Z w vs, HRel P φ Z H c w → VRs φ Z w args vs → Calls P f vs w fun e w' => ∃ u v H' c' Z', e = .returned u ∧ post v H' c' ∧ VR φ Z' w' v u ∧ (∀ u', spareOf v u' = none) ∧
      HRel P φ Z' (overH H Hl H') c w' ∧ Grew P φ φ Z Z' H (overH H Hl H') w w' := by
  intro φ Z w vs hr hv
  let φs : Names := fun id => if (Hl id).isSome = true then φ id else none
  have φin : ∀ id, (Hl id).isSome = true → φs id = φ id := fun id hi => if_pos hi
  have φout : ∀ id b, φs id = some b → (Hl id).isSome = true ∧ φ id = some b := fun id b hb => by
    by_cases hi : (Hl id).isSome = true
    · exact ⟨hi, by rw [← φin id hi]; exact hb⟩
    · simp only [φs, if_neg hi] at hb; cases hb
  have same : ∀ id, (Hl id).isSome = true → H id = Hl id := fun id hi => by
    obtain ⟨bx, hbx⟩ := Option.isSome_iff_exists.1 hi
    rw [hbx]; exact (hH id bx hbx).2
  have inH : ∀ id, (Hl id).isSome = true → (H id).isSome = true := fun id hi => by rw [same id hi]; exact hi
  have absS : ∀ id j, (Hl id).isSome = true → absAt ⟨fun _ => .un, Hl, n⟩ (.box id j) = absAt ⟨fun _ => .un, H, c⟩ (.box id j) := fun id j hi => by simp only [absAt, same id hi]
  have conS : ∀ id j w, (Hl id).isSome = true → conAt φs ⟨#[], []⟩ w (.box id j) = conAt φ ⟨#[], []⟩ w (.box id j) := fun id j w hi => by simp only [conAt, φin id hi]
  have abs_some : ∀ {Hx : Hp} {k id j : Nat} {v : Value} {p : Nat × Nat}, spareOf (absAt ⟨fun _ => .un, Hx, k⟩ (.box id j)) v = some p → (Hx id).isSome = true := fun {Hx k id j v p} hs => by
    cases e : Hx id with
    | some b => rfl
    | none => simp [absAt, e, spareOf] at hs
  have hrs : HRel P φs Z Hl n w := {
    boxes := fun id bx hb => by
      obtain ⟨b, h1, h2⟩ := hr.boxes id bx (hH id bx hb).2
      have hi : (Hl id).isSome = true := by rw [hb]; rfl
      exact ⟨b, by rw [φin id hi]; exact h1, h2.nms (hH id bx hb).1 fun i b hi hb => by rw [φin i hi]; exact hb⟩
    inj := fun id id' b hi hi' h1 h2 => hr.inj id id' b (inH id hi) (inH id' hi') (φout _ _ h1).2 (φout _ _ h2).2
    zok := hr.zok
    zbox := fun b o id hz hi hb => hr.zbox b o id hz (inH id hi) (φout _ _ hb).2
    own1 := fun id j b e hl => by
      have hi := abs_some hl
      rw [absS id j hi, conS id j w hi] at hl
      obtain ⟨k0, k⟩ := hr.own1 id j b e hl
      rw [conS id j w hi]
      exact ⟨fun i hi hb => k0 i (inH i hi) (φout _ _ hb).2, k⟩
    own2 := fun id j id' j' b e e' hl hl' => by
      have hi := abs_some hl
      have hi' := abs_some hl'
      rw [absS id j hi, conS id j w hi] at hl
      rw [absS id' j' hi', conS id' j' w hi'] at hl'
      exact hr.own2 id j id' j' b e e' hl hl'
    fresh := fun id hi => by
      have : (Hl id).isSome ≠ true := fun h1 => by
        obtain ⟨bx, hbx⟩ := Option.isSome_iff_exists.1 h1
        have := hn id bx hbx; omega
      exact if_neg this }
  have mineS : ∀ b, Mine φs Hl w b → Mine φ H w b := fun b hm => by
    rcases hm with ⟨id, h1, h2⟩ | ⟨id, j, e, h1⟩
    · exact .inl ⟨id, inH id h1, (φout _ _ h2).2⟩
    · have hi := abs_some h1
      refine .inr ⟨id, j, e, ?_⟩
      rw [← conS id j w hi]
      have := absS id j hi
      simp only [absAt] at this h1 ⊢
      rw [← this]; exact h1
  have boxOut : ∀ id b, (H id).isSome = true → (Hl id).isSome ≠ true → φ id = some b → ¬ Mine φs Hl w b := fun id b h1 h2 h3 hm => by
    rcases hm with ⟨i, k1, k2⟩ | ⟨i, j, e, k1⟩
    · have := hr.inj id i b h1 (inH i k1) h3 (φout _ _ k2).2
      subst this; exact h2 k1
    · have hi := abs_some k1
      have k1' : spareOf (absAt ⟨fun _ => .un, H, c⟩ (.box i j)) (conAt φ ⟨#[], []⟩ w (.box i j)) = some (b, e) := by
        rw [← conS i j w hi, ← absS i j hi]; exact k1
      exact (hr.own1 i j b e k1').1 id h1 h3
  have spareOut : ∀ id j b e, (Hl id).isSome ≠ true → spareOf (absAt ⟨fun _ => .un, H, c⟩ (.box id j)) (conAt φ ⟨#[], []⟩ w (.box id j)) = some (b, e) → ¬ Mine φs Hl w b := fun id j b e h1 h2 hm => by
    rcases hm with ⟨i, k1, k2⟩ | ⟨i, j', e', k1⟩
    · exact (hr.own1 id j b e h2).1 i (inH i k1) (φout _ _ k2).2
    · have hi := abs_some k1
      have k1' : spareOf (absAt ⟨fun _ => .un, H, c⟩ (.box i j')) (conAt φ ⟨#[], []⟩ w (.box i j')) = some (b, e') := by
        rw [← conS i j' w hi, ← absS i j' hi]; exact k1
      have := hr.own2 id j i j' b e e' h2 k1'
      cases this; exact h1 hi
  have hvs : VRs φs Z w args vs := ⟨hv.1, fun i hi => (hv.2 i hi).nms (ha _ (mem_getD hi)) fun i b hi hb => by rw [φin i hi]; exact hb⟩
  refine (h φs Z w vs hrs hvs).mono ?_
  rintro e w' ⟨u, v, H', c', φ', Z', rfl, hpost, hv', hsp, hr', g⟩
  obtain ⟨nv, nH⟩ := hp v H' c' hpost
  have back : ∀ id b, (Hl id).isSome = true → φ' id = some b → φ id = some b := fun id b hi hb => by
    obtain ⟨bx, hbx⟩ := Option.isSome_iff_exists.1 hi
    obtain ⟨b0, h1, _⟩ := hr.boxes id bx (hH id bx hbx).2
    have := g.names id b0 (by rw [φin id hi]; exact h1)
    rw [this] at hb; cases hb; exact h1
  have fwd : ∀ id b, (Hl id).isSome = true → φ id = some b → φ' id = some b := fun id b hi hb => g.names id b (by rw [φin id hi]; exact hb)
  have ov1 : ∀ id, (Hl id).isSome = true → overH H Hl H' id = H' id := fun id hi => by
    obtain ⟨bx, hbx⟩ := Option.isSome_iff_exists.1 hi
    simp only [overH, hbx]
  have ov2 : ∀ id, (Hl id).isSome ≠ true → overH H Hl H' id = H id := fun id hi => by
    cases e : Hl id with
    | some bx => exact absurd (by rw [e]; rfl) hi
    | none => simp only [overH, e]
  have dom : ∀ id, (overH H Hl H' id).isSome = true → (H id).isSome = true := fun id hi => by
    by_cases h1 : (Hl id).isSome = true
    · exact inH id h1
    · rwa [ov2 id h1] at hi
  have blt : ∀ id b, (H id).isSome = true → φ id = some b → b < w.heap.size := fun id b h1 h2 => by
    obtain ⟨bx, hbx⟩ := Option.isSome_iff_exists.1 h1
    obtain ⟨b0, h3, h4⟩ := hr.boxes id bx hbx
    rw [h2] at h3; cases h3; exact h4.lt
  have keep : ∀ b, b < w.heap.size → ¬ Mine φs Hl w b → w'.heap[b]? = w.heap[b]? := g.frame
  have conO : ∀ id j, (H id).isSome = true → (Hl id).isSome ≠ true → conAt φ ⟨#[], []⟩ w' (.box id j) = conAt φ ⟨#[], []⟩ w (.box id j) := fun id j h1 h2 => by
    cases e : φ id with
    | none => simp only [conAt, e]
    | some b =>
      simp only [conAt, e]
      rw [World.cell?_of_block (w := w) (w' := w') (a := ⟨b, j, none⟩) (keep b (blt id b h1 e) (boxOut id b h1 h2 e))]
  have absO : ∀ id j, (Hl id).isSome ≠ true → absAt ⟨fun _ => .un, overH H Hl H', c⟩ (.box id j) = absAt ⟨fun _ => .un, H, c⟩ (.box id j) := fun id j h2 => by simp only [absAt, ov2 id h2]
  have absI : ∀ id j, (Hl id).isSome = true → absAt ⟨fun _ => .un, overH H Hl H', c⟩ (.box id j) = absAt ⟨fun _ => .un, H', c'⟩ (.box id j) := fun id j h2 => by simp only [absAt, ov1 id h2]
  have conI : ∀ id j, (Hl id).isSome = true → conAt φ ⟨#[], []⟩ w' (.box id j) = conAt φ' ⟨#[], []⟩ w' (.box id j) := fun id j h2 => by
    obtain ⟨bx, hbx⟩ := Option.isSome_iff_exists.1 h2
    obtain ⟨b0, h1, _⟩ := hr.boxes id bx (hH id bx hbx).2
    simp only [conAt, h1, fwd id b0 h2 h1]
  have mineO : ∀ id j b e, spareOf (absAt ⟨fun _ => .un, overH H Hl H', c⟩ (.box id j)) (conAt φ ⟨#[], []⟩ w' (.box id j)) = some (b, e) → (Hl id).isSome ≠ true →
      spareOf (absAt ⟨fun _ => .un, H, c⟩ (.box id j)) (conAt φ ⟨#[], []⟩ w (.box id j)) = some (b, e) := fun id j b e hl hi => by
    have h1 := dom id (abs_some hl)
    rw [absO id j hi, conO id j h1 hi] at hl; exact hl
  have mineI : ∀ id j b e, spareOf (absAt ⟨fun _ => .un, overH H Hl H', c⟩ (.box id j)) (conAt φ ⟨#[], []⟩ w' (.box id j)) = some (b, e) → (Hl id).isSome = true →
      spareOf (absAt ⟨fun _ => .un, H', c'⟩ (.box id j)) (conAt φ' ⟨#[], []⟩ w' (.box id j)) = some (b, e) := fun id j b e hl hi => by
    rw [absI id j hi, conI id j hi] at hl; exact hl
  have newMine : ∀ id j b e, spareOf (absAt ⟨fun _ => .un, H', c'⟩ (.box id j)) (conAt φ' ⟨#[], []⟩ w' (.box id j)) = some (b, e) → Mine φs Hl w b ∨ w.heap.size ≤ b := fun id j b e hl => g.mine b (.inr ⟨id, j, e, by simpa only [absAt] using hl⟩)
  have spLt : ∀ {s : St} {φ : Names} {Z : Still} {w : World} {v : Value} {b e : Nat}, SpareOk P s φ Z w v b e → b < w.heap.size := fun hk => by
    obtain ⟨_, _, _, _, _, _, _, k3, _⟩ := hk; exact lt_of_block k3
  refine ⟨u, v, H', c', Z', rfl, hpost, hv'.nms nv back, hsp, {
    boxes := fun id bx hb => by
      by_cases hi : (Hl id).isSome = true
      · rw [ov1 id hi] at hb
        obtain ⟨b, h1, h2⟩ := hr'.boxes id bx hb
        exact ⟨b, back id b hi h1, h2.nms (nH id bx hb).2 back⟩
      · rw [ov2 id hi] at hb
        obtain ⟨b, h1, h2⟩ := hr.boxes id bx hb
        exact ⟨b, h1, h2.mono (fun _ _ h => h) (fun b o hz => (g.up b o hz).1) (fun b o hz => (g.up b o hz).2) (keep b h2.lt (boxOut id b (by rw [hb]; rfl) hi h1))⟩
    inj := fun id id' b hi hi' => hr.inj id id' b (dom id hi) (dom id' hi')
    zok := hr'.zok
    zbox := fun b o id hz hi hb => by
      by_cases h1 : (Hl id).isSome = true
      · rw [ov1 id h1] at hi
        exact hr'.zbox b o id hz hi (fwd id b h1 hb)
      · have h2 := dom id hi
        have hlt := blt id b h2 hb
        exact (g.back b o hz hlt).elim (fun h3 => hr.zbox b o id h3 h2 hb) (boxOut id b h2 h1 hb)
    own1 := fun id j b e hl => by
      by_cases hi : (Hl id).isSome = true
      · have hl' := mineI id j b e hl hi
        obtain ⟨k0, k⟩ := hr'.own1 id j b e hl'
        rw [conI id j hi]
        refine ⟨fun i h1 h2 => ?_, k⟩
        by_cases h3 : (Hl i).isSome = true
        · change (overH H Hl H' i).isSome = true at h1
          rw [ov1 i h3] at h1
          exact k0 i h1 (fwd i b h3 h2)
        · have h4 := dom i h1
          have hlt := blt i b h4 h2
          exact (newMine id j b e hl').elim (boxOut i b h4 h3 h2) (fun h5 => by omega)
      · have hl' := mineO id j b e hl hi
        have h1 := dom id (abs_some hl)
        obtain ⟨k0, n', c'', i, cur, k1, k2, k3, k4, k5⟩ := hr.own1 id j b e hl'
        have hlt := lt_of_block k3
        have hnm := spareOut id j b e hi hl'
        rw [conO id j h1 hi]
        exact ⟨fun i hi hb => k0 i (dom i hi) hb, n', c'', i, cur, k1, k2, (keep b hlt hnm).trans k3, k4, fun o ho hz => (g.back b o hz hlt).elim (k5 o ho) hnm⟩
    own2 := fun id j id' j' b e e' hl hl' => by
      by_cases hi : (Hl id).isSome = true <;> by_cases hi' : (Hl id').isSome = true
      · exact hr'.own2 id j id' j' b e e' (mineI id j b e hl hi) (mineI id' j' b e' hl' hi')
      · exfalso
        have h2 := mineO id' j' b e' hl' hi'
        have hlt := spLt (hr.own1 id' j' b e' h2)
        exact (newMine id j b e (mineI id j b e hl hi)).elim (spareOut id' j' b e' hi' h2) (fun h5 => by omega)
      · exfalso
        have h2 := mineO id j b e hl hi
        have hlt := spLt (hr.own1 id j b e h2)
        exact (newMine id' j' b e' (mineI id' j' b e' hl' hi')).elim (spareOut id j b e hi h2) (fun h5 => by omega)
      · exact hr.own2 id j id' j' b e e' (mineO id j b e hl hi) (mineO id' j' b e' hl' hi')
    fresh := hr.fresh }, {
    size := g.size
    frame := fun b hb hm => g.frame b hb fun h1 => hm (mineS b h1)
    os := g.os
    tape := g.tape
    output := g.output
    up := g.up
    back := fun b o hz hb => (g.back b o hz hb).elim .inl fun h1 => .inr (mineS b h1)
    names := fun _ _ h => h
    mine := fun b hm => by
      rcases hm with ⟨id, h1, h2⟩ | ⟨id, j, e, h1⟩
      · exact .inl (.inl ⟨id, dom id h1, h2⟩)
      · have h1' : spareOf (absAt ⟨fun _ => .un, overH H Hl H', c⟩ (.box id j)) (conAt φ ⟨#[], []⟩ w' (.box id j)) = some (b, e) := by simpa only [absAt] using h1
        by_cases hi : (Hl id).isSome = true
        · exact (newMine id j b e (mineI id j b e h1' hi)).elim (fun h2 => .inl (mineS b h2)) .inr
        · have h2 := mineO id j b e h1' hi
          exact .inl (.inr ⟨id, j, e, by simpa only [absAt] using h2⟩) }⟩
def onlyL (H : Hp) (ids : List Nat) : Hp := fun j => cond (ids.any fun i => Nat.beq i j) (H j) none
theorem onlyL_some {H : Hp} {ids : List Nat} {id : Nat} {bx : B} (h : onlyL H ids id = some bx) : id ∈ ids ∧ H id = some bx := by
  unfold onlyL at h
  cases e : ids.any fun i => Nat.beq i id with
  | false => rw [e] at h; cases h
  | true =>
    rw [e] at h
    obtain ⟨i, hi, h2⟩ := List.any_eq_true.1 e
    rw [Nat.eq_of_beq_eq_true h2] at hi
    exact ⟨hi, h⟩
structure RCall (P : Program) (g : FuncId) (args : List A) (Hl : Hp) (v : A) : Prop where
  ent : Enters P g
  spare : ∀ u, spareOf v u = none
  run : ∀ H c φ Z w vs, (∀ id bx, Hl id = some bx → H id = some bx) → HRel P φ Z H c w → VRs φ Z w args vs → Calls P g vs w fun e w' =>
    ∃ u Z', e = .returned u ∧ VR φ Z' w' v u ∧ HRel P φ Z' H c w' ∧ Grew P φ φ Z Z' H H w w'
theorem RCall.of {P : Program} {g : FuncId} {args : List A} {Hl : Hp} {n : Nat} {v : A} (he : Enters P g) (hn : ∀ id bx, Hl id = some bx → id < n)
    (hH : ∀ id bx, Hl id = some bx → NmsB (fun i => (Hl i).isSome = true) bx) (ha : ∀ x ∈ args, Nms (fun i => (Hl i).isSome = true) x) (hv : Nms (fun i => (Hl i).isSome = true) v) (hs : ∀ u, spareOf v u = none)
    (h : SCall P g args Hl n fun v' H' _ => v' = v ∧ ∀ id bx, Hl id = some bx → H' id = some bx) : RCall P g args Hl v := by
  have h2 : SCall P g args Hl n fun v' H' _ => v' = v ∧ H' = Hl := h.drop fun v' H' c' hp => ⟨Hl, hp.2, hp.1, rfl⟩
  refine ⟨he, hs, fun H c φ Z w vs hsub hr hvs => ?_⟩
  refine (h2.frameN (H := H) (c := c) hn (fun id bx hb => ⟨hH id bx hb, hsub id bx hb⟩) ha (fun v' H' c' hp => by
    obtain ⟨rfl, rfl⟩ := hp
    exact ⟨hv, fun id bx hb => ⟨by rw [hb]; rfl, hH id bx hb⟩⟩) φ Z w vs hr hvs).mono ?_
  rintro e w' ⟨u, v', H', c', Z', rfl, ⟨rfl, rfl⟩, k1, k2, k3, k4⟩
  have e1 : overH H H' H' = H := by
    funext id
    unfold overH
    cases e : H' id with
    | none => rfl
    | some bx => exact (hsub id bx e).symm
  rw [e1] at k3 k4
  exact ⟨u, Z', rfl, k1, k3, k4⟩
theorem RCall.le {P : Program} {g : FuncId} {args args' : List A} {Hl Hl' : Hp} {v : A} (h : RCall P g args Hl v) (hl : args.length = args'.length) (ha : ∀ i, i < args.length → A.Le (args.getD i .un) (args'.getD i .un)) (hH : ∀ id bx, Hl id = some bx → Hl' id = some bx) : RCall P g args' Hl' v :=
  ⟨h.ent, h.spare, fun H c φ Z w vs hs hr hv => h.run H c φ Z w vs (fun id bx hb => hs id bx (hH id bx hb)) hr ⟨hv.1.trans hl.symm, fun i hi => (ha i hi).vr _ _ _ _ (hv.2 i (hl ▸ hi))⟩⟩
section
variable {X : Ctx} {r : Option Nat} {o : Oper}
theorem RCall.fire {f : Operand} {args : Array Operand} {at' : Array TypeId} {d g : Nat} {fst cap : List A} {nm : Nat} {v : A} {ids : List Nat} {S : Slots} {H : Hp} (ho : o.op = .call { callee := .value f, args := args, argTypes := at' }) (hd : o.dst = some d)
    (hf : rd S f = .fn (.func g) fst cap) (h : RCall X.P g (fst ++ rds S args.toList ++ cap) (onlyL H ids) v) : FireR X r o (opTmps o.op) ids S H ⟨[(d, v)], []⟩ nm := by
  intro hdn S' H' c' φ Z a w hr h1 h2 hnm hlt next Q hn
  obtain ⟨dst, op, ty, pos, aft, gd⟩ := o
  simp only at ho hd
  subst ho; subst hd
  have hf' : rd S' f = .fn (.func g) fst cap := by rw [← hf]; exact tmp_mem (by simp [Op.operands, Call.operands]) h1
  have ha : rds S' args.toList = rds S args.toList := rds_congr fun t ht => h1 t (mem_opTmps (by simp [Op.operands, Call.operands] at ht ⊢; exact .inr ht))
  obtain ⟨fv, cv, e0, q1, q2⟩ := inv_fn (hf' ▸ hr.sees.rd f)
  have q3 := vrs_rds hr.slots args
  refine ⟨fun f _ => trivial, ?_⟩
  have hrun : (execOp a.eval { dst := some d, op := Op.call { callee := .value f, args := args, argTypes := at' }, type := ty, pos := pos, after := aft, guard := gd }).run X.P w =
      .ok (.enter g (fv ++ args.map a.eval ++ cv)) w := by
    simp only [ex_call, resolve, e0, Deferred.ofValue, invoke, Sem.run_bind, Sem.run_pure, Result.andThen_ok]
    exact h.ent _ _
  rw [Oper.semAt_eq _ _ _ (fun c => by simp), hrun, Oper.uponIn_enter]
  have hsub : ∀ id bx, onlyL H ids id = some bx → H' id = some bx := fun id bx hb => by
    obtain ⟨k1, k2⟩ := onlyL_some hb
    rw [h2 id k1, k2]
  refine ⟨fun h0 => (by cases h0), callsIn_fenceR ((h.run H' c' φ Z w _ hsub hr.hrel (by rw [← ha]; exact (q1.append q3).append q2)).mono ?_)⟩
  rintro e w' ⟨u, Z', rfl, hv, k1, k2⟩
  have hr' := hr.called k1 k2
  exact hn φ Z' _ w' (fun _ _ => rfl) (hr'.put_down hr'.more_refl (hdn d rfl) hv (fun p hs => by rw [h.spare] at hs; cases hs))
def idsOf (l : List A) : List Nat := l.filterMap fun | .mp id => some id | _ => none
theorem RCall.does {s : St} {f : Operand} {args : Array Operand} {at' : Array TypeId} {d g : Nat} {fst cap : List A} {v : A} {ids : List Nat} (ho : o.op = .call { callee := .value f, args := args, argTypes := at' }) (hd : o.dst = some d)
    (hf : rd s.S f = .fn (.func g) fst cap) (h : RCall X.P g (fst ++ rds s.S args.toList ++ cap) (onlyL s.H ids) v) : DoesR X r o s (fun s1 => s1 = ⟨upd s.S d v, s.H, s.c⟩) := by
  intro hdn φ Z a w hr next Q hn
  have hr1 : Rel X φ Z ⟨s.S, s.H, s.c + 1⟩ a w := hr.weaken (fun t => A.Le.refl _) (fun id bx hb => ⟨bx, hb, B.Le.refl _⟩) (Nat.le_succ _)
  obtain ⟨dst, op, ty, pos, aft, gd⟩ := o
  simp only at ho hd
  subst ho; subst hd
  obtain ⟨fv, cv, e0, q1, q2⟩ := inv_fn (hf ▸ hr.sees.rd f)
  have q3 := vrs_rds hr.slots args
  refine ⟨fun f _ => trivial, ?_⟩
  have hrun : (execOp a.eval { dst := some d, op := Op.call { callee := .value f, args := args, argTypes := at' }, type := ty, pos := pos, after := aft, guard := gd }).run X.P w =
      .ok (.enter g (fv ++ args.map a.eval ++ cv)) w := by
    simp only [ex_call, resolve, e0, Deferred.ofValue, invoke, Sem.run_bind, Sem.run_pure, Result.andThen_ok]
    exact h.ent _ _
  rw [Oper.semAt_eq _ _ _ (fun c => by simp), hrun, Oper.uponIn_enter]
  refine ⟨fun h0 => (by cases h0), callsIn_fenceR ((h.run s.H s.c φ Z w _ (fun id bx hb => (onlyL_some hb).2) hr.hrel ((q1.append q3).append q2)).mono ?_)⟩
  rintro e w' ⟨u, Z', rfl, hv, k1, k2⟩
  have hr' := hr.called k1 k2
  exact hn _ φ Z' _ w' rfl (hr'.put_down hr'.more_refl (hdn d rfl) hv (fun p hs => by rw [h.spare] at hs; cases hs))
theorem NewMap.does {s : St} {f : Operand} {args : Array Operand} {at' : Array TypeId} {d g : Nat} {fst cap : List A} {v : A} {kvs : List (A × A)} (ho : o.op = .call { callee := .value f, args := args, argTypes := at' }) (hd : o.dst = some d)
    (hf : rd s.S f = .fn (.func g) fst cap) (h : NewMap X.P g (fst ++ rds s.S args.toList ++ cap) s.c v kvs) : DoesR X r o s (fun s1 => s1 = ⟨upd s.S d v, updH s.H s.c (some (.map kvs)), s.c + 1⟩) := by
  intro hdn φ Z a w hr next Q hn
  have hr1 : Rel X φ Z ⟨s.S, s.H, s.c + 1⟩ a w := hr.weaken (fun t => A.Le.refl _) (fun id bx hb => ⟨bx, hb, B.Le.refl _⟩) (Nat.le_succ _)
  exact NewMap.fire (H := s.H) ho hd hf h hdn s.S s.H (s.c + 1) φ Z a w hr1 (fun _ _ => rfl) (fun _ h => by cases h) (hr.fresh s.c (Nat.le_refl _)) (Nat.lt_succ_self _) next Q
    fun φ' Z' a' w' _ hr' => hn _ φ' Z' a' w' rfl hr'
end
end Go.AL

namespace Go.AL
open Go Go.RowKit
structure NewBlk (P : Program) (g : FuncId) (args : List A) (nm : Nat) (v : A) (cs : List A) : Prop where
  ent : Enters P g
  run : ∀ H c φ Z w vs, HRel P φ Z H c w → VRs φ Z w args vs → φ nm = none → nm < c → Calls P g vs w fun e w' =>
    ∃ u φ' Z', e = .returned u ∧ VR φ' Z' w' v u ∧ (∀ u', spareOf v u' = none) ∧ HRel P φ' Z' (updH H nm (some (.cells cs))) c w' ∧ Grew P φ φ' Z Z' H (updH H nm (some (.cells cs))) w w' ∧ ∀ k, k ≠ nm → φ' k = φ k
theorem NewBlk.of {P : Program} {g : FuncId} {args : List A} {nm k : Nat} {v v' : A} {cs : List A} (he : Enters P g) (ha : ∀ x ∈ args, Free x) (hk : ∀ x ∈ cs, Free x ∧ ∀ u, spareOf x u = none)
    (h : SCall P g args (fun _ => none) 0 fun v' H' _ => v' = v ∧ H' = ofH [(k, .cells cs)])
    (hv : ∀ φ φ' Z w u b, φ k = some b → φ' nm = some b → VR φ Z w v u → VR φ' Z w v' u) (hs : ∀ u, spareOf v' u = none) : NewBlk P g args nm v' cs := by
  refine ⟨he, fun H c φ Z w vs hr hvs hnm hlt => ?_⟩
  let φs : Names := fun _ => none
  have hrs : HRel P φs Z (fun _ => none) 0 w := {
    boxes := fun id bx hb => by cases hb
    inj := fun id id' b hi => by cases hi
    zok := hr.zok
    zbox := fun b o id hz hi hb => by cases hb
    own1 := fun id j b e hl => by simp [absAt, spareOf] at hl
    own2 := fun id j id' j' b e e' hl hl' => by simp [absAt, spareOf] at hl
    fresh := fun id hi => rfl }
  have mine0 : ∀ b, ¬ Mine φs (fun _ => none) w b := fun b hm => by
    rcases hm with ⟨id, h1, h2⟩ | ⟨id, j, e, h1⟩
    · cases h2
    · simp [absAt, spareOf] at h1
  have hvs' : VRs φs Z w args vs := ⟨hvs.1, fun i hi => (hvs.2 i hi).nms (D := fun _ => False) (ha _ (mem_getD hi)).nms fun _ _ h => h.elim⟩
  refine (h φs Z w vs hrs hvs').mono ?_
  rintro e w' ⟨u, v0, H', c', φ', Z', rfl, ⟨rfl, rfl⟩, hv', hsp, hr', g⟩
  have hHk : ofH [(k, B.cells cs)] k = some (.cells cs) := by simp [ofH, updH_apply]
  obtain ⟨b, hb1, hb2⟩ := hr'.boxes k (.cells cs) hHk
  have bnew : w.heap.size ≤ b := (g.mine b (.inl ⟨k, by rw [hHk]; rfl, hb1⟩)).resolve_left (mine0 b)
  have keep : ∀ b, b < w.heap.size → w'.heap[b]? = w.heap[b]? := fun b hb => g.frame b hb (mine0 b)
  have blt : ∀ id b, (H id).isSome = true → φ id = some b → b < w.heap.size := fun id b h1 h2 => by
    obtain ⟨bx, hbx⟩ := Option.isSome_iff_exists.1 h1
    obtain ⟨b0, h3, h4⟩ := hr.boxes id bx hbx
    rw [h2] at h3; cases h3; exact h4.lt
  have hHn : H nm = none := by
    cases e : H nm with
    | none => rfl
    | some bx => obtain ⟨b0, h3, _⟩ := hr.boxes nm bx e; rw [hnm] at h3; cases h3
  let φ2 : Names := fun id => if id = nm then some b else φ id
  have φn : φ2 nm = some b := if_pos rfl
  have φo : ∀ id, id ≠ nm → φ2 id = φ id := fun id h => if_neg h
  have up : ∀ id b, φ id = some b → φ2 id = some b := fun id b h => by
    have : id ≠ nm := fun e => by rw [e, hnm] at h; cases h
    rw [φo id this]; exact h
  have Hn : updH H nm (some (.cells cs)) nm = some (.cells cs) := by simp [updH_apply]
  have Ho : ∀ id, id ≠ nm → updH H nm (some (.cells cs)) id = H id := fun id h => by simp [updH_apply, h]
  have dom : ∀ id, (updH H nm (some (.cells cs)) id).isSome = true → id ≠ nm → (H id).isSome = true := fun id h1 h2 => by rwa [Ho id h2] at h1
  have absN : ∀ j, absAt ⟨fun _ => .un, updH H nm (some (.cells cs)), c⟩ (.box nm j) = cs.getD j .un := fun j => by simp only [absAt, Hn]
  have spN : ∀ j x, spareOf (cs.getD j .un) x = none := fun j x => by
    rw [List.getD_eq_getElem?_getD]
    cases e : cs[j]? with
    | none => rfl
    | some y => exact (hk y (List.mem_of_getElem? e)).2 x
  have absO : ∀ id j, id ≠ nm → absAt ⟨fun _ => .un, updH H nm (some (.cells cs)), c⟩ (.box id j) = absAt ⟨fun _ => .un, H, c⟩ (.box id j) := fun id j h => by simp only [absAt, Ho id h]
  have notN : ∀ {id j : Nat} {x : Value} {p : Nat × Nat}, spareOf (absAt ⟨fun _ => .un, updH H nm (some (.cells cs)), c⟩ (.box id j)) x = some p → id ≠ nm := fun {id j x p} hl e => by
    subst e; rw [absN, spN] at hl; cases hl
  have abs_some : ∀ {id j : Nat} {x : Value} {p : Nat × Nat}, spareOf (absAt ⟨fun _ => .un, H, c⟩ (.box id j)) x = some p → (H id).isSome = true := fun {id j v p} hs => by
    cases e : H id with
    | some b => rfl
    | none => simp [absAt, e, spareOf] at hs
  have conO : ∀ id j, (H id).isSome = true → id ≠ nm → conAt φ2 ⟨#[], []⟩ w' (.box id j) = conAt φ ⟨#[], []⟩ w (.box id j) := fun id j h1 h2 => by
    simp only [conAt, φo id h2]
    cases e : φ id with
    | none => rfl
    | some b0 => simp only [World.cell?_of_block (w := w) (w' := w') (a := ⟨b0, j, none⟩) (keep b0 (blt id b0 h1 e))]
  have mineO : ∀ id j b e, spareOf (absAt ⟨fun _ => .un, updH H nm (some (.cells cs)), c⟩ (.box id j)) (conAt φ2 ⟨#[], []⟩ w' (.box id j)) = some (b, e) →
      id ≠ nm ∧ (H id).isSome = true ∧ spareOf (absAt ⟨fun _ => .un, H, c⟩ (.box id j)) (conAt φ ⟨#[], []⟩ w (.box id j)) = some (b, e) := fun id j b e hl => by
    have h1 := notN hl
    rw [absO id j h1] at hl
    have h2 := abs_some hl
    rw [conO id j h2 h1] at hl
    exact ⟨h1, h2, hl⟩
  refine ⟨u, φ2, Z', rfl, hv φ' φ2 Z' w' u b hb1 φn hv', hs, {
    boxes := fun id bx hb => by
      by_cases hi : id = nm
      · subst hi
        rw [Hn] at hb; cases hb
        exact ⟨b, φn, hb2.nms (D := fun _ => False) (.cells _ fun x hx => (hk x hx).1.nms) fun _ _ h => h.elim⟩
      · rw [Ho id hi] at hb
        obtain ⟨b0, h1, h2⟩ := hr.boxes id bx hb
        exact ⟨b0, up id b0 h1, h2.mono up (fun b o hz => (g.up b o hz).1) (fun b o hz => (g.up b o hz).2) (keep b0 h2.lt)⟩
    inj := fun id id' b0 hi hi' h1 h2 => by
      by_cases e : id = nm <;> by_cases e' : id' = nm
      · rw [e, e']
      · subst e; rw [φn] at h1; cases h1
        rw [φo id' e'] at h2
        have := blt id' b (dom id' hi' e') h2; omega
      · subst e'; rw [φn] at h2; cases h2
        rw [φo id e] at h1
        have := blt id b (dom id hi e) h1; omega
      · rw [φo id e] at h1; rw [φo id' e'] at h2
        exact hr.inj id id' b0 (dom id hi e) (dom id' hi' e') h1 h2
    zok := hr'.zok
    zbox := fun b0 o id hz hi hb => by
      by_cases e : id = nm
      · subst e; rw [φn] at hb; cases hb
        exact hr'.zbox b o k hz (by rw [hHk]; rfl) hb1
      · rw [φo id e] at hb
        have h2 := dom id hi e
        have hlt := blt id b0 h2 hb
        exact (g.back b0 o hz hlt).elim (fun h3 => hr.zbox b0 o id h3 h2 hb) (mine0 b0)
    own1 := fun id j b0 e hl => by
      obtain ⟨h1, h2, h3⟩ := mineO id j b0 e hl
      obtain ⟨k0, n', c'', i, cur, k1, k2, k3, k4, k5⟩ := hr.own1 id j b0 e h3
      have hlt := lt_of_block k3
      rw [conO id j h2 h1]
      refine ⟨fun i hi hb => ?_, n', c'', i, cur, k1, k2, (keep b0 hlt).trans k3, k4, fun o ho hz => (g.back b0 o hz hlt).elim (k5 o ho) (mine0 b0)⟩
      by_cases e : i = nm
      · subst e; rw [φn] at hb; cases hb; omega
      · rw [φo i e] at hb; exact k0 i (dom i hi e) hb
    own2 := fun id j id' j' b0 e e' hl hl' => hr.own2 id j id' j' b0 e e' (mineO id j b0 e hl).2.2 (mineO id' j' b0 e' hl').2.2
    fresh := fun id hi => by rw [φo id (by omega)]; exact hr.fresh id hi }, {
    size := g.size
    frame := fun b hb _ => keep b hb
    os := g.os
    tape := g.tape
    output := g.output
    up := g.up
    back := fun b o hz hb => (g.back b o hz hb).elim .inl fun h1 => (mine0 b h1).elim
    names := up
    mine := fun b0 hm => by
      rcases hm with ⟨id, h1, h2⟩ | ⟨id, j, e, h1⟩
      · by_cases e : id = nm
        · subst e; rw [φn] at h2; cases h2; exact .inr bnew
        · rw [φo id e] at h2; exact .inl (.inl ⟨id, dom id h1 e, h2⟩)
      · obtain ⟨q1, q2, q3⟩ := mineO id j b0 e (by simpa only [absAt] using h1)
        exact .inl (.inr ⟨id, j, e, by simpa only [absAt] using q3⟩) }, φo⟩
section
variable {X : Ctx} {r : Option Nat} {o : Oper}
theorem NewBlk.fire {f : Operand} {args : Array Operand} {at' : Array TypeId} {d g : Nat} {fst cap : List A} {nm : Nat} {v : A} {cs : List A} {S : Slots} {H : Hp} (ho : o.op = .call { callee := .value f, args := args, argTypes := at' }) (hd : o.dst = some d)
    (hf : rd S f = .fn (.func g) fst cap) (h : NewBlk X.P g (fst ++ rds S args.toList ++ cap) nm v cs) : FireR X r o (opTmps o.op) [] S H ⟨[(d, v)], [(nm, .cells cs)]⟩ nm := by
  intro hdn S' H' c' φ Z a w hr h1 h2 hnm hlt next Q hn
  obtain ⟨dst, op, ty, pos, aft, gd⟩ := o
  simp only at ho hd
  subst ho; subst hd
  have hf' : rd S' f = .fn (.func g) fst cap := by rw [← hf]; exact tmp_mem (by simp [Op.operands, Call.operands]) h1
  have ha : rds S' args.toList = rds S args.toList := rds_congr fun t ht => h1 t (mem_opTmps (by simp [Op.operands, Call.operands] at ht ⊢; exact .inr ht))
  obtain ⟨fv, cv, e0, q1, q2⟩ := inv_fn (hf' ▸ hr.sees.rd f)
  have q3 := vrs_rds hr.slots args
  refine ⟨fun f _ => trivial, ?_⟩
  have hrun : (execOp a.eval { dst := some d, op := Op.call { callee := .value f, args := args, argTypes := at' }, type := ty, pos := pos, after := aft, guard := gd }).run X.P w =
      .ok (.enter g (fv ++ args.map a.eval ++ cv)) w := by
    simp only [ex_call, resolve, e0, Deferred.ofValue, invoke, Sem.run_bind, Sem.run_pure, Result.andThen_ok]
    exact h.ent _ _
  rw [Oper.semAt_eq _ _ _ (fun c => by simp), hrun, Oper.uponIn_enter]
  refine ⟨fun h0 => (by cases h0), callsIn_fenceR ((h.run H' c' φ Z w _ hr.hrel (by rw [← ha]; exact (q1.append q3).append q2) hnm hlt).mono ?_)⟩
  rintro e w' ⟨u, φ', Z', rfl, hv, hsp, k1, k2, k3⟩
  have hr' := hr.called k1 k2
  exact hn φ' Z' _ w' k3 (hr'.put_down hr'.more_refl (hdn d rfl) hv (fun p hs => by rw [hsp] at hs; cases hs))
end
end Go.AL

namespace Go.AL
open Go Go.RowKit
structure Ans (P : Program) (g : FuncId) (args : List A) (v : A) : Prop where
  ent : Enters P g
  pure : Pure P g args v
theorem AllP.cons {p : Ob} {l : List Ob} (h : p.p) (k : AllP l) : AllP (p :: l) := ⟨h, k⟩
theorem AllP.nil : AllP [] := trivial
theorem Ans.le {P : Program} {f : FuncId} {args args' : List A} {v : A} (h : Ans P f args v) (hl : args.length = args'.length) (ha : ∀ i, i < args.length → A.Le (args.getD i .un) (args'.getD i .un)) : Ans P f args' v := ⟨h.ent, h.pure.le hl ha⟩
theorem Ans.le1 {P : Program} {f : FuncId} {a a' v : A} (h : Ans P f [a] v) (ha : A.Le a a') : Ans P f [a'] v := h.le rfl fun i hi => by
  match i, hi with
  | 0, _ => exact ha
theorem Ans.un {P : Program} {f : FuncId} {as : List A} {v : A} {g : Prop} (h : Ans P f as v) : g → Ans P f as v := fun _ => h
def obP (p : Prop) : Ob := ⟨p, false, fun h => by cases h⟩
structure KeyAt (P : Program) (kt : TypeId) (kvs : List (A × A)) (k : A) (j : Option Nat) : Prop where
  ex : ∃ ks kv, concA k = some kv ∧ concKeys kvs = some ks ∧ pureRun P (Instr.checkKey ks.isEmpty 10000 kt kv) = some () ∧ pureRun P (Instr.checkKey false 10000 kt kv) = some () ∧ findIx P kt kv ks = some j ∧
    ∀ i, j = some i → Instr.sameBits 10000 (ks.getD i undef) kv = true
def ixOf (P : Program) (kt : TypeId) (kvs : List (A × A)) (k : A) : Option Nat := match concA k, concKeys kvs with
  | some kv, some ks => match findIx P kt kv ks with
    | some j => j
    | none => none
  | _, _ => none
theorem KeyAt.ix {P : Program} {kt : TypeId} {kvs : List (A × A)} {k : A} {j : Option Nat} (h : KeyAt P kt kvs k j) : ixOf P kt kvs k = j := by
  obtain ⟨ks, kv, h1, h2, _, _, h3, _⟩ := h.ex
  simp only [ixOf, h1, h2, h3]
structure LkIs (P : Program) (T : Tab) (kt et : TypeId) (kvs : List (A × A)) (k v : A) (is : Bool) : Prop where
  ex : ∃ j, KeyAt P kt kvs k j ∧ v = lkA T et kvs j ∧ is = j.isSome
theorem lookup_gives {P : Program} {T : Tab} (hT : T.Ok P) {r : Option Nat} {φ : Names} {Z : Still} {S : Slots} {H : Hp} {a : Act} {w : World} (hs : Sees φ Z S H a w) {o : Oper} {t kt et id : Nat} {x k : Operand} {ok : Bool} {kvs : List (A × A)} {v : A} {is : Bool}
    (ho : o.op = .lookup t x k ok) (ht : T.ty t = .map kt et) (he : T.ty et ≠ .none) (hx : rd S x = .mp id) (hi : H id = some (.map kvs)) (hl : LkIs P T kt et kvs (rd S k) v is) :
    Gives P r φ Z o (cond ok (.tup [v, .bool is]) v) a w := by
  obtain ⟨j, ⟨ks, kv, hk, hks, hc, _, hf, _⟩, rfl, rfl⟩ := hl.ex
  obtain ⟨dst, op, ty, pos, aft, gd⟩ := o
  simp only at ho
  subst ho
  obtain ⟨b, e0, hb⟩ := inv_mp (hx ▸ hs.rd x)
  obtain ⟨b', hb', es, h1, h2, h3⟩ := hs.boxes id _ hi
  rw [hb] at hb'; cases hb'
  have ek := conc_vr (hs.rd k) hk
  have hkeys : es.toList.map (·.key) = ks := concKeys_ok hks (by simpa using h2) fun i hi => by
    obtain ⟨e, e1, _, e3, _⟩ := h3 i hi
    exact ⟨e, by simpa using e1, e3⟩
  have hemp : es.isEmpty = ks.isEmpty := by rw [← hkeys]; cases es with | mk l => cases l <;> rfl
  have hfk := findKey_of (w := w) (by rw [hkeys]; exact hf)
  have hck : (Instr.checkKey es.isEmpty 10000 kt kv).run P w = .ok () w := by rw [hemp]; exact pureRun_ok hc
  obtain ⟨z, hz1, hz2⟩ := run_zero hT (w := w) he
  obtain ⟨u, hrun, hvr⟩ : ∃ u,
      (Instr.lookup t (.map (some b)) kv ok).run P w = .ok (if ok then .tuple #[u, .bool j.isSome] else u) w ∧ VR φ Z w (lkA T et kvs j) u := by
    cases j with
    | some j =>
      obtain ⟨e, e1, e2⟩ := hfk
      have hlt : j < kvs.length := by
        have := (List.getElem?_eq_some_iff.1 e1).1
        simp only [Array.length_toList] at this; omega
      obtain ⟨e', f1, _, _, f4⟩ := h3 j hlt
      have : e' = e := by rw [Array.getElem?_toList, f1] at e1; cases e1; rfl
      subst this
      refine ⟨e'.val, ?_, f4.down⟩
      simp [Instr.lookup, run_und (und_map hT ht), run_getMap h1, hck, e2]
    | none =>
      refine ⟨z, ?_, zeroA_vr hz2⟩
      simp [Instr.lookup, run_und (und_map hT ht), run_getMap h1, hck, hfk, hz1]
  have hsp : ∀ p, spareOf (lkA T et kvs j) u ≠ some p := fun p => by cases j <;> exact spare_dn _ _ _
  cases ok with
  | true =>
    refine gives_run hs.zok (fun c => by simp) (by rw [ex_lookup, Sem.run_bind, e0, ek, hrun]; rfl) ?_ (fun p => by simp [spareOf])
    refine .tup _ _ rfl fun i hi => ?_
    match i, hi with
    | 0, _ => simpa using hvr
    | 1, _ => exact .s _
  | false => exact gives_run hs.zok (fun c => by simp) (by rw [ex_lookup, Sem.run_bind, e0, ek, hrun]; rfl) hvr hsp
inductive Snap (H : Hp) : A → A → Prop
  | same (a : A) : Snap H a a
  | ms {id off n sz : Nat} {cs : List A} {es : List (List A)} (hi : H id = some (.cells cs)) (hl : es.length = n) (hs : ∀ e ∈ es, e.length = sz) (hle : off + n * sz ≤ cs.length)
      (he : ∀ i j, i < n → j < sz → (es.getD i []).getD j .un = (cs.getD (off + i * sz + j) .un).down) : Snap H (.ms id off n) (.sl false .any es)
inductive SnapL (H : Hp) : List A → List A → Prop
  | nil : SnapL H [] []
  | cons {a b : A} {l k : List A} (h : Snap H a b) (hl : SnapL H l k) : SnapL H (a :: l) (b :: k)
theorem SnapL.len {H : Hp} {l k : List A} (h : SnapL H l k) : l.length = k.length := by
  induction h with
  | nil => rfl
  | cons _ _ ih => simp [ih]
theorem SnapL.get {H : Hp} {l k : List A} (h : SnapL H l k) : ∀ i, i < l.length → Snap H (l.getD i .un) (k.getD i .un) := by
  induction h with
  | nil => intro i hi; simp at hi
  | cons h _ ih =>
    intro i hi
    cases i with
    | zero => exact h
    | succ i => exact ih i (by simpa using hi)
theorem Snap.up {H H' : Hp} {a b : A} (h : Snap H a b) (hH : ∀ id bx, H id = some bx → H' id = some bx) : Snap H' a b := by
  cases h with
  | same => exact .same _
  | ms hi hl hs hle he => exact .ms (hH _ _ hi) hl hs hle he
theorem SnapL.up {H H' : Hp} {l k : List A} (h : SnapL H l k) (hH : ∀ id bx, H id = some bx → H' id = some bx) : SnapL H' l k := by
  induction h with
  | nil => exact .nil
  | cons h _ ih => exact .cons (h.up hH) ih
inductive Plain : A → Prop
  | s (x : Value) : Plain (.s x)
  | tup (l : List Value) : Plain (.tup (l.map A.s))
theorem Plain.vr {v : A} (h : Plain v) {φ φ' : Names} {Z Z' : Still} {w w' : World} {u : Value} (hv : VR φ Z w v u) : VR φ' Z' w' v u ∧ ∀ p, spareOf v u ≠ some p := by
  cases h with
  | s x => have := inv_s hv; subst this; exact ⟨.s _, fun p => by simp [spareOf]⟩
  | tup l =>
    obtain ⟨vs, rfl, h1, h3⟩ := inv_tup hv
    refine ⟨.tup _ vs h1 fun i hi => ?_, fun p => by simp [spareOf]⟩
    have := h3 i hi
    have hl : i < l.length := by simpa using hi
    have e : (l.map A.s).getD i .un = .s l[i] := by simp [List.getD_eq_getElem?_getD, hl]
    rw [e] at this ⊢
    rw [inv_s this]; exact .s _
structure AnsS (P : Program) (H : Hp) (g : FuncId) (as as' : List A) (v : A) : Prop where
  ent : Enters P g
  pure : Pure P g as' v
  one : Plain v
  snap : SnapL H as as'
theorem callS_gives {P : Program} {T : Tab} (hT : T.Ok P) {r : Option Nat} {φ : Names} {Z : Still} {S : Slots} {H : Hp} {a : Act} {w : World} (hs : Sees φ Z S H a w) {o : Oper} {f : Operand} {args : Array Operand} {at' : Array TypeId} {g : Nat} {fst cap as' : List A} {v : A}
    (ho : o.op = .call { callee := .value f, args := args, argTypes := at' }) (hf : rd S f = .fn (.func g) fst cap) (h : AnsS P H g (fst ++ rds S args.toList ++ cap) as' v) : Gives P r φ Z o v a w := by
  obtain ⟨dst, op, ty, pos, aft, gd⟩ := o
  simp only at ho
  subst ho
  obtain ⟨fv, cv, e0, h1, h2⟩ := inv_fn (hf ▸ hs.rd f)
  have h3 := vrs_rds hs.slots args
  have hvs := (h1.append h3).append h2
  let Z' : Still := fun b o => Z b o ∨ ∃ id cs, H id = some (.cells cs) ∧ φ id = some b ∧ o < cs.length
  have hz' : ∀ b o, Z' b o → ∃ u, w.cell? ⟨b, o, none⟩ = some u := fun b o hb => by
    rcases hb with hb | ⟨id, cs, hi, hb, hlt⟩
    · exact hs.zok b o hb
    · obtain ⟨b', hb', c, t, hc, hle, _⟩ := hs.boxes id _ hi
      rw [hb] at hb'; cases hb'
      have : o < c.size := by omega
      exact ⟨c[o], by simp [World.cell?, hc, this]⟩
  have hv' : VRs φ Z' w as' (fv ++ args.map a.eval ++ cv) := ⟨hvs.1.trans h.snap.len, fun i hi => by
    have hi' : i < (fst ++ rds S args.toList ++ cap).length := by rw [h.snap.len]; exact hi
    have hx := hvs.2 i hi'
    have hsn := h.snap.get i hi'
    generalize (fst ++ rds S args.toList ++ cap).getD i .un = x at hx hsn
    generalize (fv ++ args.map a.eval ++ cv).getD i undef = u at hx
    generalize as'.getD i .un = y at hsn
    cases hsn with
    | same => exact hx.mono (fun _ _ h => h) (fun _ _ h => .inl h) (fun _ _ _ => rfl)
    | @ms id off n sz cs es hi hl hes hle he =>
      obtain ⟨b, c, rfl, hb, hnc, hcm⟩ := inv_ms hx
      obtain ⟨b', hb', cc, t, hc, hlc, hcell⟩ := hs.boxes id _ hi
      rw [hb] at hb'; cases hb'
      subst hl
      have lt : ∀ i j, i < es.length → j < sz → off + i * sz + j < cs.length := fun i j hi hj => by
        have : (i + 1) * sz ≤ es.length * sz := Nat.mul_le_mul_right sz (by omega)
        rw [Nat.succ_mul] at this; omega
      refine .sl .any es b off sz c (fun i j => cc.getD (off + i * sz + j) undef) hnc (fun h => by cases h) hcm hes (fun i j hi' hj => .inr ⟨id, cs, hi, hb, lt i j hi' hj⟩) (fun i j hi hj => ?_) (fun i j hi hj => (hcell _ (lt i j hi hj)).2) (fun i j hi hj => ?_)
      · have h5 := lt i j hi hj
        have : off + i * sz + j < cc.size := by omega
        simp [World.cell?, hc, this]
      · rw [he i j hi hj]
        exact ((hcell _ (lt i j hi hj)).1.mono (fun _ _ h => h) (fun _ _ h => .inl h) (fun _ _ _ => rfl)).down⟩
  intro next Q hn
  refine ⟨fun f _ => trivial, ?_⟩
  have hrun : (execOp a.eval { dst := dst, op := Op.call { callee := .value f, args := args, argTypes := at' }, type := ty, pos := pos, after := aft, guard := gd }).run P w =
      .ok (.enter g (fv ++ args.map a.eval ++ cv)) w := by
    simp only [ex_call, resolve, e0, Deferred.ofValue, invoke, Sem.run_bind, Sem.run_pure, Result.andThen_ok]
    exact h.ent _ _
  rw [Oper.semAt_eq _ _ _ (fun c => by simp), hrun, Oper.uponIn_enter]
  refine ⟨fun h0 => (by cases h0), callsIn_fenceR ((h.pure φ Z' w _ hz' hv').mono ?_)⟩
  rintro e w' ⟨u, Z2, rfl, m, hu, _⟩
  obtain ⟨eu, es⟩ := h.one.vr (φ' := φ) (Z' := Z) (w' := w') hu
  exact hn _ w' Z ⟨m.quiet, fun _ _ h => h, fun _ _ h _ => h, fun b o hb hle => by
    obtain ⟨v, hv⟩ := hs.zok b o hb
    have := lt_of_cell hv; omega⟩ eu (fun b e he => absurd he (es _))
def OpX (P : Program) (S : Slots) (H : Hp) (op : Op) (ty : TypeId) (v : A) : Prop :=
  ∀ S' H', (∀ t, t ∈ opTmps op → S' t = S t) → (∀ id bx, H id = some bx → H' id = some bx) → ∀ r φ Z a w (o : Oper), o.op = op → o.type = ty → Sees φ Z S' H' a w → Gives P r φ Z o v a w
theorem OpX.congr {P : Program} {S S' : Slots} {H H' : Hp} {op : Op} {ty : TypeId} {v : A} (h : OpX P S H op ty v) (hS : ∀ t, t ∈ opTmps op → S' t = S t) (hH : ∀ id bx, H id = some bx → H' id = some bx) : OpX P S' H' op ty v :=
  fun S2 H2 h1 h2 => h S2 H2 (fun t ht => (h1 t ht).trans (hS t ht)) (fun id bx hb => h2 id bx (hH id bx hb))
inductive OpM (P : Program) (T : Tab) (S : Slots) (H : Hp) : Op → TypeId → A → Prop
  | v {op : Op} {ty : TypeId} {a : A} (h : OpV P T S H op ty a) : OpM P T S H op ty a
  | lk {t ty kt et id : Nat} {x k : Operand} {ok : Bool} {kvs : List (A × A)} {v : A} {is : Bool} (ht : T.ty t = .map kt et) (he : T.ty et ≠ .none) (hx : rd S x = .mp id) (hi : H id = some (.map kvs)) (hl : LkIs P T kt et kvs (rd S k) v is) :
      OpM P T S H (.lookup t x k ok) ty (cond ok (.tup [v, .bool is]) v)
  | cs {ty g : Nat} {f : Operand} {args : Array Operand} {at' : Array TypeId} {fst cap as' : List A} {v : A} (hf : rd S f = .fn (.func g) fst cap) (h : AnsS P H g (fst ++ rds S args.toList ++ cap) as' v) :
      OpM P T S H (.call { callee := .value f, args := args, argTypes := at' }) ty v
  | x {op : Op} {ty : TypeId} {v : A} (h : OpX P S H op ty v) : OpM P T S H op ty v
theorem OpM.sound {P : Program} {T : Tab} (hT : T.Ok P) {r : Option Nat} {φ : Names} {Z : Still} {S : Slots} {H : Hp} {a : Act} {w : World} (hs : Sees φ Z S H a w) {o : Oper} {v : A} (h : OpM P T S H o.op o.type v) : Gives P r φ Z o v a w := by
  generalize ho : o.op = op at h
  generalize hty : o.type = ty at h
  cases h with
  | v h => subst ho; subst hty; exact h.sound hT hs
  | lk ht he hx hi hl => exact lookup_gives hT hs ho ht he hx hi hl
  | cs hf h => exact callS_gives hT hs ho hf h
  | x h => exact h S H (fun _ _ => rfl) (fun _ _ h => h) _ _ _ _ _ _ ho hty hs
theorem OpM.congr {P : Program} {T : Tab} {S S' : Slots} {H H' : Hp} {op : Op} {ty : TypeId} {v : A} (h : OpM P T S H op ty v) (hS : ∀ t, t ∈ opTmps op → S' t = S t) (hH : ∀ id bx, H id = some bx → H' id = some bx) : OpM P T S' H' op ty v := by
  cases h with
  | v h => exact .v (h.congr hS fun id cs h => hH id _ h)
  | x h => exact .x (h.congr hS hH)
  | @lk t ty kt et id x k ok kvs v is ht he hx hi hl =>
    have ex : rd S' x = rd S x := rd_congr fun t e => hS t (mem_opTmps (e ▸ by simp [Op.operands]))
    have ek : rd S' k = rd S k := rd_congr fun t e => hS t (mem_opTmps (e ▸ by simp [Op.operands]))
    exact .lk ht he (ex ▸ hx) (hH _ _ hi) (ek ▸ hl)
  | @cs ty g f args at' fst cap as' v hf h =>
    have ef : rd S' f = rd S f := rd_congr fun t e => hS t (mem_opTmps (e ▸ by simp [Op.operands, Call.operands]))
    have ea : rds S' args.toList = rds S args.toList := rds_congr fun t ht => hS t (mem_opTmps (by simp [Op.operands, Call.operands] at ht ⊢; exact .inr ht))
    exact .cs (ef ▸ hf) (by rw [ea]; exact ⟨h.ent, h.pure, h.one, h.snap.up hH⟩)
section
variable {X : Ctx} {T : Tab} {r : Option Nat} {s : St} {ops : Array Oper} {o : Oper} {K : St → Prop}
theorem DoesP.valM (hT : T.Ok X.P) {d : Nat} {v : A} (hd : o.dst = some d) (h : OpM X.P T s.S s.H o.op o.type v) (k : K { s with S := upd s.S d v }) : DoesP X r o s K := by
  intro hdn φ Z a w hr next Q hn
  refine OpM.sound hT hr.sees h next Q fun u w' Z' m hv hs => ?_
  rw [hd]
  exact hn _ Z' _ w' k (hr.put m (hdn d hd) hv (hs.ok hr d))
def gset : Op → Nat → Bool
  | .pick (.tmp c) _ _, t => Nat.beq t c
  | .pick _ _ _, _ => false
  | _, _ => true
def gS (op : Op) (S : Slots) : Slots := fun t => cond (gset op t) (unG (S t)) (S t)
theorem gq_f {x : Bool} (h : x = false) : gq x false = true := by rw [h]; rfl
theorem gq_t {x : Bool} (h : x = true) : gq x true = true := by rw [h]; rfl
theorem gq_c {a y w : Bool} (h : a = true) (k : y = w) : cond a (gq y w) false = true := by rw [h, k]; cases w <;> rfl
theorem gq_c2 {a y w : Bool} (h : cond a (gq y w) false = true) : a = true ∧ y = w := by cases a <;> cases y <;> cases w <;> simp_all [gq]
theorem step_valgM (hT : T.Ok X.P) {d j t : Nat} {want q : Bool} {v : A} (hg : o.guard = some (j, want)) (hj : (ops[j]?).bind (·.dst) = some t) (ht : gv (s.S t) want = some q) (hd : o.dst = some d)
    (hs : q = true → ∀ t', t' ∈ opTmps o.op → gset o.op t' = true → guardOf (s.S t') = true) (h : q = true → OpM X.P T (gS o.op s.S) s.H o.op o.type v)
    (hdn : ∀ d, o.dst = some d → d < X.nt) {φ : Names} {Z : Still} {a : Act} {w : World} (hr : Rel X φ Z s a w) {next : Act → World → Prop} {Q : Exit → Act → World → Prop}
    (hn : ∀ Z' a' w', Rel X φ Z' { s with S := upd s.S d (.cnd q v) } a' w' → next a' w') : StepW X.P r ops o a w next Q := by
  have hw := wanted_gv (ops := ops) hr hg hj ht
  unfold StepW
  rw [hw]
  cases hq : q with
  | true =>
    simp only [if_true]
    have h1 : OpM X.P T (fun t => if t ∈ opTmps o.op ∧ gset o.op t = true then unG (s.S t) else s.S t) s.H o.op o.type v :=
      (h hq).congr (fun t ht => by unfold gS; cases hg : gset o.op t <;> simp [ht, hg]) (fun _ _ h => h)
    have hsees : Sees φ Z (fun t => if t ∈ opTmps o.op ∧ gset o.op t = true then unG (s.S t) else s.S t) s.H a w := ⟨fun t => by
      show VR φ Z w (if t ∈ opTmps o.op ∧ gset o.op t = true then unG (s.S t) else s.S t) _
      split
      · rename_i hm
        have h2 := hs hq t hm.1 hm.2
        have h3 := hr.slots t
        cases hst : s.S t with
        | cnd g' a' =>
          rw [hst] at h2 h3
          cases h3 with
          | cnd _ _ _ h4 _ => exact h4 h2
        | _ => rw [hst] at h3; exact h3
      · exact hr.slots t, hr.boxes, hr.zok⟩
    refine OpM.sound hT hsees h1 next Q fun u w' Z' m hv hsp => ?_
    rw [hd]
    rw [hq] at hn
    exact hn Z' _ w' (hr.put m (hdn d hd) (.cnd _ _ _ (fun _ => hv) (fun h => by cases h)) (fun b e he => by simp [spareOf] at he))
  | false =>
    simp only [Bool.false_eq_true, if_false]
    rw [hd]
    rw [hq] at hn
    exact hn Z _ w (hr.put hr.more_refl (hdn d hd) (.cnd _ _ _ (fun h => by cases h) fun _ => rfl) (fun b e he => by simp [spareOf] at he))
theorem does_valgM (hT : T.Ok X.P) {d j t : Nat} {want q : Bool} {v : A} (hg : o.guard = some (j, want)) (hj : (ops[j]?).bind (·.dst) = some t) (ht : gv (s.S t) want = some q) (hd : o.dst = some d)
    (hs : q = true → ∀ t', t' ∈ opTmps o.op → gset o.op t' = true → guardOf (s.S t') = true) (h : q = true → OpM X.P T (gS o.op s.S) s.H o.op o.type v)
    (k : K { s with S := upd s.S d (.cnd q v) }) : Does X r ops o s K :=
  fun hdn φ Z a w hr next Q hn => step_valgM hT hg hj ht hd hs h hdn hr fun Z' a' w' hr' => hn _ φ Z' a' w' k hr'
end
theorem flat_get {sz : Nat} : ∀ {ys : List (List A)}, (∀ y ∈ ys, y.length = sz) → ∀ k, k < ys.length * sz → ys.flatten.getD k .un = (ys.getD (k / sz) []).getD (k % sz) .un
  | [], _, k, hk => by simp at hk
  | y :: ys, h, k, hk => by
    have hy := h y (List.mem_cons_self ..)
    have h0 : 0 < sz := Nat.pos_of_ne_zero fun e => by subst e; simp at hk
    rw [List.flatten_cons]
    by_cases h1 : k < sz
    · rw [Nat.div_eq_of_lt h1, Nat.mod_eq_of_lt h1]
      simp [List.getD_eq_getElem?_getD, List.getElem?_append, hy, h1]
    · have e1 : k / sz = (k - sz) / sz + 1 := by rw [Nat.div_eq_sub_div h0 (by omega)]
      have e2 : k % sz = (k - sz) % sz := by rw [Nat.mod_eq_sub_mod (by omega)]
      have e3 : (y ++ ys.flatten).getD k .un = ys.flatten.getD (k - sz) .un := by
        simp [List.getD_eq_getElem?_getD, List.getElem?_append, hy, h1]
      rw [e3, flat_get (fun z hz => h z (List.mem_cons_of_mem _ hz)) (k - sz) (by simp only [List.length_cons, Nat.add_mul, Nat.one_mul] at hk; omega), e1, e2]
      rfl
theorem flat_len {sz : Nat} : ∀ {ys : List (List A)}, (∀ y ∈ ys, y.length = sz) → ys.flatten.length = ys.length * sz
  | [], _ => by simp
  | y :: ys, h => by
    rw [List.flatten_cons, List.length_append, h y (List.mem_cons_self ..), flat_len fun z hz => h z (List.mem_cons_of_mem _ hz), List.length_cons, Nat.add_mul, Nat.one_mul]; omega
def litW (T : Tab) (S : Slots) (t : TypeId) (n : Nat) (parts : Array (Nat × Operand)) : Option (List A × List Ob) := match T.ty t with
  | .slice e => match T.ty e, T.sz e with
    | .none, _ => none
    | _, 0 => none
    | _, _ => match sameN (parts.toList.map (·.1)) (List.range' 0 n), (parts.toList.map fun p => rd S p.2).all fun v => Nat.beq (cellsA v).length (T.sz e) && okPart v with
      | true, true => some ((((parts.toList.map fun p => rd S p.2).map cellsA).flatten).map A.down, [.of (n * T.sz e ≤ 16777216), .of (0 < n)])
      | _, _ => none
  | _ => none
theorem litW_run {T : Tab} {P : Program} (hT : T.Ok P) {φ : Names} {Z : Still} {S : Slots} {H : Hp} {a : Act} {w : World} (hs : Sees φ Z S H a w) {t n : Nat} {parts : Array (Nat × Operand)} {cs : List A} {p : List Ob}
    (h : litW T S t n parts = some (cs, p)) (hp : AllP p) : ∃ (e : TypeId) (cs0 : List A) (cells' : Array Value), cs = cs0.map A.down ∧ VRc φ Z w cs0 cells' ∧
      (Instr.buildSlice t n (parts.map fun (i, x) => (i, a.eval x))).run P w = .ok (.slice (some ⟨w.heap.size, 0, none⟩) n n) (w.alloc (.cells cells' e)) ∧ n ≤ maxLen := by
  unfold litW at h
  split at h
  · rename_i e ht
    split at h
    · cases h
    · cases h
    · rename_i he h0
      split at h
      · rename_i h4 h5
        simp only [Option.some.injEq, Prod.mk.injEq] at h
        obtain ⟨rfl, rfl⟩ := h
        obtain ⟨hb, hn, _⟩ := hp
        have hb : n * T.sz e ≤ 16777216 := hb
        have hn : 0 < n := hn
        have h0 : 0 < T.sz e := Nat.pos_of_ne_zero h0
        have hx := sameN_eq h4
        have hlen : parts.size = n := by have := congrArg List.length hx; simpa using this
        generalize hvs : (parts.toList.map fun p => rd S p.2) = vs at *
        have hvl : vs.length = n := by rw [← hvs]; simpa using hlen
        have h3 : ∀ v ∈ vs, (cellsA v).length = T.sz e ∧ okPart v = true := fun v hv => by have := List.all_eq_true.1 h5 v hv; simp only [Bool.and_eq_true] at this; exact ⟨Nat.eq_of_beq_eq_true this.1, this.2⟩
        subst hvl
        obtain ⟨z, hz1, hz2⟩ := run_zero hT (w := w) he
        have hzs := hz2.1
        let flat : Array Value := (Array.range (vs.length * T.sz e)).map (fun k => z.cells[k % z.cells.size]!)
        let flatA : List A := (List.range (vs.length * T.sz e)).map fun k => (T.zr e).getD (k % T.sz e) .un
        have hflat : VRc φ Z w flatA flat := by
          refine ⟨by simp [flat, flatA], fun i hi => ?_⟩
          simp only [flatA, List.length_map, List.length_range] at hi
          have hm : i % T.sz e < T.sz e := Nat.mod_lt _ h0
          have e1 : flat.getD i undef = z.cells.getD (i % T.sz e) undef := by
            simp [flat, Array.getD_eq_getD_getElem?, hi, hzs, hm]
          have e2 : flatA.getD i .un = (T.zr e).getD (i % T.sz e) .un := by
            simp [flatA, List.getD_eq_getElem?_getD, hi]
          rw [e1, e2]
          exact (zero_vrc (φ := φ) (Z := Z) (w := w) hz2).2 _ (by rw [hz2.2.1]; exact hm)
        obtain ⟨cs', k1, k2, _, k4⟩ := fillA_lit (sz := T.sz e) vs 0 flatA h3 (by simp [flatA])
        have hq : (parts.map fun (i, x) => (i, a.eval x)).toList.map (·.1) = List.range' 0 vs.length := by rw [← hx]; simp [Function.comp_def]
        obtain ⟨cells', k5, k6⟩ := fill_sim (φ := φ) (Z := Z) (w := w) (place := fun i => some (i * T.sz e, T.sz e)) (litPs 0 vs) (parts.map fun (i, x) => (i, a.eval x)).toList flatA cs' flat (by rw [hq, litPs_fst]) (fun i hi => by
          rw [litPs_snd]
          have hl : (litPs 0 vs).length = vs.length := by have := congrArg List.length (litPs_fst 0 vs); simpa using this
          have hlt : i < parts.size := by omega
          have := hs.rd (parts[i]).2
          subst hvs
          simpa [List.getD_eq_getElem?_getD, hlt] using this) hflat k1
        have hcs : cs'.length = vs.length * T.sz e := by rw [k2]; simp [flatA]
        have hfs : ∀ z ∈ vs.map cellsA, z.length = T.sz e := fun z hz => by obtain ⟨v, hv, rfl⟩ := List.mem_map.1 hz; exact (h3 v hv).1
        have hfl : (vs.map cellsA).flatten.length = vs.length * T.sz e := by rw [flat_len hfs, List.length_map]
        have hsame : ∀ j, j < vs.length * T.sz e → (vs.map cellsA).flatten.getD j .un = cs'.getD j .un := fun j hj => by
          rw [flat_get hfs j (by rw [List.length_map]; exact hj)]
          have q1 : j / T.sz e < vs.length := Nat.div_lt_of_lt_mul (by rw [Nat.mul_comm]; exact hj)
          have q2 := Nat.mod_lt j h0
          have q3 := k4 (j / T.sz e) (j % T.sz e) q1 q2
          rw [Nat.zero_add, Nat.div_add_mod' j _] at q3
          rw [q3]
          simp [List.getD_eq_getElem?_getD, q1]
        refine ⟨e, (vs.map cellsA).flatten, cells', rfl, ⟨by rw [k6.1, hcs, hfl], fun i hi => ?_⟩, ?_, ?_⟩
        · rw [hfl] at hi
          have := k6.2 i (by omega)
          rw [hsame i hi]; exact this
        · have hif : ¬ (vs.length * T.sz e > 2 ^ 24) := by have : (2:Nat) ^ 24 = 16777216 := rfl; omega
          have hne : ¬ vs.length * T.sz e = 0 := fun h => (Nat.mul_eq_zero.1 h).elim (by omega) (by omega)
          unfold Instr.buildSlice
          simp only [Sem.run_bind, underlying, run_program, Result.andThen_ok, und_slice hT ht, Sem.run_pure, run_size hT he, hif, if_false]
          rw [if_neg hne]
          simp only [Sem.run_bind, hz1, Result.andThen_ok, Sem.run_pure]
          have : Instr.fill (fun i => some (i * T.sz e, T.sz e)) ((Array.range (vs.length * T.sz e)).map (fun x => z.cells[x % z.cells.size]!)) (parts.map fun (i, x) => (i, a.eval x)).toList = some cells' := k5
          rw [this]
          simp [newRow]
        · have : vs.length ≤ vs.length * T.sz e := Nat.le_mul_of_pos_right _ h0
          simp only [maxLen]; omega
      · cases h
  · cases h
section
variable {X : Ctx} {T : Tab} {r : Option Nat} {s : St} {o : Oper} {K : St → Prop}
theorem DoesR.app1 (hT : T.Ok X.P) {d tx t e : Nat} {y : Operand} {nil2 : Bool} {cap2 : Cap} {ys : List (List A)} (ho : o.op = .call { callee := .builtin .append, args := #[.tmp tx, y], argTypes := #[t, t] }) (hd : o.dst = some d)
    (ht : T.ty t = .slice e) (he : T.ty e ≠ .none) (h0 : 0 < T.sz e) (hx : s.S tx = .sl false .exact []) (hy : rd s.S y = .sl nil2 cap2 ys)
    (hne : ys ≠ []) (hs : ∀ z ∈ ys, z.length = T.sz e) (hb : ys.length * T.by' e ≤ 140737488355328) (hm : ys.length ≤ maxLen)
    (k : K ⟨upd s.S d (.ms s.c 0 ys.length), updH s.H s.c (some (.cells (ys.flatten.map A.down))), s.c + 1⟩) : DoesR X r o s K := by
  intro hdn φ Z a w hr next Q hn
  obtain ⟨dst, op, ty, pos, aft, gd⟩ := o
  simp only at ho hd
  subst ho; subst hd
  obtain ⟨i, hi, hi1, hi2, z, hiz, hzf⟩ := hT.inf e he
  have hvx : VR φ Z w (.sl false .exact []) (a.tmps.getD tx undef) := hx ▸ hr.slots tx
  have hvy := hy ▸ hr.sees.rd y
  have hev : (#[.tmp tx, y] : Array Operand).map a.eval = #[a.tmps.getD tx undef, a.eval y] := by simp [Act.eval]
  have hpos : 0 < ys.length := by cases ys with | nil => exact absurd rfl hne | cons y ys => simp
  have hn2 : nil2 = false := by
    rcases inv_sl hvy with ⟨_, h1, _⟩ | ⟨h1, _⟩ | ⟨h1, _⟩
    · exact absurd h1 hne
    · exact h1
    · exact h1
  subst hn2
  obtain ⟨by1, offy, cy, valsy, ey, ky1, ky2, ky3, ky4, ky5, ky6, ky7, ky8⟩ := sl_flat hvy hne hs
  obtain ⟨ax, ex⟩ : ∃ ax, a.tmps.getD tx undef = .slice (some ax) 0 0 := by
    rcases inv_sl hvx with ⟨h, _⟩ | ⟨_, _, a3, h1⟩ | ⟨_, b, off, sz, c, val, h1, h2, h3, _⟩
    · cases h
    · exact ⟨a3, h1⟩
    · have := h3 rfl; subst this; exact ⟨_, h1⟩
  have hnews : ∀ j x, valsy[j]? = some x → w.cell? ((⟨by1, offy, none⟩ : Addr).add j) = some x := fun j x hj => by rw [add_addr]; exact ky6 j x hj
  have hsmall : ((0 + ys.length : Nat) : Int) ≤ 9223372036854775807 := by simp only [maxLen] at hm; omega
  have hrun := run_append_grow (P := X.P) w t ty e i z (und_slice hT ht) hi hiz ax 0 0 [] (by simp) (fun j x hj => by simp at hj)
    ⟨by1, offy, none⟩ ys.length cy valsy (by rw [ky4, hi1]) hnews (by omega) hsmall (growslice_fits (by omega) (by rw [hi2]; simpa using hb))
  have hge := grownCap_ge w (0 + ys.length) 0 e
  have hcm := grownCap_le_maxLen w (0 + ys.length) 0 e (by simpa using hm)
  have hfl := flat_len hs
  have hr1 : Rel X φ Z s a w.drew := hr.drew _
  have m : More w.drew (w.drew.alloc (.cells (([] : List Value).toArray ++ valsy.toArray ++ Builtin.zeroCells z.cells (grownCap w (0 + ys.length) 0 e - (0 + ys.length))) e)) Z Z := ⟨Quiet.alloc _ _, fun _ _ h => h, fun _ _ h _ => h, fun b o hz hb => by have := hr1.zlt hz; omega⟩
  have hnm := hr.fresh _ (Nat.le_refl s.c)
  have up : ∀ id b, φ id = some b → (fun i => cond (Nat.beq i s.c) (some w.drew.heap.size) (φ i)) id = some b := fun id b hid => by
    have : id ≠ s.c := fun e => by rw [e, hnm] at hid; cases hid
    simp [beq_no this, hid]
  have hbr : BR (fun i => cond (Nat.beq i s.c) (some w.drew.heap.size) (φ i)) Z (w.drew.alloc (.cells (([] : List Value).toArray ++ valsy.toArray ++ Builtin.zeroCells z.cells (grownCap w (0 + ys.length) 0 e - (0 + ys.length))) e)) w.drew.heap.size (.cells (ys.flatten.map A.down)) := by
    refine ⟨_, _, heap_alloc_new w.drew _, by rw [List.length_map, hfl]; simp only [Array.size_append, List.size_toArray, List.length_nil, ky4]; omega, fun j hj => ?_⟩
    have hj : j < ys.length * T.sz e := by rw [List.length_map, hfl] at hj; exact hj
    have hjv : j < valsy.length := by omega
    have e1 : ((([] : List Value).toArray ++ valsy.toArray ++ Builtin.zeroCells z.cells (grownCap w (0 + ys.length) 0 e - (0 + ys.length))).getD j undef) = valsy.getD j undef := by
      rw [Array.getD_eq_getD_getElem?, Array.getElem?_append_left (by simpa using hjv)]
      simp [List.getD_eq_getElem?_getD]
    have hsz0 : 0 < T.sz e := h0
    have hdm : j / T.sz e * T.sz e + j % T.sz e = j := Nat.div_add_mod' j _
    have h8 := ky8 (j / T.sz e) (j % T.sz e) (Nat.div_lt_of_lt_mul (by rw [Nat.mul_comm]; exact hj)) (Nat.mod_lt _ h0)
    rw [hdm, ← flat_get hs j hj] at h8
    have e2 : (ys.flatten.map A.down).getD j .un = (ys.flatten.getD j .un).down := by
      have hj3 : j < ys.flatten.length := by omega
      rw [List.getD_eq_getElem?_getD, List.getElem?_map, List.getD_eq_getElem?_getD, List.getElem?_eq_getElem hj3]; rfl
    have h8 : VR φ Z w.drew (ys.flatten.getD j .un) (valsy.getD j undef) := VR.mono (φ := φ) (φ' := φ) (Z := Z) (Z' := Z) (w := w) (w' := w.drew) (fun _ _ h => h) (fun _ _ h => h) (fun b o _ => rfl) h8
    rw [e1, e2]
    refine ⟨(h8.mono up (fun _ _ h => h) (fun b o hz => m.quiet.cell (hr1.zlt hz))).down, ky7 _ ?_⟩
    rw [List.getD_eq_getElem?_getD, List.getElem?_eq_getElem hjv]
    exact List.getElem_mem hjv
  have h1 := hr1.newBox (bx := .cells (ys.flatten.map A.down)) (b := w.drew.heap.size) (nm := s.c) (c' := s.c + 1) m hnm (Nat.le_succ _) (Nat.lt_succ_self _) (Nat.le_refl _) (fun o hz => by have := hr1.zlt hz; omega) hbr
    (fun j v p => by simp only [cellOf, getD_map_dn]; exact spare_dn _ _ _)
  have hv : VR (fun i => cond (Nat.beq i s.c) (some w.drew.heap.size) (φ i)) Z (w.drew.alloc (.cells (([] : List Value).toArray ++ valsy.toArray ++ Builtin.zeroCells z.cells (grownCap w (0 + ys.length) 0 e - (0 + ys.length))) e)) (.ms s.c 0 ys.length) (.slice (some ⟨w.drew.heap.size, 0, none⟩) ys.length (grownCap w (0 + ys.length) 0 e)) :=
    .ms _ _ _ _ _ (by simp) (by omega) hcm
  have h2 := h1.put_down (h1.more_refl) (hdn d rfl) hv (fun p => by simp [spareOf])
  refine wp_run (fun c => by simp) ?_ (hn _ _ Z _ _ k h2)
  rw [ex_builtin, bi_append, Sem.run_bind, hev, ex, ey, hrun, Nat.zero_add]; rfl
end
def forceAs {α : Type} : List A → (List A → α) → α
  | [], k => k []
  | a :: l, k => forceK a fun a => forceAs l fun l => k (a :: l)
theorem forceAs_eq {α : Type} : ∀ (l : List A) (k : List A → α), forceAs l k = k l
  | [], k => rfl
  | a :: l, k => by rw [forceAs, forceK_eq, forceAs_eq l]
def EqIs (T : Tab) (op : BinOp) (t : TypeId) (x y : Operand) (u v : A) (r : Bool) : Prop := ∃ a b, concA u = some a ∧ concA v = some b ∧ T.eqv op t x y a b = some (.bool r)
def OpIs (T : Tab) (op : BinOp) (t : TypeId) (x y : Operand) (u v : A) (r : Int) : Prop := ∃ a b, concA u = some a ∧ concA v = some b ∧ T.eqv op t x y a b = some (.int .i64 r)
def evM0 (P : Program) (T : Tab) (S : Slots) (H : Hp) (ht : Option (List A)) (op : Op) (ty : TypeId) : Option (A × List Ob) := match op with
  | .call { callee := .value f, args, .. } => match rd S f, ht with
    | .fn (.func g) fst cap, some [v] => forceAs (fst ++ rds S args.toList ++ cap) fun as => some (v, [obP (Ans P g as v)])
    | .fn (.func g) fst cap, some [v, .agg as'] => forceAs (fst ++ rds S args.toList ++ cap) fun as => some (v, [obP (AnsS P H g as as' v)])
    | _, _ => none
  | .load t x => match ht with
    | some [v] => match rd S x, T.ty t with
      | _, .none => none
      | .pt cs, .arr _ _ => some (v, [obP (A.agg (cs.take (T.sz t)) = v), .of (T.sz t ≤ cs.length)])
      | .pt cs, .struct _ => some (v, [obP (A.agg (cs.take (T.sz t)) = v), .of (T.sz t ≤ cs.length)])
      | .pt cs, _ => some (v, [obP ((cs.getD 0 .un).down = v), .of (0 < cs.length)])
      | .ref id off, ty => match H id with
        | some (.cells cs) => match ty with
          | .arr _ _ => some (v, [obP (A.agg (((cs.drop off).take (T.sz t)).map A.down) = v), .of (off + T.sz t ≤ cs.length)])
          | .struct _ => some (v, [obP (A.agg (((cs.drop off).take (T.sz t)).map A.down) = v), .of (off + T.sz t ≤ cs.length)])
          | _ => some (v, [obP ((cs.getD off .un).down = v), .of (off < cs.length)])
        | _ => none
      | _, _ => none
    | _ => evV T S H none (.load t x) ty
  | .index t x ix => match ht with
    | some [v] => match rd S x, rd S ix, T.ty t with
      | .agg cs, .s (.int .i64 i), .arr n e => match T.ty e with
        | .none => none
        | .arr _ _ => some (v, [obP (A.agg ((cs.drop (i.toNat * T.sz e)).take (T.sz e)) = v), .of (0 ≤ i), .of (i < n), .of (i.toNat * T.sz e + T.sz e ≤ cs.length)])
        | .struct _ => some (v, [obP (A.agg ((cs.drop (i.toNat * T.sz e)).take (T.sz e)) = v), .of (0 ≤ i), .of (i < n), .of (i.toNat * T.sz e + T.sz e ≤ cs.length)])
        | _ => some (v, [obP ((cs.getD (i.toNat * T.sz e) .un).down = v), .of (0 ≤ i), .of (i < n), .of (i.toNat * T.sz e < cs.length)])
      | _, _, _ => none
    | _ => evV T S H none (.index t x ix) ty
  | .lookup t x k ok => match T.ty t, rd S x, ht with
    | .map kt et, .mp id, some [v, .s (.bool is)] => match H id, T.ty et with
      | _, .none => none
      | some (.map kvs), _ => forceK (rd S k) fun k => some (cond ok (.tup [v, .bool is]) v, [obP (LkIs P T kt et kvs k v is)])
      | _, _ => none
    | _, _, _ => none
  | .binOp op t x y yt => match ht with
    | some [.s (.bool r)] => some (.bool r, [obP (EqIs T op t x y (rd S x) (rd S y) r)])
    | some [.s (.int .i64 r)] => some (.int r, [obP (OpIs T op t x y (rd S x) (rd S y) r)])
    | _ => evV T S H none (.binOp op t x y yt) ty
  | op => evV T S H ht op ty
def evM (P : Program) (T : Tab) (S : Slots) (H : Hp) (ht : Option (List A)) (op : Op) (ty : TypeId) : Option (A × List Ob) := match op with
  | .indexAddr t x i => evM0 P T S H ht (.indexAddr t x i) ty
  | op => match ht with
    | some [v, .un, .un] => some (v, [obP (OpX P S H op ty v)])
    | ht => evM0 P T S H ht op ty
theorem evM0_sound {P : Program} {T : Tab} {S : Slots} {H : Hp} {ht : Option (List A)} {op : Op} {ty : TypeId} {v : A} {l : List Ob} (h : evM0 P T S H ht op ty = some (v, l)) (ho : AllP l) : OpM P T S H op ty v := by
  unfold evM0 at h
  split at h
  · split at h
    · rename_i f args at' g fst cap v' hf
      simp only [forceAs_eq, Option.some.injEq, Prod.mk.injEq] at h
      obtain ⟨rfl, rfl⟩ := h
      exact .v (OpV.call hf ho.1.ent ho.1.pure)
    · rename_i f args at' g fst cap v' as' hf
      simp only [forceAs_eq, Option.some.injEq, Prod.mk.injEq] at h
      obtain ⟨rfl, rfl⟩ := h
      exact .cs hf ho.1
    · cases h
  · rename_i t x
    split at h
    · split at h
      · cases h
      · rename_i hx hty hn
        simp only [Option.some.injEq, Prod.mk.injEq] at h; obtain ⟨rfl, rfl⟩ := h
        have e : A.agg _ = _ := ho.1
        rw [← e]; exact .v (.loadPtAgg (by assumption) (by simp_all) (by simp_all [Ty.isAgg]) ho.2.1)
      · rename_i hx hty hn
        simp only [Option.some.injEq, Prod.mk.injEq] at h; obtain ⟨rfl, rfl⟩ := h
        have e : A.agg _ = _ := ho.1
        rw [← e]; exact .v (.loadPtAgg (by assumption) (by simp_all) (by simp_all [Ty.isAgg]) ho.2.1)
      · rename_i n1 n2 n3 hx
        simp only [Option.some.injEq, Prod.mk.injEq] at h; obtain ⟨rfl, rfl⟩ := h
        have e : A.down _ = _ := ho.1
        rw [← e]; exact .v (.loadPtOne (by assumption) (by assumption) (agg_of (by assumption) (by assumption)) ho.2.1)
      · split at h
        · split at h
          · rename_i hx _ hl hty hn
            simp only [Option.some.injEq, Prod.mk.injEq] at h; obtain ⟨rfl, rfl⟩ := h
            have e : A.agg _ = _ := ho.1
            rw [← e]; exact .v (.loadRefAgg (by assumption) (by assumption) (by assumption) (by simp_all [Ty.isAgg]) ho.2.1)
          · rename_i hx _ hl hty hn
            simp only [Option.some.injEq, Prod.mk.injEq] at h; obtain ⟨rfl, rfl⟩ := h
            have e : A.agg _ = _ := ho.1
            rw [← e]; exact .v (.loadRefAgg (by assumption) (by assumption) (by assumption) (by simp_all [Ty.isAgg]) ho.2.1)
          · simp only [Option.some.injEq, Prod.mk.injEq] at h; obtain ⟨rfl, rfl⟩ := h
            have e : A.down _ = _ := ho.1
            rw [← e]; exact .v (.loadRefOne (by assumption) (by assumption) (by assumption) (agg_of (by assumption) (by assumption)) ho.2.1)
        · cases h
      · cases h
    · exact .v (evV_sound h ho)
  · rename_i t x ix
    split at h
    · split at h
      · split at h
        · cases h
        · simp only [Option.some.injEq, Prod.mk.injEq] at h; obtain ⟨rfl, rfl⟩ := h
          have e : A.agg _ = _ := ho.1
          rw [← e]; exact .v (.indexAgg (by assumption) (by assumption) (by assumption) (by simp_all) (by simp_all [Ty.isAgg]) ho.2.1 ho.2.2.1 ho.2.2.2.1)
        · simp only [Option.some.injEq, Prod.mk.injEq] at h; obtain ⟨rfl, rfl⟩ := h
          have e : A.agg _ = _ := ho.1
          rw [← e]; exact .v (.indexAgg (by assumption) (by assumption) (by assumption) (by simp_all) (by simp_all [Ty.isAgg]) ho.2.1 ho.2.2.1 ho.2.2.2.1)
        · simp only [Option.some.injEq, Prod.mk.injEq] at h; obtain ⟨rfl, rfl⟩ := h
          have e : A.down _ = _ := ho.1
          rw [← e]; exact .v (.indexOne (by assumption) (by assumption) (by assumption) (by assumption) (agg_of (by assumption) (by assumption)) ho.2.1 ho.2.2.1 ho.2.2.2.1)
      · cases h
    · exact .v (evV_sound h ho)
  · rename_i t x k ok
    split at h
    · rename_i kt et id v' is ht hx
      split at h
      · cases h
      · rename_i kvs hi he
        simp only [forceK_eq, Option.some.injEq, Prod.mk.injEq] at h
        obtain ⟨rfl, rfl⟩ := h
        exact .lk ht (by assumption) hx (by assumption) ho.1
      · cases h
    · cases h
  · split at h
    · simp only [Option.some.injEq, Prod.mk.injEq] at h
      obtain ⟨rfl, rfl⟩ := h
      obtain ⟨a, b, h1, h2, h3⟩ := ho.1
      exact .v (.conc h1 h2 h3)
    · simp only [Option.some.injEq, Prod.mk.injEq] at h
      obtain ⟨rfl, rfl⟩ := h
      obtain ⟨a, b, h1, h2, h3⟩ := ho.1
      exact .v (.conc h1 h2 h3)
    · exact .v (evV_sound h ho)
  · exact .v (evV_sound h ho)
theorem evM_sound {P : Program} {T : Tab} {S : Slots} {H : Hp} {ht : Option (List A)} {op : Op} {ty : TypeId} {v : A} {l : List Ob} (h : evM P T S H ht op ty = some (v, l)) (ho : AllP l) : OpM P T S H op ty v := by
  unfold evM at h
  split at h
  · exact evM0_sound h ho
  · split at h
    · simp only [Option.some.injEq, Prod.mk.injEq] at h
      obtain ⟨rfl, rfl⟩ := h
      exact .x ho.1
    · exact evM0_sound h ho
def lkHint : List (Nat × List A) → Nat → Option (List A)
  | [], _ => none
  | (j, h) :: l, i => match Nat.beq j i with
    | true => some h
    | false => lkHint l i
section
variable (P : Program) (T : Tab) (mb : Nat → Bool) (ops : Array Oper)
def stM (o : Oper) (S : Slots) (H : Hp) (c : Nat) (ht : Option (List A)) : Option (St × List Ob) :=
  let val : Nat → Option (St × List Ob) := fun d => match evM P T S H ht o.op o.type with
    | some (v, p) => some (⟨upd S d v, H, c⟩, p)
    | none => none
  match o.op, o.dst with
  | .alloc t, some d => match T.ty t with
    | .none => none
    | _ => some (⟨upd S d (.ref c 0), updH H c (some (.cells ((T.zr t).map A.down))), c + 1⟩, [])
  | .box t x, some d => match mb d with
    | true => match okPart (rd S x) with
      | true => some (⟨upd S d (.ref c 0), updH H c (some (.cells ((cellsA (rd S x)).map A.down))), c + 1⟩, [])
      | false => none
    | false => val d
  | .store t x v, none => match rd S x with
    | .ref id off => match H id, T.ty t with
      | _, .none => none
      | some (.cells cs), _ => match v, isOwn (rd S v) with
        | .tmp tv, true => some (⟨upd S tv (S tv).down, updH H id (some (.cells (setSeg cs off [S tv]))), c⟩, [.of (T.sz t = 1), .of (off < cs.length)])
        | _, _ => match okPart (rd S v) with
          | true => some (⟨S, updH H id (some (.cells (setSeg cs off ((cellsA (rd S v)).map A.down)))), c⟩, [.of ((cellsA (rd S v)).length = T.sz t), .of (off + T.sz t ≤ cs.length)])
          | false => none
      | _, _ => none
    | _ => none
  | .makeSlice t x y, some d => match rd S x, rd S y, T.ty t with
    | .s (.int .i64 n), .s (.int .i64 m), .slice el => match T.ty el with
      | .none => none
      | _ => some (⟨upd S d (.ms c 0 n.toNat), updH H c (some (.cells (((List.range (n.toNat * T.sz el)).map fun j => (T.zr el).getD (j % T.sz el) .un).map A.down))), c + 1⟩, [.of (m = n), .of (0 ≤ n), .of (n ≤ maxLen), .of ((T.by' el : Int) * n ≤ 140737488355328)])
    | _, _, _ => none
  | .buildSlice t n parts, some d => match ht with
    | some [.ms _ _ _] => match litW T S t n parts with
      | some (cs, p) => some (⟨upd S d (.ms c 0 n), updH H c (some (.cells cs)), c + 1⟩, p)
      | none => none
    | _ => val d
  | .move (.tmp t), some d => match feeds ops.toList d && (isOwn (S t) && !Nat.beq t d) with
    | true => some (⟨upd (upd S t (S t).down) d (S t), H, c⟩, [])
    | false => val d
  | .assign (.tmp t), some d => match isOwn (S t) && !Nat.beq t d with
    | true => some (⟨upd (upd S t (S t).down) d (S t), H, c⟩, [])
    | false => val d
  | .load t x, some d => match feeds ops.toList d, rd S x with
    | true, .ref id off => match H id with
      | some (.cells cs) => match isOwn (cs.getD off .un), T.ty t, (T.ty t).isAgg with
        | _, .none, _ => none
        | true, _, false => some (⟨upd S d (cs.getD off .un), updH H id (some (.cells (setSeg cs off [(cs.getD off .un).down]))), c⟩, [.of (off < cs.length)])
        | _, _, _ => val d
      | _ => none
    | _, _ => val d
  | .call { callee := .builtin .append, args, argTypes }, some d => match args.toList, argTypes.toList with
    | [.tmp tx, y], [t, t'] => match ht with
      | some [.ms _ _ _] => match S tx, rd S y, T.ty t with
        | .sl false .exact es, .sl _ _ ys, .slice el => match T.ty el, T.sz el, Nat.beq t t' with
          | .none, _, _ => none
          | _, 0, _ => none
          | _, _, true => some (⟨upd S d (.ms c 0 ys.length), updH H c (some (.cells (ys.flatten.map A.down))), c + 1⟩, [.of (es = []), .of (ys ≠ []), .of (∀ z ∈ ys, z.length = T.sz el), .of (ys.length * T.by' el ≤ 140737488355328), .of (ys.length ≤ maxLen)])
          | _, _, _ => none
        | _, _, _ => none
      | some [.un] => match S tx, rd S y, T.ty t with
        | .sl false (.own el) es, .sl _ _ ys, .slice el' => match T.ty el, T.sz el, Nat.beq t t', Nat.beq el el', Nat.beq tx d with
          | .none, _, _, _, _ => none
          | _, 0, _, _, _ => none
          | _, _, true, true, false => some (⟨upd (upd S tx (S tx).down) d (.sl false (.own el) (es ++ ys)), H, c⟩, [.of (∀ z ∈ ys, z.length = T.sz el), .of (∀ z ∈ es, z.length = T.sz el), .of ((es.length + ys.length + (es.length + ys.length) / 4 + 192) * T.by' el ≤ 281474976710656), .of (es.length + ys.length ≤ maxLen)])
          | _, _, _, _, _ => none
        | _, _, _ => val d
      | _ => match S tx, rd S y, T.ty t with
        | .sl false (.own el) es, .sl _ _ ys, .slice el' => match T.ty el, T.sz el, Nat.beq t t', Nat.beq el el', Nat.beq tx d with
          | .none, _, _, _, _ => none
          | _, 0, _, _, _ => none
          | _, _, true, true, false => some (⟨upd (upd S tx (S tx).down) d (.sl false (.own el) (es ++ ys)), H, c⟩, [.of (∀ z ∈ ys, z.length = T.sz el), .of (∀ z ∈ es, z.length = T.sz el), .of ((es.length + ys.length) * T.by' el ≤ 140737488355328), .of (es.length + ys.length ≤ maxLen)])
          | _, _, _, _, _ => none
        | _, _, _ => val d
    | _, _ => val d
  | .call { callee := .value f, args, argTypes }, some d => match ht, rd S f with
    | some [v, .tup ns], .fn (.func g) fst cap => some (⟨upd S d v, H, c⟩, [obP (RCall P g (fst ++ rds S args.toList ++ cap) (onlyL H (idsOf ns)) v)])
    | some [v, .sl false .any kl], .fn (.func g) fst cap => some (⟨upd S d v, updH H c (some (.map (kvsOf kl))), c + 1⟩, [obP (NewMap P g (fst ++ rds S args.toList ++ cap) c v (kvsOf kl))])
    | _, _ => val d
  | .makeMap t none, some d => some (⟨upd S d (.mp c), updH H c (some (.map [])), c + 1⟩, [])
  | .mapUpdate t x k v, none => match T.ty t, rd S x with
    | .map kt et, .mp id => match H id with
      | some (.map kvs) => forceK (rd S k) fun k => some (⟨S, updH H id (some (.map (upKV kvs k (rd S v).down (ixOf P kt kvs k)))), c⟩, [obP (∃ j, KeyAt P kt kvs k j)])
      | _ => none
    | _, _ => none
  | .mapEntry t x k, some d => match T.ty t, rd S x, ht with
    | .map kt et, .mp id, some [v] => match H id, T.ty et with
      | _, .none => none
      | some (.map kvs), _ => forceK (rd S k) fun k => some (⟨upd S d (.tup [v, .int (match ixOf P kt kvs k with | some j => j | none => kvs.length)]), updH H id (some (.map (upKV kvs k v (ixOf P kt kvs k)))), c⟩, [obP (∃ j, KeyAt P kt kvs k j), obP (v = lkA T et kvs (ixOf P kt kvs k))])
      | _, _ => none
    | _, _, _ => none
  | .entryStore t x st v, none => match rd S x, rd S st with
    | .mp id, .s (.int .i64 n) => match H id with
      | some (.map kvs) => some (⟨S, updH H id (some (.map (kvs.set n.toNat ((kvs.getD n.toNat (.un, .un)).1, (rd S v).down)))), c⟩, [obP (0 ≤ n), obP (n.toNat < kvs.length)])
      | _ => none
    | _, _ => none
  | _, some d => val d
  | _, none => none
end
section
variable {X : Ctx} {T : Tab} {r : Option Nat} {mb : Nat → Bool} {ops : Array Oper} {o : Oper} {s s' : St}
set_option maxHeartbeats 2000000 in
theorem stM_sound (hT : T.Ok X.P) {ht : Option (List A)} {l : List Ob} (h : stM X.P T mb ops o s.S s.H s.c ht = some (s', l)) (ho' : AllP l) : DoesR X r o s (fun s1 => s1 = s') := by
  have val : ∀ d, o.dst = some d → (match evM X.P T s.S s.H ht o.op o.type with
    | some (v, p) => some ((⟨upd s.S d v, s.H, s.c⟩ : St), p)
    | none => none) = some (s', l) → DoesR X r o s (fun s1 => s1 = s') := fun d hd h => by
    split at h
    · rename_i v p hev
      simp only [Option.some.injEq, Prod.mk.injEq] at h
      obtain ⟨rfl, rfl⟩ := h
      exact DoesP.toR (K := fun s1 => s1 = _) (DoesP.valM hT hd (evM_sound hev ho') rfl)
    · cases h
  unfold stM at h
  simp only at h
  split at h
  · rename_i t d ho hd
    split at h
    · cases h
    · rename_i ht
      simp only [Option.some.injEq, Prod.mk.injEq] at h
      obtain ⟨rfl, rfl⟩ := h
      exact DoesR.alloc hT ho hd ht rfl
  · rename_i t x d ho hd
    split at h
    · split at h
      · rename_i hp
        simp only [Option.some.injEq, Prod.mk.injEq] at h
        obtain ⟨rfl, rfl⟩ := h
        exact DoesR.boxm hT ho hd hp rfl
      · cases h
    · exact val _ hd h
  · rename_i t x v ho hd
    split at h
    · rename_i id off hx
      split at h
      · cases h
      · rename_i cs hl ht
        split at h
        · rename_i tv how
          simp only [Option.some.injEq, Prod.mk.injEq] at h
          obtain ⟨rfl, rfl⟩ := h
          exact DoesP.toR (DoesP.storeOwn hT ho hd hx hl ht (own_one how) ho'.1 ho'.2.1 rfl)
        · split at h
          · rename_i h1
            simp only [Option.some.injEq, Prod.mk.injEq] at h
            obtain ⟨rfl, rfl⟩ := h
            exact DoesP.toR (DoesP.store hT ho hd hx hl ht h1 ho'.1 ho'.2.1 rfl)
          · cases h
      · cases h
    · cases h
  · rename_i t x y d ho hd
    split at h
    · rename_i n m el h1 h2 h3
      split at h
      · cases h
      · rename_i h4
        simp only [Option.some.injEq, Prod.mk.injEq] at h
        obtain ⟨rfl, rfl⟩ := h
        obtain ⟨k0, k1, k2, k3, _⟩ := ho'
        have k0 : m = n := k0
        subst k0
        exact DoesR.mkSlice hT ho hd h3 h4 h1 h2 k1 k2 k3 rfl
    · cases h
  · rename_i t n parts d ho hd
    split at h
    · split at h
      · rename_i cs p hl
        simp only [Option.some.injEq, Prod.mk.injEq] at h
        obtain ⟨rfl, rfl⟩ := h
        intro hdn φ Z a w hr next Q hn
        obtain ⟨dst, op, ty, pos, aft, gd⟩ := o
        simp only at ho hd
        subst ho; subst hd
        obtain ⟨e, cs0, cells', rfl, k1, k2, k3⟩ := litW_run hT hr.sees hl ho'
        exact wp_run (fun c => by simp) (by rw [ex_lit, Sem.run_bind, k2]; rfl) (hn _ _ Z _ _ rfl (hr.newCells (ty := e) (hdn d rfl) (hr.fresh _ (Nat.le_refl _)) (Nat.le_succ _) (Nat.lt_succ_self _) k1 (.ms _ _ _ _ _ (by simp) (Nat.le_refl _) k3) (fun p => by simp [spareOf])))
      · cases h
    · exact val _ hd h
  · rename_i t d ho hd
    split at h
    · rename_i h1
      simp only [Bool.and_eq_true, Bool.not_eq_true'] at h1
      simp only [Option.some.injEq, Prod.mk.injEq] at h
      obtain ⟨rfl, rfl⟩ := h
      exact DoesP.toR (DoesP.take (.inl ho) hd (fun e1 => by subst e1; simp at h1) rfl)
    · exact val _ hd h
  · rename_i t d ho hd
    split at h
    · rename_i h1
      simp only [Bool.and_eq_true, Bool.not_eq_true'] at h1
      simp only [Option.some.injEq, Prod.mk.injEq] at h
      obtain ⟨rfl, rfl⟩ := h
      exact DoesP.toR (DoesP.take (.inr ho) hd (fun e1 => by subst e1; simp at h1) rfl)
    · exact val _ hd h
  · rename_i t x d ho hd
    split at h
    · rename_i id off hf hx
      split at h
      · rename_i cs hl
        split at h
        · cases h
        · rename_i h2 h3 h4
          simp only [Option.some.injEq, Prod.mk.injEq] at h
          obtain ⟨rfl, rfl⟩ := h
          exact DoesP.toR (DoesP.loadTake hT ho hd hx hl (by assumption) (by assumption) ho'.1 rfl)
        · exact val _ hd h
      · cases h
    · exact val _ hd h
  · rename_i args at' d ho hd
    split at h
    · rename_i tx y t t' ha ht
      obtain rfl := two_arg ha
      obtain rfl := two_arg ht
      split at h
      · split at h
        · rename_i es nil2 cap2 ys el h1 h2 h3
          split at h
          · cases h
          · cases h
          · rename_i h4 h5 h6
            obtain rfl := Nat.eq_of_beq_eq_true h4
            simp only [Option.some.injEq, Prod.mk.injEq] at h
            obtain ⟨rfl, rfl⟩ := h
            have he : es = [] := ho'.1
            subst he
            exact DoesR.app1 hT ho hd h3 (by assumption) (Nat.pos_of_ne_zero (by assumption)) h1 h2 ho'.2.1 ho'.2.2.1 ho'.2.2.2.1 ho'.2.2.2.2.1 rfl
          · cases h
        · cases h
      · split at h
        · rename_i el es nil2 cap2 ys el' h1 h2 h3
          split at h
          · cases h
          · cases h
          · rename_i h4 h5 h6 h7 h8
            obtain rfl := Nat.eq_of_beq_eq_true h4
            obtain rfl := Nat.eq_of_beq_eq_true h5
            simp only [Option.some.injEq, Prod.mk.injEq] at h
            obtain ⟨rfl, rfl⟩ := h
            exact DoesP.toR (DoesP.appOwnW hT ho hd h3 (by assumption) (Nat.pos_of_ne_zero (by assumption)) h1 h2 (fun e => by subst e; simp at h6) (fun z hz => (List.mem_append.1 hz).elim (ho'.2.1 z) (ho'.1 z)) (.inr ho'.2.2.1) ho'.2.2.2.1 rfl)
          · cases h
        · exact val _ hd h
      · split at h
        · rename_i el es nil2 cap2 ys el' h1 h2 h3
          split at h
          · cases h
          · cases h
          · rename_i h4 h5 h6 h7 h8
            obtain rfl := Nat.eq_of_beq_eq_true h4
            obtain rfl := Nat.eq_of_beq_eq_true h5
            simp only [Option.some.injEq, Prod.mk.injEq] at h
            obtain ⟨rfl, rfl⟩ := h
            exact DoesP.toR (DoesP.appOwn hT ho hd h3 (by assumption) (Nat.pos_of_ne_zero (by assumption)) h1 h2 (fun e => by subst e; simp at h6) (fun z hz => (List.mem_append.1 hz).elim (ho'.2.1 z) (ho'.1 z)) ho'.2.2.1 ho'.2.2.2.1 rfl)
          · cases h
        · exact val _ hd h
    · exact val _ hd h
  · rename_i f args at' d ho hd
    split at h
    · rename_i hf
      simp only [Option.some.injEq, Prod.mk.injEq] at h
      obtain ⟨rfl, rfl⟩ := h
      exact RCall.does ho hd hf ho'.1
    · rename_i hf
      simp only [Option.some.injEq, Prod.mk.injEq] at h
      obtain ⟨rfl, rfl⟩ := h
      exact NewMap.does ho hd hf ho'.1
    · exact val _ hd h
  · rename_i t d ho hd
    simp only [Option.some.injEq, Prod.mk.injEq] at h
    obtain ⟨rfl, rfl⟩ := h
    exact DoesR.mkMap hT ho hd rfl
  · rename_i t x k v ho hd
    split at h
    · rename_i kt et id ht hx
      split at h
      · rename_i kvs hl
        simp only [forceK_eq, Option.some.injEq, Prod.mk.injEq] at h
        obtain ⟨rfl, rfl⟩ := h
        obtain ⟨⟨j, hj⟩, _⟩ := ho'
        rw [hj.ix]
        obtain ⟨ks, kv, k1, k2, k3, k4, k5, k6⟩ := hj.ex
        exact DoesP.toR (DoesP.mapUpdate hT ho hd ht hx hl k1 k2 k4 k5 k6 rfl)
      · cases h
    · cases h
  · rename_i t x k d ho hd
    split at h
    · rename_i kt et id v ht hx
      split at h
      · cases h
      · rename_i kvs hl he
        simp only [forceK_eq, Option.some.injEq, Prod.mk.injEq] at h
        obtain ⟨rfl, rfl⟩ := h
        obtain ⟨⟨j, hj⟩, hv, _⟩ := ho'
        have hv : v = _ := hv
        rw [hj.ix] at hv ⊢
        subst hv
        obtain ⟨ks, kv, k1, k2, k3, k4, k5, k6⟩ := hj.ex
        refine DoesP.toR (DoesP.mapEntry hT ho hd ht (by assumption) hx (by assumption) k1 k2 k4 k5 k6 ?_)
        cases j <;> rfl
      · cases h
    · cases h
  · rename_i t x st v ho hd
    split at h
    · rename_i id n hx hst
      split at h
      · rename_i kvs hl
        simp only [Option.some.injEq, Prod.mk.injEq] at h
        obtain ⟨rfl, rfl⟩ := h
        obtain ⟨h0, h1, _⟩ := ho'
        have h0 : 0 ≤ n := h0
        exact DoesP.toR (DoesP.entryStore hT ho hd hx hl (by rw [Int.toNat_of_nonneg h0]; exact hst) h1 rfl)
      · cases h
    · cases h
  · exact val _ (by assumption) h
  · cases h
end
def forceO {α : Type} : List Ob → List Ob → (List Ob → α) → α
  | [], l, k => k l
  | p :: q, l, k => forceO q l fun l => k (p :: l)
theorem forceO_eq {α : Type} : ∀ (p l : List Ob) (k : List Ob → α), forceO p l k = k (p ++ l)
  | [], l, k => rfl
  | p :: q, l, k => by rw [forceO, forceO_eq q l]; rfl
def runM (P : Program) (T : Tab) (mb : Nat → Bool) (dec : Bool) (ops : Array Oper) (hs : List (Nat × List A)) : Nat → List Oper → Nat → Slots → Hp → Nat → List Ob → List Oper × St × List Ob
  | 0, l, i, S, H, c, ob => (l, ⟨S, H, c⟩, ob)
  | _, [], i, S, H, c, ob => ([], ⟨S, H, c⟩, ob)
  | n + 1, o :: l, i, S, H, c, ob => match o.guard with
    | none => match stM P T mb ops o S H c (lkHint hs i) with
      | some (⟨S', H', c'⟩, p) => forceO p ob fun ob => runM P T mb dec ops hs n l (i + 1) S' H' c' ob
      | none => (o :: l, ⟨S, H, c⟩, ob)
    | some (j, want) => match dec with
      | true => match (ops[j]?).bind (·.dst) with
        | some t => match S t with
          | .s (.bool g) => match gq g want with
            | true => match stM P T mb ops o S H c (lkHint hs i) with
              | some (⟨S', H', c'⟩, p) => forceO p ob fun ob => runM P T mb dec ops hs n l (i + 1) S' H' c' ob
              | none => (o :: l, ⟨S, H, c⟩, ob)
            | false => match o.dst with
              | some d => runM P T mb dec ops hs n l (i + 1) (upd S d .un) H c ob
              | none => runM P T mb dec ops hs n l (i + 1) S H c ob
          | _ => (o :: l, ⟨S, H, c⟩, ob)
        | none => (o :: l, ⟨S, H, c⟩, ob)
      | false => match (ops[j]?).bind (·.dst), o.dst with
        | some t, some d => match gv (S t) want with
          | some q => match evM P T (gS o.op S) H (lkHint hs i) o.op o.type with
            | some (v, p) => forceO (under q (owed S ((opTmps o.op).filter (gset o.op)))) ob fun ob => forceO (under q p) ob fun ob => runM P T mb dec ops hs n l (i + 1) (upd S d (.cnd q v)) H c ob
            | none => (o :: l, ⟨S, H, c⟩, ob)
          | none => (o :: l, ⟨S, H, c⟩, ob)
        | _, _ => (o :: l, ⟨S, H, c⟩, ob)
theorem RegL.runM {X : Ctx} {T : Tab} {r : Option Nat} {mb : Nat → Bool} {dec : Bool} {ops : Array Oper} {K : St → Prop} {hs : List (Nat × List A)} (hT : T.Ok X.P) : ∀ (n : Nat) {l l' : List Oper} {i : Nat} {S : Slots} {H : Hp} {c : Nat} {s' : St} {ob ob' : List Ob},
    runM X.P T mb dec ops hs n l i S H c ob = (l', s', ob') → AllP ob' → (AllP ob ∧ (RegL X r ops l' s' K → RegL X r ops l ⟨S, H, c⟩ K)) := by
  intro n
  induction n with
  | zero => intro l l' i S H c s' ob ob' h ho; simp only [AL.runM, Prod.mk.injEq] at h; obtain ⟨rfl, rfl, rfl⟩ := h; exact ⟨ho, id⟩
  | succ n ih =>
    intro l l' i S H c s' ob ob' h ho
    cases l with
    | nil => simp only [AL.runM, Prod.mk.injEq] at h; obtain ⟨rfl, rfl, rfl⟩ := h; exact ⟨ho, id⟩
    | cons o l =>
      have stay : (o :: l, (⟨S, H, c⟩ : St), ob) = (l', s', ob') → AllP ob ∧ (RegL X r ops l' s' K → RegL X r ops (o :: l) ⟨S, H, c⟩ K) := fun e => by
        simp only [Prod.mk.injEq] at e; obtain ⟨rfl, rfl, rfl⟩ := e; exact ⟨ho, id⟩
      simp only [AL.runM, forceO_eq] at h
      split at h
      · rename_i hg
        split at h
        · rename_i S1 H1 c1 p hst
          obtain ⟨h1, h2⟩ := ih h ho
          rw [AllP.append] at h1
          exact ⟨h1.2, fun k => Does.raw hg (fun hdn φ Z a w hr next Q hn => stM_sound (s := ⟨S, H, c⟩) hT hst h1.1 hdn φ Z a w hr next Q fun s2 φ' Z' a' w' hs2 hr' => hn s2 φ' Z' a' w' (by subst hs2; exact h2 k) hr')⟩
        · exact stay h
      · rename_i j want hg
        split at h
        · split at h
          · rename_i t hj
            split at h
            · rename_i g hS
              split at h
              · rename_i hq
                split at h
                · rename_i S1 H1 c1 p hst
                  obtain ⟨h1, h2⟩ := ih h ho
                  rw [AllP.append] at h1
                  exact ⟨h1.2, fun k => Does.rawT (s := ⟨S, H, c⟩) hg hj hS hq (fun hdn φ Z a w hr next Q hn => stM_sound (s := ⟨S, H, c⟩) hT hst h1.1 hdn φ Z a w hr next Q fun s2 φ' Z' a' w' hs2 hr' => hn s2 φ' Z' a' w' (by subst hs2; exact h2 k) hr')⟩
                · exact stay h
              · rename_i hq
                split at h
                · rename_i d hd
                  obtain ⟨h1, h2⟩ := ih h ho
                  exact ⟨h1, fun k => Does.rawF (s := ⟨S, H, c⟩) hg hj hS hq (by rw [hd]; exact h2 k)⟩
                · rename_i hd
                  obtain ⟨h1, h2⟩ := ih h ho
                  exact ⟨h1, fun k => Does.rawF (s := ⟨S, H, c⟩) hg hj hS hq (by rw [hd]; exact h2 k)⟩
            · exact stay h
          · exact stay h
        split at h
        · rename_i t d hj hd
          split at h
          · rename_i g hS
            split at h
            · rename_i v p hev
              obtain ⟨h1, h2⟩ := ih h ho
              rw [AllP.append, AllP.append] at h1
              exact ⟨h1.2.2, fun k => does_valgM (s := ⟨S, H, c⟩) hT hg hj hS hd (fun hq t' h1' h2' => owed_ok (under_ok h1.2.1 hq) t' (List.mem_filter.2 ⟨h1', h2'⟩)) (fun hq => evM_sound hev (under_ok h1.1 hq)) (h2 k)⟩
            · exact stay h
          · exact stay h
        · exact stay h
theorem RegL.goM {X : Ctx} {T : Tab} {r : Option Nat} {ops : Array Oper} {K : St → Prop} (hT : T.Ok X.P) (mb : Nat → Bool) (dec : Bool) (n : Nat) {l l' : List Oper} {i : Nat} {s s' : St} (hs : List (Nat × List A)) {ob' : List Ob}
    (h : AL.runM X.P T mb dec ops hs n l i s.S s.H s.c [] = (l', s', ob')) (ho : AllP ob') (k : RegL X r ops l' s' K) : RegL X r ops l s K := (RegL.runM hT n h ho).2 k
section
variable {X : Ctx} {T : Tab} {r : Option Nat} {s : St} {Q : Exit → St → Prop}
theorem Aw.sm (hT : T.Ok X.P) (mb : Nat → Bool) {id : Nat} {ops : Array Oper} {y : Code} {S' : Slots} {H' : Hp} {c' : Nat} {ob : List Ob} (hs : List (Nat × List A)) (hd : dstsOk X.nt ops = true)
    (h : AL.runM X.P T mb false ops hs 999 ops.toList 0 s.S s.H s.c [] = ([], ⟨S', H', c'⟩, ob)) (ho : AllP ob) (k : Aw X r y Q ⟨S', H', c'⟩) : Aw X r (.seq (.region id ops false) y) Q s :=
  Aw.seq (Aw.region hd (RegL.goM hT mb false 999 hs h ho k))
theorem Aw.em (hT : T.Ok X.P) (mb : Nat → Bool) {id : Nat} {ops : Array Oper} {S' : Slots} {H' : Hp} {c' : Nat} {ob : List Ob} (hs : List (Nat × List A)) (hd : dstsOk X.nt ops = true)
    (h : AL.runM X.P T mb false ops hs 999 ops.toList 0 s.S s.H s.c [] = ([], ⟨S', H', c'⟩, ob)) (ho : AllP ob) (k : Q .normal ⟨S', H', c'⟩) : Aw X r (.region id ops false) Q s :=
  Aw.region hd (RegL.goM hT mb false 999 hs h ho k)
theorem Aw.st (hT : T.Ok X.P) (mb : Nat → Bool) {id : Nat} {ops : Array Oper} {y : Code} {S' : Slots} {H' : Hp} {c' : Nat} {ob : List Ob} (hs : List (Nat × List A)) (hd : dstsOk X.nt ops = true)
    (h : AL.runM X.P T mb true ops hs 999 ops.toList 0 s.S s.H s.c [] = ([], ⟨S', H', c'⟩, ob)) (ho : AllP ob) (k : Aw X r y Q ⟨S', H', c'⟩) : Aw X r (.seq (.region id ops false) y) Q s :=
  Aw.seq (Aw.region hd (RegL.goM hT mb true 999 hs h ho k))
theorem Aw.et (hT : T.Ok X.P) (mb : Nat → Bool) {id : Nat} {ops : Array Oper} {S' : Slots} {H' : Hp} {c' : Nat} {ob : List Ob} (hs : List (Nat × List A)) (hd : dstsOk X.nt ops = true)
    (h : AL.runM X.P T mb true ops hs 999 ops.toList 0 s.S s.H s.c [] = ([], ⟨S', H', c'⟩, ob)) (ho : AllP ob) (k : Q .normal ⟨S', H', c'⟩) : Aw X r (.region id ops false) Q s :=
  Aw.region hd (RegL.goM hT mb true 999 hs h ho k)
end
end Go.AL

namespace Go.AL
open Go Go.RowKit
section
variable {X : Ctx} {r : Option Nat} {Q : Exit → St → Prop} {ops : Array Oper}
def SegW (X : Ctx) (r : Option Nat) (ops : Array Oper) (Q : Exit → St → Prop) (k : Nat) (s : St) : Prop :=
  ∀ (n : Nat) (listed : Array Bool) (φ : Names) (Z : Still) (a : Act) (w : World), listed.size = ops.size → cnt ops.size (isL listed) = n → (∀ j, j < ops.size → isL listed j = Nat.blt j k) →
    Rel X φ Z s a w → wpAnyIn (fenceR r) 0 X.P .any ops (QC X Q) n listed a w
theorem cnt_all {N : Nat} {L : Nat → Bool} (h : ∀ j, j < N → L j = true) : cnt N L = 0 := by
  rw [cnt_congr (L' := fun _ => true) h]
  induction N with
  | zero => rfl
  | succ N ih => rw [cnt, ih (fun j hj => h j (by omega))]; rfl
theorem shut_pre (he : edgesOk ops.toList 0 = true) {listed : Array Bool} {k : Nat} (hL : ∀ j, j < ops.size → isL listed j = Nat.blt j k) : Shut ops.toList (isL listed) := fun k' o ho hk' p hp => by
  have hlt := edges_at he ho p hp
  have hk2 : k' < ops.size := by simpa using (List.getElem?_eq_some_iff.1 ho).1
  rw [hL k' hk2] at hk'
  rw [hL p (by omega)]
  have := blt_lt' hk'
  exact blt_of (by omega)
theorem SegW.done {s : St} {k : Nat} (he : edgesOk ops.toList 0 = true) (hk : ops.size ≤ k) (h : Q .normal s) : SegW X r ops Q k s := by
  intro n listed φ Z a w hsz hn hL hr
  have hall : ∀ j, j < ops.size → isL listed j = true := fun j hj => by rw [hL j hj, blt_of (by omega)]
  have hn0 : n = 0 := by rw [← hn]; exact cnt_all hall
  subst hn0
  refine ⟨?_, ⟨s, φ, Z, h, hr⟩⟩
  cases hre : Region.ready .any ops listed with
  | nil => rfl
  | cons i l =>
    have hi : i ∈ Region.ready .any ops listed := by rw [hre]; simp
    obtain ⟨h1, o, ho, _⟩ := (ready_iff hsz).1 hi
    rw [hall i (Array.getElem?_eq_some_iff.1 ho).1] at h1; cases h1
theorem SegW.step (hd : dstsOk X.nt ops = true) (he : edgesOk ops.toList 0 = true) {s : St} {k : Nat} {o : Oper} (ho : ops[k]? = some o) (bar : ∀ i, k < i → i < ops.size → ((masks ops.toList []).getD i 0).testBit k = true)
    (h : Does X r ops o s (SegW X r ops Q (k + 1))) : SegW X r ops Q k s := by
  intro n listed φ Z a w hsz hn hL hr
  have hk := (Array.getElem?_eq_some_iff.1 ho).1
  have hnk : isL listed k = false := by rw [hL k hk, blt_no (by omega)]
  cases n with
  | zero => have := cnt_zero hn k hk; rw [hnk] at this; cases this
  | succ n =>
    refine ⟨fun hre => ?_, fun i hi => ?_⟩
    · have := all_listed hsz he hre k hk; rw [hnk] at this; cases this
    · obtain ⟨h1, o', ho', hp⟩ := (ready_iff hsz).1 hi
      have hlt := (Array.getElem?_eq_some_iff.1 ho').1
      have hik : i = k := by
        rw [hL i hlt] at h1
        have h2 : k ≤ i := Nat.le_of_not_lt fun h => by rw [blt_of h] at h1; cases h1
        rcases Nat.lt_or_eq_of_le h2 with h3 | h3
        · have h4 := draw_mask he (bar i h3 hlt) ho' (shut_pre he hL) hp
          rw [hnk] at h4; cases h4
        · exact h3.symm
      subst hik
      have : o' = o := by rw [ho] at ho'; cases ho'; rfl
      subst this
      refine wpOp_of_step ho (h (dst_ok hd ho) φ Z a w hr _ _ fun s' φ' Z' a' w' hs' hr' => ?_)
      refine hs' n (listed.setIfInBounds i true) φ' Z' a' w' (by simpa using hsz) ?_ (fun j hj => ?_) hr'
      · rw [isL_set (by omega)]
        have := cnt_add h1 hlt
        omega
      · rw [isL_set (by omega)]
        by_cases e : j = i
        · subst e; rw [addL_same, blt_of (by omega)]
        · rw [addL_other _ e, hL j hj]
          by_cases e2 : j < i
          · rw [blt_of e2, blt_of (by omega)]
          · rw [blt_no (by omega), blt_no (by omega)]
theorem SegW.start (hm : X.P.follows .mixedOrders = true) {id : Nat} {s : St} (h : SegW X r ops Q 0 s) : Aw X r (.region id ops true) Q s := by
  intro φ Z a w hr
  refine wpIn_region_any hm ?_
  have e0 : isL (Array.replicate ops.size false) = fun _ => false := by
    funext j
    simp only [isL, Array.getD_eq_getD_getElem?, Array.getElem?_replicate]
    split <;> rfl
  have n0 : cnt ops.size (fun _ => false) = ops.size := by
    generalize ops.size = N
    induction N with
    | zero => rfl
    | succ N ih => rw [cnt, ih]; rfl
  exact h ops.size (Array.replicate ops.size false) φ Z a _ (by simp) (by rw [e0]; exact n0) (fun j _ => by rw [e0, blt_no (by omega)]) (hr.drew _)
theorem SegW.weaken {s : St} {k : Nat} {S' : Slots} {H' : Hp} {c' : Nat} (hS : ∀ t, A.Le (S' t) (s.S t)) (hH : ∀ id bx', H' id = some bx' → ∃ bx, s.H id = some bx ∧ B.Le bx' bx)
    (hc : s.c ≤ c') (h : SegW X r ops Q k ⟨S', H', c'⟩) : SegW X r ops Q k s := fun n listed φ Z a w h1 h2 h3 hr => h n listed φ Z a w h1 h2 h3 (hr.weaken hS hH hc)
def FireG (X : Ctx) (r : Option Nat) (ops : Array Oper) (o : Oper) (rs hrs : List Nat) (S0 : Slots) (H0 : Hp) (f : Eff) (nm : Nat) (G : Hp → Prop) : Prop :=
  (∀ d, o.dst = some d → d < X.nt) → ∀ S' H' c' φ Z a w, Rel X φ Z ⟨S', H', c'⟩ a w → (∀ t, t ∈ rs → S' t = S0 t) → (∀ id, id ∈ hrs → H' id = H0 id) → G H' → φ nm = none → nm < c' → ∀ next Q,
    (∀ φ' Z' a' w', (∀ k, k ≠ nm → φ' k = φ k) → Rel X φ' Z' ⟨apS S' f.ws, apH H' f.hs, c'⟩ a' w' → next a' w') → StepW X.P r ops o a w next Q
theorem FireOk.g {o : Oper} {rs hrs : List Nat} {S0 : Slots} {H0 : Hp} {f : Eff} {nm : Nat} {G : Hp → Prop} (h : FireOk X r ops o rs hrs S0 H0 f nm) : FireG X r ops o rs hrs S0 H0 f nm G :=
  fun h1 S' H' c' φ Z a w h2 h3 h4 _ h5 h6 next Q hn => h h1 S' H' c' φ Z a w h2 h3 h4 h5 h6 next Q hn
theorem SegW.draw {s : St} {b : Nat} (effs : List Eff) (rds hrds : List (List Nat)) (hd : dstsOk X.nt ops = true) (he : edgesOk ops.toList 0 = true) (hlen : b + effs.length ≤ ops.size)
    (cf : ∀ i j fi fj, i < j → effs[i]? = some fi → effs[j]? = some fj → ((masks ops.toList []).getD (b + j) 0).testBit (b + i) = false →
      ((∀ t, t ∈ fi.ws.map (·.1) → t ∉ rds.getD j [] ∧ t ∉ fj.ws.map (·.1)) ∧ ∀ t, t ∈ rds.getD i [] → t ∉ fj.ws.map (·.1)) ∧
      ((∀ t, t ∈ fi.hs.map (·.1) → t ∉ hrds.getD j [] ∧ t ∉ fj.hs.map (·.1)) ∧ ∀ t, t ∈ hrds.getD i [] → t ∉ fj.hs.map (·.1)))
    (bar : ∀ i k, b + effs.length ≤ i → i < ops.size → b ≤ k → k < b + effs.length → ((masks ops.toList []).getD i 0).testBit k = true)
    (fire : ∀ i o f, ops[b + i]? = some o → effs[i]? = some f → ∀ L : Nat → Bool, (∀ j, j < effs.length → i < j → ((masks ops.toList []).getD (b + j) 0).testBit (b + i) = true → L j = false) →
      FireG X r ops o (rds.getD i []) (hrds.getD i []) (LS (fun k => Nat.blt k i) effs 0 s.S) (LH (fun k => Nat.blt k i) effs 0 s.H) f (s.c + i) (fun H' => H' = LH L effs 0 s.H))
    (k : SegW X r ops Q (b + effs.length) ⟨LS (fun k => Nat.blt k effs.length) effs 0 s.S, LH (fun k => Nat.blt k effs.length) effs 0 s.H, s.c + effs.length⟩) :
    SegW X r ops Q b s := by
  have key : ∀ (n : Nat) (listed : Array Bool) {φ : Names} {Z : Still} {a : Act} {w : World}, listed.size = ops.size → cnt ops.size (isL listed) = n → Shut ops.toList (isL listed) →
      (∀ j, isL listed j = true → j < b + effs.length) → (∀ j, j < b → isL listed j = true) → Rel X φ Z ⟨LS (fun j => isL listed (b + j)) effs 0 s.S, LH (fun j => isL listed (b + j)) effs 0 s.H, s.c + effs.length⟩ a w →
      (∀ i, i < effs.length → isL listed (b + i) = false → φ (s.c + i) = none) → wpAnyIn (fenceR r) 0 X.P .any ops (QC X Q) n listed a w := by
    intro n
    have fin : ∀ (m : Nat) (listed : Array Bool) {φ : Names} {Z : Still} {a : Act} {w : World}, listed.size = ops.size → cnt ops.size (isL listed) = m → (∀ i, i < effs.length → isL listed (b + i) = true) →
        (∀ j, isL listed j = true → j < b + effs.length) → (∀ j, j < b → isL listed j = true) → Rel X φ Z ⟨LS (fun j => isL listed (b + j)) effs 0 s.S, LH (fun j => isL listed (b + j)) effs 0 s.H, s.c + effs.length⟩ a w →
        wpAnyIn (fenceR r) 0 X.P .any ops (QC X Q) m listed a w := by
      intro m listed φ Z a w hsz hn hall hlt hlo hr
      have hL : ∀ j, j < ops.size → isL listed j = Nat.blt j (b + effs.length) := fun j hj => by
        by_cases h1 : j < b + effs.length
        · rw [blt_of h1]
          by_cases h2 : j < b
          · exact hlo j h2
          · have := hall (j - b) (by omega); rwa [show b + (j - b) = j by omega] at this
        · rw [blt_no h1]; cases e : isL listed j with
          | false => rfl
          | true => exact absurd (hlt j e) h1
      refine k m listed φ Z a w hsz hn hL ?_
      have e1 : LS (fun j => isL listed (b + j)) effs 0 s.S = LS (fun k => Nat.blt k effs.length) effs 0 s.S := by
        funext t; refine LS_congr rfl fun k f hk _ => ?_
        have hk := (List.getElem?_eq_some_iff.1 hk).1
        rw [Nat.zero_add, hall k hk, blt_of hk]
      have e2 : LH (fun j => isL listed (b + j)) effs 0 s.H = LH (fun k => Nat.blt k effs.length) effs 0 s.H := by
        funext t; refine LH_congr rfl fun k f hk _ => ?_
        have hk := (List.getElem?_eq_some_iff.1 hk).1
        rw [Nat.zero_add, hall k hk, blt_of hk]
      rw [← e1, ← e2]; exact hr
    induction n with
    | zero =>
      intro listed φ Z a w hsz hn shut hlt hlo hr hφ
      have hall := cnt_zero hn
      exact fin 0 listed hsz hn (fun i hi => hall _ (by omega)) hlt hlo hr
    | succ n ih =>
      intro listed φ Z a w hsz hn shut hlt hlo hr hφ
      by_cases hall : ∀ i, i < effs.length → isL listed (b + i) = true
      · exact fin (n + 1) listed hsz hn hall hlt hlo hr
      · obtain ⟨i0, h0⟩ := Classical.not_forall.1 hall
        obtain ⟨h01, h02⟩ := Classical.not_imp.1 h0
        have h02 : isL listed (b + i0) = false := by simpa using h02
        refine ⟨fun hre => ?_, fun i' hi => ?_⟩
        · rw [all_listed hsz he hre (b + i0) (by omega)] at h02; cases h02
        · obtain ⟨h1, o, ho, hp⟩ := (ready_iff hsz).1 hi
          have hlt' := (Array.getElem?_eq_some_iff.1 ho).1
          have hge : b ≤ i' := Nat.le_of_not_lt fun h => by rw [hlo i' h] at h1; cases h1
          obtain ⟨i, rfl⟩ : ∃ i, i' = b + i := ⟨i' - b, by omega⟩
          by_cases him : i < effs.length
          · obtain ⟨f, hf⟩ : ∃ f, effs[i]? = some f := ⟨effs[i], by simp [him]⟩
            have before : ∀ k fk, effs[k]? = some fk → k < i → ((masks ops.toList []).getD (b + i) 0).testBit (b + k) = true → isL listed (b + k) = true := fun k fk _ _ hb => draw_mask he hb ho shut hp
            have behind : ∀ k fk, effs[k]? = some fk → i < k → ((masks ops.toList []).getD (b + k) 0).testBit (b + i) = true → isL listed (b + k) = false := fun k fk hk hlt2 hb => by
              cases e : isL listed (b + k) with
              | false => rfl
              | true =>
                have hk2 : b + k < ops.size := by have := (List.getElem?_eq_some_iff.1 hk).1; omega
                have := draw_mask he (o := ops[b + k]) hb (by simp [hk2]) shut (shut (b + k) ops[b + k] (by simp [hk2]) e)
                rw [h1] at this; cases this
            have same : ∀ k fk, effs[k]? = some fk → (k < i → ((masks ops.toList []).getD (b + i) 0).testBit (b + k) = true) → (i < k → ((masks ops.toList []).getD (b + k) 0).testBit (b + i) = true) → isL listed (b + (0 + k)) = Nat.blt k i := fun k fk hk hb1 hb2 => by
              rw [Nat.zero_add]
              rcases Nat.lt_trichotomy k i with h2 | h2 | h2
              · rw [before k fk hk h2 (hb1 h2), blt_of h2]
              · subst h2; rw [h1, blt_no (Nat.lt_irrefl _)]
              · rw [behind k fk hk h2 (hb2 h2), blt_no (by omega)]
            have rS : ∀ t, t ∈ rds.getD i [] → LS (fun j => isL listed (b + j)) effs 0 s.S t = LS (fun k => Nat.blt k i) effs 0 s.S t := fun t ht => by
              refine LS_congr rfl fun k fk hk htk => ?_
              have := same k fk hk (fun h2 => by
                cases e : ((masks ops.toList []).getD (b + i) 0).testBit (b + k) with
                | true => rfl
                | false => exact absurd ht ((cf k i fk f h2 hk hf e).1.1 t htk).1) (fun h2 => by
                cases e : ((masks ops.toList []).getD (b + k) 0).testBit (b + i) with
                | true => rfl
                | false => exact absurd htk ((cf i k f fk h2 hf hk e).1.2 t ht))
              rw [this, Nat.zero_add]
            have rH : ∀ t, t ∈ hrds.getD i [] → LH (fun j => isL listed (b + j)) effs 0 s.H t = LH (fun k => Nat.blt k i) effs 0 s.H t := fun t ht => by
              refine LH_congr rfl fun k fk hk htk => ?_
              have := same k fk hk (fun h2 => by
                cases e : ((masks ops.toList []).getD (b + i) 0).testBit (b + k) with
                | true => rfl
                | false => exact absurd ht ((cf k i fk f h2 hk hf e).2.1 t htk).1) (fun h2 => by
                cases e : ((masks ops.toList []).getD (b + k) 0).testBit (b + i) with
                | true => rfl
                | false => exact absurd htk ((cf i k f fk h2 hf hk e).2.2 t ht))
              rw [this, Nat.zero_add]
            have aS := LS_add (L := fun j => isL listed (b + j)) (S := s.S) (i := 0) hf (by rw [Nat.zero_add]; exact h1) fun k fk hk h2 h3 t ht htk => by
              rw [Nat.zero_add] at h3
              cases e : ((masks ops.toList []).getD (b + k) 0).testBit (b + i) with
              | true => rw [behind k fk hk h2 e] at h3; cases h3
              | false => exact ((cf i k f fk h2 hf hk e).1.1 t ht).2 htk
            have aH := LH_add (L := fun j => isL listed (b + j)) (S := s.H) (i := 0) hf (by rw [Nat.zero_add]; exact h1) fun k fk hk h2 h3 t ht htk => by
              rw [Nat.zero_add] at h3
              cases e : ((masks ops.toList []).getD (b + k) 0).testBit (b + i) with
              | true => rw [behind k fk hk h2 e] at h3; cases h3
              | false => exact ((cf i k f fk h2 hf hk e).2.1 t ht).2 htk
            rw [Nat.zero_add] at aS aH
            have hset := isL_set (listed := listed) (i := b + i) (by omega)
            have hsetb : (fun j => isL (listed.setIfInBounds (b + i) true) (b + j)) = addL (fun j => isL listed (b + j)) i := by
              funext j
              rw [hset]
              by_cases e : j = i
              · subst e; rw [addL_same, addL_same]
              · rw [addL_other _ e, addL_other _ (by omega)]
            refine wpOp_of_step ho (fire i o f ho hf (fun j => isL listed (b + j)) (fun j hj hij hb => behind j effs[j] (by simp [hj]) hij hb) (dst_ok hd ho) _ _ _ φ Z a w hr rS rH rfl (hφ i him h1) (by omega) _ _ fun φ' Z' a' w' hφ' hr' => ?_)
            refine ih (listed.setIfInBounds (b + i) true) (φ := φ') (Z := Z') (a := a') (w := w') (by simpa using hsz) ?_ ?_ ?_ ?_ ?_ ?_
            · rw [hset]; have := cnt_add h1 hlt'; omega
            · rw [hset]
              intro k' o' ho' hk' p hp'
              by_cases e : k' = b + i
              · subst e
                have : o' = o := by rw [Array.getElem?_toList, ho] at ho'; cases ho'; rfl
                subst this
                simp [addL, hp p hp']
              · rw [addL_other _ e] at hk'
                simp [addL, shut k' o' ho' hk' p hp']
            · rw [hset]
              intro j hj
              by_cases e : j = b + i
              · subst e; omega
              · rw [addL_other _ e] at hj; exact hlt j hj
            · rw [hset]
              intro j hj
              rw [addL_other _ (by omega)]; exact hlo j hj
            · rw [hsetb, aS, aH]; exact hr'
            · rw [hset]
              intro j hj hj2
              have e : j ≠ i := fun e => by subst e; rw [addL_same] at hj2; cases hj2
              rw [addL_other _ (by omega)] at hj2
              rw [hφ' _ (by omega)]; exact hφ j hj hj2
          · exfalso
            have := draw_mask he (bar (b + i) (b + i0) (by omega) hlt' (by omega) (by omega)) ho shut hp
            rw [h02] at this; cases this
  intro n listed φ Z a w hsz hn hL hr
  have hb : ∀ j, isL listed (b + j) = false := fun j => by
    by_cases hj : b + j < ops.size
    · rw [hL _ hj, blt_no (by omega)]
    · simp only [isL, Array.getD_eq_getD_getElem?]
      rw [Array.getElem?_eq_none (by omega)]; rfl
  refine key n listed (φ := φ) (Z := Z) (a := a) (w := w) hsz hn (shut_pre he hL) (fun j hj => ?_) (fun j hj => by rw [hL j (by omega), blt_of hj]) ?_ (fun i hi _ => hr.fresh _ (by omega))
  · by_cases h2 : b ≤ j
    · have := hb (j - b); rw [show b + (j - b) = j by omega] at this; rw [this] at hj; cases hj
    · omega
  have l1 : LS (fun j => isL listed (b + j)) effs 0 s.S = s.S := by funext t; exact LS_none fun k f _ _ => by rw [Nat.zero_add]; exact hb k
  have l2 : LH (fun j => isL listed (b + j)) effs 0 s.H = s.H := by funext t; exact LH_none fun k f _ _ => by rw [Nat.zero_add]; exact hb k
  rw [l1, l2]
  exact hr.weaken (S' := s.S) (H' := s.H) (c' := s.c + effs.length) (fun _ => .refl _) (fun id bx hb => ⟨bx, hb, .refl _⟩) (by omega)
end
end Go.AL

