/- What the proof leans on, part 1: A1 A2 A3 A4 A5 A6 A6b A6c A7 A8 A9 A10 A11 A12 A13. -/
import Derived.Below
import Derived.CallsIn
import Derived.Deep.DeepAppendWide
import Derived.IntWalk
import Derived.KernelRfl
import Derived.Laws.Append
import Derived.Laws.AppendOwn
import Derived.Laws.Cells
import Derived.Laws.CopyRow
import Derived.Laws.Cover3
import Derived.Laws.MakeOwn
import Derived.Laws.Pointers
import Derived.Laws.Sem
import Derived.Laws.World
import Derived.RangeFuncIn
import Derived.RangeFuncLeaves
import Derived.RangeFuncRecord
import Derived.RowKit3
set_option linter.all false
namespace Go.AL
open Go
inductive Cap where
  | exact
  | own (e : Nat)
  | any
  deriving DecidableEq
inductive A where
  | un
  | s (v : Value)
  | sl (nil : Bool) (cap : Cap) (es : List (List A))
  | pt (cs : List A)
  | fn (f : Fn) (fst cap : List A)
  | ref (id off : Nat)
  | ms (id off n : Nat)
  | gs (id n cap : Nat)
  | mp (id : Nat)
  | yl (id : Nat)
  | agg (cs : List A)
  | tup (vs : List A)
  | cnd (g : Bool) (a : A)
abbrev A.int (n : Int) : A := .s (.int .i64 n)
abbrev A.bool (b : Bool) : A := .s (.bool b)
abbrev Names := Nat → Option Nat
abbrev Still := Nat → Nat → Prop
inductive VR (φ : Names) (Z : Still) (w : World) : A → Value → Prop
  | un (v : Value) : VR φ Z w .un v
  | s (v : Value) : VR φ Z w (.s v) v
  | nil (cap : Cap) : VR φ Z w (.sl true cap []) (.slice none 0 0)
  | sl (cap : Cap) (es : List (List A)) (b off sz c : Nat) (val : Nat → Nat → Value)
      (hc : es.length ≤ c) (hx : cap = .exact → c = es.length) (hm : c ≤ maxLen) (hs : ∀ e ∈ es, e.length = sz)
      (hz : ∀ i j, i < es.length → j < sz → Z b (off + i * sz + j))
      (hv : ∀ i j, i < es.length → j < sz → w.cell? ⟨b, off + i * sz + j, none⟩ = some (val i j))
      (ho : ∀ i j, i < es.length → j < sz → (val i j).oneCell' = true)
      (hr : ∀ i j, i < es.length → j < sz → VR φ Z w ((es.getD i []).getD j .un) (val i j)) :
      VR φ Z w (.sl false cap es) (.slice (some ⟨b, off, none⟩) es.length c)
  | slz (cap : Cap) (a : Addr) : VR φ Z w (.sl false cap []) (.slice (some a) 0 0)
  | pt (cs : List A) (b off : Nat) (val : Nat → Value)
      (hz : ∀ j, j < cs.length → Z b (off + j))
      (hv : ∀ j, j < cs.length → w.cell? ⟨b, off + j, none⟩ = some (val j))
      (ho : ∀ j, j < cs.length → (val j).oneCell' = true)
      (hr : ∀ j, j < cs.length → VR φ Z w (cs.getD j .un) (val j)) :
      VR φ Z w (.pt cs) (.pointer (some ⟨b, off, none⟩))
  | fn (f : Fn) (fst cap : List A) (fv cv : Array Value) (h1 : fv.size = fst.length) (h2 : cv.size = cap.length)
      (hf : ∀ i, i < fst.length → VR φ Z w (fst.getD i .un) (fv.getD i undef))
      (hc : ∀ i, i < cap.length → VR φ Z w (cap.getD i .un) (cv.getD i undef)) : VR φ Z w (.fn f fst cap) (.func f fv cv)
  | ref (id off b : Nat) (h : φ id = some b) : VR φ Z w (.ref id off) (.pointer (some ⟨b, off, none⟩))
  | ms (id off n b c : Nat) (h : φ id = some b) (hc : n ≤ c) (hm : c ≤ maxLen) : VR φ Z w (.ms id off n) (.slice (some ⟨b, off, none⟩) n c)
  | gs (id n cap b : Nat) (h : φ id = some b) (hc : n ≤ cap) (hm : cap ≤ maxLen) : VR φ Z w (.gs id n cap) (.slice (some ⟨b, 0, none⟩) n cap)
  | mp (id b : Nat) (h : φ id = some b) : VR φ Z w (.mp id) (.map (some b))
  | yl (id b : Nat) (h : φ id = some b) : VR φ Z w (.yl id) (.func (.yield b) #[] #[])
  | agg (cs : List A) (vs : Array Value) (h : vs.size = cs.length) (ho : ∀ i, i < cs.length → (vs.getD i undef).oneCell' = true) (hr : ∀ i, i < cs.length → VR φ Z w (cs.getD i .un) (vs.getD i undef)) : VR φ Z w (.agg cs) (.agg vs)
  | tup (cs : List A) (vs : Array Value) (h : vs.size = cs.length) (hr : ∀ i, i < cs.length → VR φ Z w (cs.getD i .un) (vs.getD i undef)) : VR φ Z w (.tup cs) (.tuple vs)
  | cnd (g : Bool) (a : A) (v : Value) (h : g = true → VR φ Z w a v) (h0 : g = false → v = undef) : VR φ Z w (.cnd g a) v
theorem VR.mono {φ φ' : Names} {Z Z' : Still} {w w' : World} (hφ : ∀ id b, φ id = some b → φ' id = some b) (hZ : ∀ b o, Z b o → Z' b o)
    (hw : ∀ b o, Z b o → w'.cell? ⟨b, o, none⟩ = w.cell? ⟨b, o, none⟩) {a : A} {v : Value} (h : VR φ Z w a v) : VR φ' Z' w' a v := by
  induction h with
  | un v => exact .un v
  | s v => exact .s v
  | nil cap => exact .nil cap
  | slz cap a => exact .slz cap a
  | sl cap es b off sz c val hc hx hm hs hz hv ho _ ih => exact .sl cap es b off sz c val hc hx hm hs (fun i j hi hj => hZ _ _ (hz i j hi hj)) (fun i j hi hj => (hw _ _ (hz i j hi hj)).trans (hv i j hi hj)) ho ih
  | pt cs b off val hz hv ho _ ih => exact .pt cs b off val (fun j hj => hZ _ _ (hz j hj)) (fun j hj => (hw _ _ (hz j hj)).trans (hv j hj)) ho ih
  | fn f fst cap fv cv h1 h2 _ _ ih1 ih2 => exact .fn f fst cap fv cv h1 h2 ih1 ih2
  | ref id off b h => exact .ref id off b (hφ _ _ h)
  | ms id off n b c h hc hm => exact .ms id off n b c (hφ _ _ h) hc hm
  | gs id n cap b h hc hm => exact .gs id n cap b (hφ _ _ h) hc hm
  | mp id b h => exact .mp id b (hφ _ _ h)
  | yl id b h => exact .yl id b (hφ _ _ h)
  | agg cs vs h ho _ ih => exact .agg cs vs h ho ih
  | tup cs vs h _ ih => exact .tup cs vs h ih
  | cnd g a v _ h0 ih => exact .cnd g a v ih h0
def A.one : A → Bool
  | .s v => v.oneCell'
  | .sl .. | .pt _ | .fn .. | .ref .. | .ms .. | .gs .. | .mp _ | .yl _ => true
  | _ => false
theorem VR.one {φ : Names} {Z : Still} {w : World} {a : A} {v : Value} (h : VR φ Z w a v) (h1 : a.one = true) : v.oneCell' = true := by
  cases h <;> first | exact h1 | rfl | (simp [A.one] at h1)
end Go.AL

namespace Go.AL
open Go Go.RowKit
inductive B where
  | cells (cs : List A)
  | map (kvs : List (A × A))
  | lp (st : LoopState) (pend : Option Code) (S : Nat → A) (nt : Nat) (ps : Array Tmp) (asg body : Code)
abbrev Slots := Nat → A
abbrev Hp := Nat → Option B
structure St where
  S : Slots
  H : Hp
  c : Nat
def upd (S : Slots) (t : Nat) (v : A) : Slots := fun t' => cond (Nat.beq t' t) v (S t')
def updH (H : Hp) (id : Nat) (b : Option B) : Hp := fun i => cond (Nat.beq i id) b (H i)
theorem beq_no {a b : Nat} (h : a ≠ b) : Nat.beq a b = false := by
  cases e : Nat.beq a b with
  | false => rfl
  | true => exact absurd (Nat.eq_of_beq_eq_true e) h
theorem upd_same (S : Slots) (t : Nat) (v : A) : upd S t v t = v := by simp [upd]
theorem upd_other (S : Slots) {t t' : Nat} (v : A) (h : t' ≠ t) : upd S t v t' = S t' := by
  have : Nat.beq t' t = false := beq_no h
  simp [upd, this]
theorem upd_apply (S : Slots) (t t' : Nat) (v : A) : upd S t v t' = if t' = t then v else S t' := by
  by_cases h : t' = t
  · subst h; simp [upd_same]
  · simp [upd_other S v h, h]
theorem updH_same (H : Hp) (i : Nat) (b : Option B) : updH H i b i = b := by simp [updH]
theorem updH_other (H : Hp) {i j : Nat} (b : Option B) (h : j ≠ i) : updH H i b j = H j := by
  have : Nat.beq j i = false := beq_no h
  simp [updH, this]
theorem updH_apply (H : Hp) (i j : Nat) (b : Option B) : updH H i b j = if j = i then b else H j := by
  by_cases h : j = i
  · subst h; simp [updH_same]
  · simp [updH_other H b h, h]
def A.down : A → A
  | .sl n (.own _) es => .sl n .any es
  | a => a
theorem VR.down {φ : Names} {Z : Still} {w : World} {a : A} {v : Value} (h : VR φ Z w a v) : VR φ Z w a.down v := by
  cases h with
  | nil cap => cases cap <;> exact .nil _
  | slz cap a => cases cap <;> exact .slz _ a
  | sl cap es b off sz c val hc hx hm hs hz hv ho hr =>
    cases cap with
    | own e => exact .sl .any es b off sz c val hc (fun h => by cases h) hm hs hz hv ho hr
    | exact => exact .sl .exact es b off sz c val hc hx hm hs hz hv ho hr
    | any => exact .sl .any es b off sz c val hc hx hm hs hz hv ho hr
  | un v => exact .un v
  | s v => exact .s v
  | pt cs b off val hz hv ho hr => exact .pt cs b off val hz hv ho hr
  | fn f fst cap fv cv h1 h2 hf hc => exact .fn f fst cap fv cv h1 h2 hf hc
  | ref id off b h => exact .ref id off b h
  | ms id off n b c h hc hm => exact .ms id off n b c h hc hm
  | gs id n cap b h hc hm => exact .gs id n cap b h hc hm
  | mp id b h => exact .mp id b h
  | yl id b h => exact .yl id b h
  | agg cs vs h ho hr => exact .agg cs vs h ho hr
  | tup cs vs h hr => exact .tup cs vs h hr
  | cnd g a v h h0 => exact .cnd g a v h h0
def BR (φ : Names) (Z : Still) (w : World) (b : Nat) : B → Prop
  | .cells cs => ∃ c T, w.heap[b]? = some (.cells c T (0, 0)) ∧ cs.length ≤ c.size ∧ ∀ j, j < cs.length → VR φ Z w (cs.getD j .un) (c.getD j undef) ∧ (c.getD j undef).oneCell' = true
  | .map kvs => ∃ es : Array MapEntry, w.heap[b]? = some (.map es es.size) ∧ es.size = kvs.length ∧
      ∀ i, i < kvs.length → ∃ e, es[i]? = some e ∧ e.born = i ∧ VR φ Z w ((kvs.getD i (.un, .un)).1) e.key ∧ VR φ Z w ((kvs.getD i (.un, .un)).2) e.val
  | .lp st pend S nt ps asg body => ∃ fn tmps d, w.heap[b]? = some (.loop { state := st, pending := pend, fn := fn, tmps := tmps, params := ps, assign := asg, body := body, defers := d }) ∧
      tmps.size = nt ∧ ∀ t, VR φ Z w (S t) (tmps.getD t undef)
inductive Loc where
  | slot (t : Nat)
  | box (id j : Nat)
def absAt (s : St) : Loc → A
  | .slot t => s.S t
  | .box id j => match s.H id with | some (.cells cs) => cs.getD j .un | _ => .un
def conAt (φ : Names) (a : Act) (w : World) : Loc → Value
  | .slot t => a.tmps.getD t undef
  | .box id j => match φ id with | some b => (w.cell? ⟨b, j, none⟩).getD undef | none => undef
def spareOf : A → Value → Option (Nat × Nat)
  | .sl _ (.own e) _, .slice (some a) n c => if n < c then some (a.block, e) else none
  | _, _ => none
def SpareOk (P : Program) (s : St) (φ : Names) (Z : Still) (w : World) (v : Value) (b e : Nat) : Prop :=
  (∀ id, (s.H id).isSome = true → φ id ≠ some b) ∧
  ∃ n c i cur, v = .slice (some ⟨b, 0, none⟩) n c ∧ P.info? e = some i ∧ w.heap[b]? = some (.cells cur e (0, 0)) ∧ cur.size = c * i.size ∧ ∀ o, n * i.size ≤ o → ¬ Z b o
structure Ctx where
  P : Program
  w0 : World
  M0 : Nat → Prop
  Z0 : Still
  φ0 : Names
  nt : Nat
def marked (w : World) (n0 : Nat) (φ : Names) (H : Hp) (d : Deferred) : Prop :=
  ∃ r, d = { target := .collected r, args := #[] } ∧ n0 ≤ r ∧ w.heap[r]? = some (.deferred (some [])) ∧ ∀ id, (H id).isSome = true → φ id ≠ some r
structure Rel (X : Ctx) (φ : Names) (Z : Still) (s : St) (a : Act) (w : World) : Prop where
  size : a.tmps.size = X.nt
  slots : ∀ t, VR φ Z w (s.S t) (a.tmps.getD t undef)
  boxes : ∀ id bx, s.H id = some bx → ∃ b, φ id = some b ∧ BR φ Z w b bx
  inj : ∀ id id' b, (s.H id).isSome = true → (s.H id').isSome = true → φ id = some b → φ id' = some b → id = id'
  zok : ∀ b o, Z b o → ∃ v, w.cell? ⟨b, o, none⟩ = some v
  zbox : ∀ b o id, Z b o → (s.H id).isSome = true → φ id ≠ some b
  own1 : ∀ l b e, spareOf (absAt s l) (conAt φ a w l) = some (b, e) → SpareOk X.P s φ Z w (conAt φ a w l) b e
  own2 : ∀ l l' b e e', spareOf (absAt s l) (conAt φ a w l) = some (b, e) → spareOf (absAt s l') (conAt φ a w l') = some (b, e') → l = l'
  mut1 : ∀ id b, (s.H id).isSome = true → φ id = some b → X.M0 b ∨ X.w0.heap.size ≤ b
  mut2 : ∀ l b e, spareOf (absAt s l) (conAt φ a w l) = some (b, e) → X.M0 b ∨ X.w0.heap.size ≤ b
  grow : X.w0.heap.size ≤ w.heap.size
  frame : ∀ b, b < X.w0.heap.size → ¬ X.M0 b → w.heap[b]? = X.w0.heap[b]?
  os : w.os = X.w0.os
  tape : w.tape = X.w0.tape
  output : w.output = X.w0.output
  z0 : ∀ b o, X.Z0 b o → Z b o ∧ w.cell? ⟨b, o, none⟩ = X.w0.cell? ⟨b, o, none⟩
  zback : ∀ b o, Z b o → b < X.w0.heap.size → X.Z0 b o ∨ X.M0 b
  names : ∀ id b, X.φ0 id = some b → φ id = some b
  fresh : ∀ id, s.c ≤ id → φ id = none
  defs : ∀ d, d ∈ a.defers → marked w X.w0.heap.size φ s.H d
  dnd : a.defers.Pairwise fun d d' => d.target ≠ d'.target
end Go.AL

namespace Go.AL
open Go Go.RowKit
theorem getD_put {t : Array Value} {d t' : Nat} {v : Value} (hd : d < t.size) : (t.setIfInBounds d v).getD t' undef = if t' = d then v else t.getD t' undef := by
  by_cases h : t' = d
  · subst h; simp [Array.getD, hd]
  · simp only [if_neg h, Array.getD_eq_getD_getElem?]
    rw [Array.getElem?_setIfInBounds]
    simp [show ¬ d = t' from fun e => h e.symm]
structure Quiet (w w' : World) : Prop where
  size : w.heap.size ≤ w'.heap.size
  block : ∀ b, b < w.heap.size → w'.heap[b]? = w.heap[b]?
  os : w'.os = w.os
  tape : w'.tape = w.tape
  output : w'.output = w.output
theorem Quiet.refl (w : World) : Quiet w w := ⟨Nat.le_refl _, fun _ _ => rfl, rfl, rfl, rfl⟩
theorem Quiet.trans {a b c : World} (h : Quiet a b) (k : Quiet b c) : Quiet a c :=
  ⟨Nat.le_trans h.size k.size, fun i hi => (k.block i (Nat.lt_of_lt_of_le hi h.size)).trans (h.block i hi), k.os.trans h.os, k.tape.trans h.tape, k.output.trans h.output⟩
theorem Quiet.alloc (w : World) (o : Obj) : Quiet w (w.alloc o) :=
  ⟨by simp, fun b h => Below.heap_alloc w o b h, rfl, rfl, rfl⟩
theorem Quiet.drew (w : World) : Quiet w w.drew := ⟨Nat.le_refl _, fun _ _ => rfl, rfl, rfl, rfl⟩
theorem lt_of_cell {w : World} {b o : Nat} {v : Value} (h : w.cell? ⟨b, o, none⟩ = some v) : b < w.heap.size := World.block_lt_of_cell? w _ h
theorem lt_of_block {w : World} {b : Nat} {o : Obj} (h : w.heap[b]? = some o) : b < w.heap.size := (Array.getElem?_eq_some_iff.1 h).1
theorem Quiet.cell {w w' : World} (h : Quiet w w') {b o : Nat} (hb : b < w.heap.size) : w'.cell? ⟨b, o, none⟩ = w.cell? ⟨b, o, none⟩ := World.cell?_of_block (w := w) (h.block b hb)
structure More (w w' : World) (Z Z' : Still) : Prop where
  quiet : Quiet w w'
  up : ∀ b o, Z b o → Z' b o
  back : ∀ b o, Z' b o → b < w.heap.size → Z b o
  ok : ∀ b o, Z' b o → w.heap.size ≤ b → ∃ v, w'.cell? ⟨b, o, none⟩ = some v
section
variable {X : Ctx} {φ : Names} {Z Z' : Still} {s : St} {a : Act} {w w' : World}
theorem Rel.zlt (h : Rel X φ Z s a w) {b o : Nat} (hz : Z b o) : b < w.heap.size := by
  obtain ⟨v, hv⟩ := h.zok b o hz; exact lt_of_cell hv
theorem Rel.vr (h : Rel X φ Z s a w) (m : More w w' Z Z') {x : A} {v : Value} (hv : VR φ Z w x v) : VR φ Z' w' x v :=
  hv.mono (fun _ _ h => h) m.up (fun _ _ hz => m.quiet.cell (h.zlt hz))
theorem BR.lt {b : Nat} {bx : B} (h : BR φ Z w b bx) : b < w.heap.size := by
  cases bx with
  | cells cs => obtain ⟨c, T, hb, _⟩ := h; exact lt_of_block hb
  | map kvs => obtain ⟨es, hb, _⟩ := h; exact lt_of_block hb
  | lp st pend S nt ps asg body => obtain ⟨_, _, _, hb, _⟩ := h; exact lt_of_block hb
theorem BR.mono {φ' : Names} {b : Nat} {bx : B} (hφ : ∀ id b, φ id = some b → φ' id = some b) (hZ : ∀ b o, Z b o → Z' b o)
    (hw : ∀ b o, Z b o → w'.cell? ⟨b, o, none⟩ = w.cell? ⟨b, o, none⟩) (hb : w'.heap[b]? = w.heap[b]?) (h : BR φ Z w b bx) : BR φ' Z' w' b bx := by
  cases bx with
  | cells cs => obtain ⟨c, T, h1, h2, h3⟩ := h; exact ⟨c, T, hb.trans h1, h2, fun j hj => ⟨(h3 j hj).1.mono hφ hZ hw, (h3 j hj).2⟩⟩
  | map kvs =>
    obtain ⟨es, h1, h2, h3⟩ := h
    exact ⟨es, hb.trans h1, h2, fun i hi => let ⟨e, e1, e2, e3, e4⟩ := h3 i hi; ⟨e, e1, e2, e3.mono hφ hZ hw, e4.mono hφ hZ hw⟩⟩
  | lp st pend S nt ps asg body => obtain ⟨fn, tmps, d, h1, h2, h3⟩ := h; exact ⟨fn, tmps, d, hb.trans h1, h2, fun t => (h3 t).mono hφ hZ hw⟩
theorem Rel.box_lt (h : Rel X φ Z s a w) {id b : Nat} (hi : (s.H id).isSome = true) (hb : φ id = some b) : b < w.heap.size := by
  obtain ⟨bx, hbx⟩ := Option.isSome_iff_exists.1 hi
  obtain ⟨b', hb', hr⟩ := h.boxes id bx hbx
  rw [hb] at hb'; cases hb'
  exact hr.lt
theorem Rel.con_box (h : Rel X φ Z s a w) (q : Quiet w w') {a' : Act} {id j : Nat} (hi : (s.H id).isSome = true) : conAt φ a' w' (.box id j) = conAt φ a w (.box id j) := by
  obtain ⟨bx, hbx⟩ := Option.isSome_iff_exists.1 hi
  obtain ⟨b, hb, hr⟩ := h.boxes id bx hbx
  simp only [conAt, hb]
  rw [q.cell hr.lt]
theorem spare_box_some {s : St} {id j : Nat} {v : Value} {x : Nat × Nat} (h : spareOf (absAt s (.box id j)) v = some x) : (s.H id).isSome = true := by
  cases hH : s.H id with
  | none => simp [absAt, hH, spareOf] at h
  | some bx => rfl
theorem SpareOk.more (h : Rel X φ Z s a w) (m : More w w' Z Z') {v : Value} {b e : Nat} (k : SpareOk X.P s φ Z w v b e) : SpareOk X.P s φ Z' w' v b e := by
  obtain ⟨k0, n, c, i, cur, k1, k2, k3, k4, k5⟩ := k
  have hb := lt_of_block k3
  exact ⟨k0, n, c, i, cur, k1, k2, (m.quiet.block b hb).trans k3, k4, fun o ho hz => k5 o ho (m.back b o hz hb)⟩
theorem SpareOk.lt {v : Value} {b e : Nat} (k : SpareOk X.P s φ Z w v b e) : b < w.heap.size := by
  obtain ⟨_, n, c, i, cur, _, _, k3, _⟩ := k; exact lt_of_block k3
theorem marked.quiet {n0 : Nat} {H : Hp} {d : Deferred} (q : Quiet w w') (h : marked w n0 φ H d) : marked w' n0 φ H d := by
  obtain ⟨r, h1, h2, h3, h4⟩ := h
  exact ⟨r, h1, h2, (q.block r (lt_of_block h3)).trans h3, h4⟩
theorem Rel.put (h : Rel X φ Z s a w) (m : More w w' Z Z') {d : Nat} (hd : d < X.nt) {x : A} {v : Value} (hv : VR φ Z' w' x v)
    (ho : ∀ b e, spareOf x v = some (b, e) → SpareOk X.P s φ Z' w' v b e ∧ (X.M0 b ∨ X.w0.heap.size ≤ b) ∧
      ∀ l e', l ≠ .slot d → spareOf (absAt s l) (conAt φ a w l) ≠ some (b, e')) :
    Rel X φ Z' { s with S := upd s.S d x } (a.put (some d) v) w' := by
  have hsz : d < a.tmps.size := by rw [h.size]; exact hd
  have hc : ∀ t, conAt φ (a.put (some d) v) w' (.slot t) = if t = d then v else conAt φ a w (.slot t) := fun t => by
    simp only [conAt, Act.put]; exact getD_put hsz
  have key : ∀ l b e, spareOf (absAt { s with S := upd s.S d x } l) (conAt φ (a.put (some d) v) w' l) = some (b, e) →
      (l = .slot d ∧ spareOf x v = some (b, e)) ∨ (l ≠ .slot d ∧ conAt φ (a.put (some d) v) w' l = conAt φ a w l ∧ spareOf (absAt s l) (conAt φ a w l) = some (b, e)) := by
    intro l b e hl
    cases l with
    | slot t =>
      rw [hc] at hl
      simp only [absAt, upd_apply] at hl
      by_cases ht : t = d
      · subst ht; simp only [if_true] at hl; exact .inl ⟨rfl, hl⟩
      · rw [if_neg ht] at hl
        refine .inr ⟨fun e => ht (by cases e; rfl), by rw [hc, if_neg ht], ?_⟩
        rw [if_neg ht] at hl
        exact hl
    | box id j =>
      have hi := spare_box_some hl
      have hcc := h.con_box m.quiet (a' := a.put (some d) v) (j := j) hi
      rw [hcc] at hl
      exact .inr ⟨(fun e => by cases e), hcc, hl⟩
  exact {
    size := by simp [Act.put, h.size]
    slots := fun t => by
      have := hc t
      simp only [conAt] at this
      show VR φ Z' w' (upd s.S d x t) _
      rw [this, upd_apply]
      by_cases ht : t = d
      · simp only [ht, if_true]; exact hv
      · simp only [if_neg ht]; exact h.vr m (h.slots t)
    boxes := fun id bx hb => by
      obtain ⟨b, hb1, hb2⟩ := h.boxes id bx hb
      exact ⟨b, hb1, hb2.mono (fun _ _ h => h) m.up (fun _ _ hz => m.quiet.cell (h.zlt hz)) (m.quiet.block b hb2.lt)⟩
    inj := h.inj
    zok := fun b o hz => by
      by_cases hb : b < w.heap.size
      · obtain ⟨u, hu⟩ := h.zok b o (m.back b o hz hb)
        exact ⟨u, (m.quiet.cell hb).trans hu⟩
      · exact m.ok b o hz (by omega)
    zbox := fun b o id hz hi hφ => by
      have hb := h.box_lt hi hφ
      exact h.zbox b o id (m.back b o hz hb) hi hφ
    own1 := fun l b e hl => by
      rcases key l b e hl with ⟨rfl, hs⟩ | ⟨_, hcc, hs⟩
      · have := (ho b e hs).1
        rw [hc d, if_pos rfl]
        exact this
      · rw [hcc]
        exact (h.own1 l b e hs).more h m
    own2 := fun l l' b e e' hl hl' => by
      rcases key l b e hl with ⟨rfl, hs⟩ | ⟨hne, _, hs⟩ <;> rcases key l' b e' hl' with ⟨rfl, hs'⟩ | ⟨hne', _, hs'⟩
      · rfl
      · exact ((ho b e hs).2.2 l' e' hne' hs').elim
      · exact ((ho b e' hs').2.2 l e hne hs).elim
      · exact h.own2 l l' b e e' hs hs'
    mut1 := h.mut1
    mut2 := fun l b e hl => by
      rcases key l b e hl with ⟨rfl, hs⟩ | ⟨_, hcc, hs⟩
      · exact (ho b e hs).2.1
      · exact h.mut2 l b e hs
    grow := Nat.le_trans h.grow m.quiet.size
    frame := fun b hb hm => (m.quiet.block b (Nat.lt_of_lt_of_le hb h.grow)).trans (h.frame b hb hm)
    os := m.quiet.os.trans h.os
    tape := m.quiet.tape.trans h.tape
    output := m.quiet.output.trans h.output
    z0 := fun b o hz => ⟨m.up b o (h.z0 b o hz).1, (m.quiet.cell (h.zlt (h.z0 b o hz).1)).trans (h.z0 b o hz).2⟩
    zback := fun b o hz hb => h.zback b o (m.back b o hz (Nat.lt_of_lt_of_le hb h.grow)) hb
    names := h.names
    fresh := h.fresh
    defs := fun d hd => (h.defs d hd).quiet m.quiet
    dnd := h.dnd }
theorem Rel.own_new (h : Rel X φ Z s a w) {x : A} {v : Value} {Z' : Still} {w' : World}
    (ho : ∀ b e, spareOf x v = some (b, e) → w.heap.size ≤ b ∧ SpareOk X.P s φ Z' w' v b e) (d : Nat) :
    ∀ b e, spareOf x v = some (b, e) → SpareOk X.P s φ Z' w' v b e ∧ (X.M0 b ∨ X.w0.heap.size ≤ b) ∧
      ∀ l e', l ≠ Loc.slot d → spareOf (absAt s l) (conAt φ a w l) ≠ some (b, e') := fun b e hs =>
  ⟨(ho b e hs).2, .inr (Nat.le_trans h.grow (ho b e hs).1), fun l e' _ hl => by have := (ho b e hs).1; have := (h.own1 l b e' hl).lt; omega⟩
theorem spare_down (x : A) (v : Value) : spareOf x.down v = none := by
  cases x with
  | sl n cap es => cases cap <;> simp [A.down, spareOf]
  | _ => simp [A.down, spareOf]
theorem Rel.put_down (h : Rel X φ Z s a w) (m : More w w' Z Z') {d : Nat} (hd : d < X.nt) {x : A} {v : Value} (hv : VR φ Z' w' x v)
    (ho : ∀ p, spareOf x v ≠ some p) : Rel X φ Z' { s with S := upd s.S d x } (a.put (some d) v) w' :=
  h.put m hd hv fun b e hs => (ho _ hs).elim
structure A.Le (x y : A) : Prop where
  vr : ∀ φ Z w v, VR φ Z w y v → VR φ Z w x v
  own : ∀ v p, spareOf x v = some p → spareOf y v = some p
theorem A.Le.refl (x : A) : A.Le x x := ⟨fun _ _ _ _ h => h, fun _ _ h => h⟩
theorem A.Le.un (x : A) : A.Le .un x := ⟨fun _ _ _ v _ => .un v, fun v p h => by simp [spareOf] at h⟩
theorem A.Le.down (x : A) : A.Le x.down x := ⟨fun _ _ _ _ h => h.down, fun v p h => by rw [spare_down] at h; cases h⟩
def cellOf : B → Nat → A
  | .cells cs, j => cs.getD j .un
  | _, _ => .un
theorem absAt_box (s : St) (id j : Nat) : absAt s (.box id j) = match s.H id with | some bx => cellOf bx j | none => .un := by
  simp only [absAt]
  cases s.H id with
  | none => rfl
  | some bx => cases bx <;> rfl
structure B.Le (x y : B) : Prop where
  br : ∀ φ Z w b, BR φ Z w b y → BR φ Z w b x
  own : ∀ j v p, spareOf (cellOf x j) v = some p → spareOf (cellOf y j) v = some p
theorem B.Le.refl (x : B) : B.Le x x := ⟨fun _ _ _ _ h => h, fun _ _ _ h => h⟩
theorem Rel.weaken (h : Rel X φ Z s a w) {S' : Slots} {H' : Hp} {c' : Nat} (hS : ∀ t, A.Le (S' t) (s.S t)) (hH : ∀ id bx', H' id = some bx' → ∃ bx, s.H id = some bx ∧ B.Le bx' bx)
    (hc : s.c ≤ c') : Rel X φ Z ⟨S', H', c'⟩ a w := by
  have some_of : ∀ id, (H' id).isSome = true → (s.H id).isSome = true := fun id hi => by
    obtain ⟨bx', hb'⟩ := Option.isSome_iff_exists.1 hi
    obtain ⟨bx, hb, _⟩ := hH id bx' hb'
    simp [hb]
  have own_of : ∀ l v p, spareOf (absAt ⟨S', H', c'⟩ l) v = some p → spareOf (absAt s l) v = some p := by
    intro l v p hl
    cases l with
    | slot t => exact (hS t).own v p hl
    | box id j =>
      rw [absAt_box] at hl ⊢
      cases hb' : H' id with
      | none => simp [hb', spareOf] at hl
      | some bx' =>
        obtain ⟨bx, hb, hle⟩ := hH id bx' hb'
        simp only [hb'] at hl
        simp only [hb]
        exact hle.own j v p hl
  exact { h with
    slots := fun t => (hS t).vr _ _ _ _ (h.slots t)
    boxes := fun id bx' hb' => by
      obtain ⟨bx, hb, hle⟩ := hH id bx' hb'
      obtain ⟨b, h1, h2⟩ := h.boxes id bx hb
      exact ⟨b, h1, hle.br _ _ _ _ h2⟩
    inj := fun id id' b hi hi' => h.inj id id' b (some_of id hi) (some_of id' hi')
    zbox := fun b o id hz hi => h.zbox b o id hz (some_of id hi)
    own1 := fun l b e hl => by
      obtain ⟨k0, k⟩ := h.own1 l b e (own_of l _ _ hl)
      exact ⟨fun id hi => k0 id (some_of id hi), k⟩
    own2 := fun l l' b e e' hl hl' => h.own2 l l' b e e' (own_of l _ _ hl) (own_of l' _ _ hl')
    mut1 := fun id b hi => h.mut1 id b (some_of id hi)
    mut2 := fun l b e hl => h.mut2 l b e (own_of l _ _ hl)
    fresh := fun id hi => h.fresh id (Nat.le_trans hc hi)
    defs := fun d hd => by
      obtain ⟨r, h1, h2, h3, h4⟩ := h.defs d hd
      exact ⟨r, h1, h2, h3, fun id hi => h4 id (some_of id hi)⟩ }
theorem Rel.take (h : Rel X φ Z s a w) {t d : Nat} (hd : d < X.nt) (hne : t ≠ d) :
    Rel X φ Z { s with S := upd (upd s.S t (s.S t).down) d (s.S t) } (a.put (some d) (a.tmps.getD t undef)) w := by
  have h1 : Rel X φ Z { s with S := upd s.S t (s.S t).down } a w :=
    h.weaken (S' := upd s.S t (s.S t).down) (H' := s.H) (c' := s.c) (fun t' => by
      rw [upd_apply]
      split
      · rename_i e; subst e; exact .down _
      · exact .refl _) (fun id bx hb => ⟨bx, hb, .refl _⟩) (Nat.le_refl _)
  have hm : More w w Z Z := ⟨.refl w, fun _ _ h => h, fun _ _ h _ => h, fun b o hz hb => by have := h.zlt hz; omega⟩
  refine h1.put hm hd (h.slots t) fun b e hs => ?_
  have hs' : spareOf (absAt s (.slot t)) (conAt φ a w (.slot t)) = some (b, e) := hs
  obtain ⟨k0, k⟩ := h.own1 _ b e hs'
  refine ⟨⟨k0, k⟩, h.mut2 _ b e hs', fun l e' hl hl' => ?_⟩
  have hl2 : spareOf (absAt s l) (conAt φ a w l) = some (b, e') ∧ l ≠ .slot t := by
    cases l with
    | slot t' =>
      simp only [absAt, upd_apply] at hl'
      by_cases e1 : t' = t
      · rw [if_pos e1, spare_down] at hl'; cases hl'
      · rw [if_neg e1] at hl'; exact ⟨hl', fun e2 => e1 (by cases e2; rfl)⟩
    | box id j => exact ⟨hl', fun e2 => by cases e2⟩
  exact hl2.2 (h.own2 _ _ b e' e hl2.1 hs')
theorem Rel.more_refl (h : Rel X φ Z s a w) : More w w Z Z :=
  ⟨.refl w, fun _ _ h => h, fun _ _ h _ => h, fun b o hz hb => by have := h.zlt hz; omega⟩
theorem Rel.newBox (h : Rel X φ Z s a w) (m : More w w' Z Z') {bx : B} {b nm c' : Nat} (hnm : φ nm = none) (hc' : s.c ≤ c') (hlt : nm < c') (hb : w.heap.size ≤ b) (hz : ∀ o, ¬ Z' b o)
    (hr : BR (fun i => cond (Nat.beq i nm) (some b) (φ i)) Z' w' b bx) (ho : ∀ j v p, spareOf (cellOf bx j) v ≠ some p) :
    Rel X (fun i => cond (Nat.beq i nm) (some b) (φ i)) Z' { s with H := updH s.H nm (some bx), c := c' } a w' := by
  have φc : ∀ i, (fun i => cond (Nat.beq i nm) (some b) (φ i)) i = if i = nm then some b else φ i := fun i => by
    by_cases e : i = nm
    · subst e; simp
    · simp [beq_no e, e]
  have φup : ∀ id b', φ id = some b' → (fun i => cond (Nat.beq i nm) (some b) (φ i)) id = some b' := fun id b' hid => by
    rw [φc, if_neg (fun e => by rw [e, hnm] at hid; cases hid)]; exact hid
  generalize (fun i => cond (Nat.beq i nm) (some b) (φ i)) = φ' at *
  have Hc : s.H nm = none := by
    cases e : s.H nm with
    | none => rfl
    | some bx' => obtain ⟨b', h1, _⟩ := h.boxes nm bx' e; rw [hnm] at h1; cases h1
  have old : ∀ id, id ≠ nm → (updH s.H nm (some bx) id).isSome = true → (s.H id).isSome = true := fun id hne hi => by rwa [updH_other _ _ hne] at hi
  have φold : ∀ id, id ≠ nm → φ' id = φ id := fun id hne => by rw [φc, if_neg hne]
  have key : ∀ l b1 e, spareOf (absAt { s with H := updH s.H nm (some bx), c := c' } l) (conAt φ' a w' l) = some (b1, e) →
      conAt φ' a w' l = conAt φ a w l ∧ spareOf (absAt s l) (conAt φ a w l) = some (b1, e) := by
    intro l b1 e hl
    cases l with
    | slot t => exact ⟨rfl, hl⟩
    | box id j =>
      by_cases hid : id = nm
      · subst hid
        rw [absAt_box] at hl
        simp only [updH_same] at hl
        exact (ho _ _ _ hl).elim
      · have ha : absAt { s with H := updH s.H nm (some bx), c := c' } (.box id j) = absAt s (.box id j) := by
          simp only [absAt_box, updH_other _ _ hid]
        rw [ha] at hl
        have hi := spare_box_some hl
        have hcc : conAt φ' a w' (.box id j) = conAt φ a w (.box id j) := by
          have := h.con_box m.quiet (a' := a) (j := j) hi
          simp only [conAt, φold id hid] at this ⊢
          exact this
        exact ⟨hcc, by rw [← hcc]; exact hl⟩
  have kold : ∀ v b1 e, SpareOk X.P s φ Z w v b1 e → SpareOk X.P { s with H := updH s.H nm (some bx), c := c' } φ' Z' w' v b1 e := fun v b1 e k => by
    have hlt := k.lt
    obtain ⟨k0, k1⟩ := k.more h m
    refine ⟨fun id hi => ?_, k1⟩
    by_cases hid : id = nm
    · rw [hid, φc, if_pos rfl]; intro e2; cases e2; omega
    · rw [φold id hid]; exact k0 id (old id hid hi)
  exact {
    size := h.size
    slots := fun t => (h.slots t).mono φup m.up (fun _ _ hz => m.quiet.cell (h.zlt hz))
    boxes := fun id bx' hb' => by
      replace hb' : updH s.H nm (some bx) id = some bx' := hb'
      by_cases hid : id = nm
      · subst hid
        rw [updH_same] at hb'
        cases hb'
        exact ⟨b, by rw [φc, if_pos rfl], hr⟩
      · rw [updH_other _ _ hid] at hb'
        obtain ⟨b', h1, h2⟩ := h.boxes id bx' hb'
        exact ⟨b', φup _ _ h1, h2.mono φup m.up (fun _ _ hz => m.quiet.cell (h.zlt hz)) (m.quiet.block b' h2.lt)⟩
    inj := fun id id' b1 hi hi' h1 h2 => by
      by_cases hid : id = nm <;> by_cases hid' : id' = nm
      · rw [hid, hid']
      · rw [φold id' hid'] at h2
        have := h.box_lt (old id' hid' hi') h2
        rw [hid, φc, if_pos rfl] at h1; cases h1; omega
      · rw [φold id hid] at h1
        have := h.box_lt (old id hid hi) h1
        rw [hid', φc, if_pos rfl] at h2; cases h2; omega
      · rw [φold id hid] at h1; rw [φold id' hid'] at h2
        exact h.inj id id' b1 (old id hid hi) (old id' hid' hi') h1 h2
    zok := fun b' o hz' => by
      by_cases hb' : b' < w.heap.size
      · obtain ⟨u, hu⟩ := h.zok b' o (m.back b' o hz' hb'); exact ⟨u, (m.quiet.cell hb').trans hu⟩
      · exact m.ok b' o hz' (by omega)
    zbox := fun b' o id hz' hi hφ => by
      by_cases hid : id = nm
      · rw [hid, φc, if_pos rfl] at hφ; cases hφ; exact hz o hz'
      · rw [φold id hid] at hφ
        have := h.box_lt (old id hid hi) hφ
        exact h.zbox b' o id (m.back b' o hz' this) (old id hid hi) hφ
    own1 := fun l b1 e hl => by
      obtain ⟨h1, h2⟩ := key l b1 e hl
      rw [h1]; exact kold _ _ _ (h.own1 l b1 e h2)
    own2 := fun l l' b1 e e' hl hl' => h.own2 l l' b1 e e' (key l b1 e hl).2 (key l' b1 e' hl').2
    mut1 := fun id b1 hi hφ => by
      by_cases hid : id = nm
      · rw [hid, φc, if_pos rfl] at hφ; cases hφ; exact .inr (Nat.le_trans h.grow hb)
      · rw [φold id hid] at hφ; exact h.mut1 id b1 (old id hid hi) hφ
    mut2 := fun l b1 e hl => h.mut2 l b1 e (key l b1 e hl).2
    grow := Nat.le_trans h.grow m.quiet.size
    frame := fun b hb hm => (m.quiet.block b (Nat.lt_of_lt_of_le hb h.grow)).trans (h.frame b hb hm)
    os := m.quiet.os.trans h.os
    tape := m.quiet.tape.trans h.tape
    output := m.quiet.output.trans h.output
    z0 := fun b o hz => ⟨m.up b o (h.z0 b o hz).1, (m.quiet.cell (h.zlt (h.z0 b o hz).1)).trans (h.z0 b o hz).2⟩
    zback := fun b o hz hb => h.zback b o (m.back b o hz (Nat.lt_of_lt_of_le hb h.grow)) hb
    names := fun id b1 h1 => φup _ _ (h.names id b1 h1)
    dnd := h.dnd
    fresh := fun id hi => by
      have h1 : c' ≤ id := hi
      have hid : id ≠ nm := by omega
      rw [φold id hid]; exact h.fresh id (by omega)
    defs := fun d hd => by
      obtain ⟨r, h1, h2, h3, h4⟩ := (h.defs d hd).quiet m.quiet
      refine ⟨r, h1, h2, h3, fun id hi => ?_⟩
      by_cases hid : id = nm
      · rw [hid, φc, if_pos rfl]
        obtain ⟨r', q1, q2, q3, _⟩ := h.defs d hd
        have : r' = r := by rw [h1] at q1; cases q1; rfl
        subst this
        have := lt_of_block q3
        intro e2; cases e2; omega
      · rw [φold id hid]; exact h4 id (old id hid hi) }
theorem Rel.bl (h : Rel X φ Z s a w) {id b : Nat} {bx : B} (hi : s.H id = some bx) (hb : φ id = some b) : BR φ Z w b bx := by
  obtain ⟨b', h1, h2⟩ := h.boxes id bx hi
  rw [hb] at h1; cases h1; exact h2
structure At (w w' : World) (b : Nat) (Z : Still) : Prop where
  size : w'.heap.size = w.heap.size
  block : ∀ k, k ≠ b → w'.heap[k]? = w.heap[k]?
  os : w'.os = w.os
  tape : w'.tape = w.tape
  output : w'.output = w.output
  cells : ∀ b o, Z b o → w'.cell? ⟨b, o, none⟩ = w.cell? ⟨b, o, none⟩
theorem Rel.setBox (h : Rel X φ Z s a w) {id b : Nat} {bx bx' : B} (hi : s.H id = some bx) (hb : φ id = some b) (q : At w w' b Z)
    (hr : BR φ Z w' b bx')
    (ho : ∀ j b1 e, spareOf (cellOf bx' j) ((w'.cell? ⟨b, j, none⟩).getD undef) = some (b1, e) →
      (spareOf (cellOf bx j) ((w.cell? ⟨b, j, none⟩).getD undef) = some (b1, e) ∧ w'.cell? ⟨b, j, none⟩ = w.cell? ⟨b, j, none⟩) ∨
      (SpareOk X.P s φ Z w ((w'.cell? ⟨b, j, none⟩).getD undef) b1 e ∧ (X.M0 b1 ∨ X.w0.heap.size ≤ b1) ∧
        (∀ j' e', j' ≠ j → spareOf (cellOf bx' j') ((w'.cell? ⟨b, j', none⟩).getD undef) ≠ some (b1, e')) ∧
        ∀ l e', l ≠ .box id j → spareOf (absAt s l) (conAt φ a w l) ≠ some (b1, e'))) :
    Rel X φ Z { s with H := updH s.H id (some bx') } a w' := by
  have some_of : ∀ i, (updH s.H id (some bx') i).isSome = true → (s.H i).isSome = true := fun i h1 => by
    by_cases e : i = id
    · subst e; simp [hi]
    · rwa [updH_other _ _ e] at h1
  have hib : (s.H id).isSome = true := by simp [hi]
  have other : ∀ i b1, i ≠ id → (s.H i).isSome = true → φ i = some b1 → b1 ≠ b := fun i b1 hne h1 h2 e => hne (h.inj i id b1 h1 hib h2 (e ▸ hb))
  have con : ∀ i j, i ≠ id → (s.H i).isSome = true → conAt φ a w' (.box i j) = conAt φ a w (.box i j) := fun i j hne h1 => by
    obtain ⟨bx1, hbx1⟩ := Option.isSome_iff_exists.1 h1
    obtain ⟨b1, hb1, _⟩ := h.boxes i bx1 hbx1
    simp only [conAt, hb1]
    rw [World.cell?_of_block (w := w) (w' := w') (a := ⟨b1, j, none⟩) (q.block b1 (other i b1 hne h1 hb1))]
  have key : ∀ l b1 e, spareOf (absAt { s with H := updH s.H id (some bx') } l) (conAt φ a w' l) = some (b1, e) →
      (∃ j, l = .box id j ∧ spareOf (cellOf bx' j) ((w'.cell? ⟨b, j, none⟩).getD undef) = some (b1, e)) ∨
      ((∀ j, l ≠ .box id j) ∧ conAt φ a w' l = conAt φ a w l ∧ spareOf (absAt s l) (conAt φ a w l) = some (b1, e)) := by
    intro l b1 e hl
    cases l with
    | slot t => exact .inr ⟨fun j e => by (cases e), rfl, hl⟩
    | box i j =>
      by_cases e1 : i = id
      · subst e1
        refine .inl ⟨j, rfl, ?_⟩
        rw [absAt_box] at hl
        simp only [updH_same, conAt, hb] at hl
        exact hl
      · have h1 := some_of i (spare_box_some hl)
        have hc := con i j e1 h1
        refine .inr ⟨fun j' e => e1 (by cases e; rfl), hc, ?_⟩
        rw [hc] at hl
        rw [absAt_box] at hl ⊢
        simp only [updH_other _ _ e1] at hl
        exact hl
  have spare : ∀ v b1 e, b1 ≠ b → SpareOk X.P s φ Z w v b1 e → SpareOk X.P { s with H := updH s.H id (some bx') } φ Z w' v b1 e := fun v b1 e hne k => by
    obtain ⟨k0, n, c, i, cur, k1, k2, k3, k4, k5⟩ := k
    exact ⟨fun i hi' => k0 i (some_of i hi'), n, c, i, cur, k1, k2, (q.block b1 hne).trans k3, k4, k5⟩
  have nb : ∀ v b1 e, SpareOk X.P s φ Z w v b1 e → b1 ≠ b := fun v b1 e k e1 => k.1 id hib (e1 ▸ hb)
  have old : ∀ j b1 e, spareOf (cellOf bx j) ((w.cell? ⟨b, j, none⟩).getD undef) = some (b1, e) → spareOf (absAt s (.box id j)) (conAt φ a w (.box id j)) = some (b1, e) := fun j b1 e hj => by
    rw [absAt_box]; simp only [hi, conAt, hb]; exact hj
  exact { h with
    slots := fun t => (h.slots t).mono (fun _ _ h => h) (fun _ _ h => h) q.cells
    boxes := fun i bx1 h1 => by
      replace h1 : updH s.H id (some bx') i = some bx1 := h1
      by_cases e : i = id
      · subst e; rw [updH_same] at h1; cases h1; exact ⟨b, hb, hr⟩
      · rw [updH_other _ _ e] at h1
        obtain ⟨b1, h2, h3⟩ := h.boxes i bx1 h1
        exact ⟨b1, h2, h3.mono (fun _ _ h => h) (fun _ _ h => h) q.cells (q.block b1 (other i b1 e (by simp [h1]) h2))⟩
    inj := fun i i' b1 h1 h2 => h.inj i i' b1 (some_of i h1) (some_of i' h2)
    zok := fun b1 o hz => by obtain ⟨v, hv⟩ := h.zok b1 o hz; exact ⟨v, (q.cells b1 o hz).trans hv⟩
    zbox := fun b1 o i hz h1 => h.zbox b1 o i hz (some_of i h1)
    own1 := fun l b1 e hl => by
      rcases key l b1 e hl with ⟨j, rfl, h1⟩ | ⟨_, h1, h2⟩
      · rcases ho j b1 e h1 with ⟨h2, h3⟩ | ⟨h2, _⟩
        · have k := h.own1 _ b1 e (old j b1 e h2)
          simp only [conAt, hb] at k ⊢
          rw [h3]
          exact spare _ _ _ (nb _ _ _ k) k
        · simp only [conAt, hb]
          exact spare _ _ _ (nb _ _ _ h2) h2
      · rw [h1]
        have k := h.own1 l b1 e h2
        exact spare _ _ _ (nb _ _ _ k) k
    own2 := fun l l' b1 e e' hl hl' => by
      rcases key l b1 e hl with ⟨j, rfl, h1⟩ | ⟨n1, _, h1⟩ <;> rcases key l' b1 e' hl' with ⟨j', rfl, h2⟩ | ⟨n2, _, h2⟩
      · by_cases ej : j = j'
        · rw [ej]
        · exfalso
          rcases ho j b1 e h1 with ⟨h3, _⟩ | ⟨_, _, h3, _⟩
          · rcases ho j' b1 e' h2 with ⟨h4, _⟩ | ⟨_, _, h4, _⟩
            · have := h.own2 _ _ b1 e e' (old j b1 e h3) (old j' b1 e' h4)
              cases this; exact ej rfl
            · exact h4 j e ej h1
          · exact h3 j' e' (fun e => ej e.symm) h2
      · exfalso
        rcases ho j b1 e h1 with ⟨h3, _⟩ | ⟨_, _, _, h3⟩
        · exact n2 j (h.own2 _ _ b1 e e' (old j b1 e h3) h2).symm
        · exact h3 l' e' (n2 j) h2
      · exfalso
        rcases ho j' b1 e' h2 with ⟨h3, _⟩ | ⟨_, _, _, h3⟩
        · exact n1 j' (h.own2 _ _ b1 e e' h1 (old j' b1 e' h3))
        · exact h3 l e (n1 j') h1
      · exact h.own2 l l' b1 e e' h1 h2
    mut1 := fun i b1 h1 => h.mut1 i b1 (some_of i h1)
    mut2 := fun l b1 e hl => by
      rcases key l b1 e hl with ⟨j, rfl, h1⟩ | ⟨_, _, h1⟩
      · rcases ho j b1 e h1 with ⟨h2, _⟩ | ⟨_, h2, _⟩
        · exact h.mut2 _ b1 e (old j b1 e h2)
        · exact h2
      · exact h.mut2 l b1 e h1
    grow := by rw [q.size]; exact h.grow
    frame := fun b1 h1 h2 => by
      have : b1 ≠ b := fun e => by
        rcases h.mut1 id b hib hb with h3 | h3
        · exact h2 (e ▸ h3)
        · omega
      exact (q.block b1 this).trans (h.frame b1 h1 h2)
    os := q.os.trans h.os
    tape := q.tape.trans h.tape
    output := q.output.trans h.output
    z0 := fun b1 o hz => ⟨(h.z0 b1 o hz).1, (q.cells b1 o (h.z0 b1 o hz).1).trans (h.z0 b1 o hz).2⟩
    defs := fun d hd => by
      obtain ⟨r, h1, h2, h3, h4⟩ := h.defs d hd
      exact ⟨r, h1, h2, (q.block r (fun e => h4 id hib (e ▸ hb))).trans h3, fun i h5 => h4 i (some_of i h5)⟩ }
end
end Go.AL

namespace Go.AL
open Go Go.RowKit
section
variable {X : Ctx} {φ : Names} {Z Z' : Still} {s : St} {a : Act} {w w' : World}
theorem Rel.freeze (h : Rel X φ Z s a w) {id b : Nat} {cs : List A} (hi : s.H id = some (.cells cs)) (hb : φ id = some b) :
    ∃ Z', (∀ b o, Z b o → Z' b o) ∧ (∀ j, j < cs.length → Z' b j) ∧ Rel X φ Z' { s with H := updH s.H id none } a w := by
  have hib : (s.H id).isSome = true := by simp [hi]
  obtain ⟨c, T, hblk, hlen, hc⟩ := h.bl hi hb
  refine ⟨fun b1 o => Z b1 o ∨ (b1 = b ∧ o < cs.length), fun _ _ h => .inl h, fun j hj => .inr ⟨rfl, hj⟩, ?_⟩
  have some_of : ∀ i, (updH s.H id none i).isSome = true → (s.H i).isSome = true ∧ i ≠ id := fun i h1 => by
    by_cases e : i = id
    · subst e; rw [updH_same] at h1; cases h1
    · rw [updH_other _ _ e] at h1; exact ⟨h1, e⟩
  have own_of : ∀ l v p, spareOf (absAt { s with H := updH s.H id none } l) v = some p → spareOf (absAt s l) v = some p := by
    intro l v p hl
    cases l with
    | slot t => exact hl
    | box i j =>
      rw [absAt_box] at hl ⊢
      by_cases e : i = id
      · subst e; simp [updH_same, spareOf] at hl
      · simpa [updH_other _ _ e] using hl
  have up : ∀ b1 o, Z b1 o → Z b1 o ∨ (b1 = b ∧ o < cs.length) := fun _ _ h => .inl h
  exact { h with
    slots := fun t => (h.slots t).mono (fun _ _ h => h) up (fun _ _ _ => rfl)
    boxes := fun i bx h1 => by
      replace h1 : updH s.H id none i = some bx := h1
      by_cases e : i = id
      · subst e; rw [updH_same] at h1; cases h1
      · rw [updH_other _ _ e] at h1
        obtain ⟨b1, h2, h3⟩ := h.boxes i bx h1
        exact ⟨b1, h2, h3.mono (fun _ _ h => h) up (fun _ _ _ => rfl) rfl⟩
    inj := fun i i' b1 h1 h2 => h.inj i i' b1 (some_of i h1).1 (some_of i' h2).1
    zok := fun b1 o hz => by
      rcases hz with hz | ⟨rfl, ho⟩
      · exact h.zok b1 o hz
      · have hlt : o < c.size := by omega
        exact ⟨c[o], by simp [World.cell?, hblk, hlt]⟩
    zbox := fun b1 o i hz h1 h2 => by
      rcases hz with hz | ⟨rfl, ho⟩
      · exact h.zbox b1 o i hz (some_of i h1).1 h2
      · exact (some_of i h1).2 (h.inj i id b1 (some_of i h1).1 hib h2 hb)
    own1 := fun l b1 e hl => by
      obtain ⟨k0, n, cc, i, cur, k1, k2, k3, k4, k5⟩ := h.own1 l b1 e (own_of l _ _ hl)
      refine ⟨fun i h1 => k0 i (some_of i h1).1, n, cc, i, cur, k1, k2, k3, k4, fun o ho hz => ?_⟩
      rcases hz with hz | ⟨rfl, _⟩
      · exact k5 o ho hz
      · exact k0 id hib hb
    own2 := fun l l' b1 e e' hl hl' => h.own2 l l' b1 e e' (own_of l _ _ hl) (own_of l' _ _ hl')
    mut1 := fun i b1 h1 => h.mut1 i b1 (some_of i h1).1
    mut2 := fun l b1 e hl => h.mut2 l b1 e (own_of l _ _ hl)
    z0 := fun b1 o hz => ⟨.inl (h.z0 b1 o hz).1, (h.z0 b1 o hz).2⟩
    zback := fun b1 o hz h1 => by
      rcases hz with hz | ⟨rfl, ho⟩
      · exact h.zback b1 o hz h1
      · rcases h.mut1 id b1 hib hb with h2 | h2
        · exact .inr h2
        · omega
    defs := fun d hd => by
      obtain ⟨r, h1, h2, h3, h4⟩ := h.defs d hd
      exact ⟨r, h1, h2, h3, fun i h5 => h4 i (some_of i h5).1⟩ }
theorem Rel.pt_of (h : Rel X φ Z s a w) {id b : Nat} {cs : List A} (hi : s.H id = some (.cells cs)) (hb : φ id = some b)
    (hZ : ∀ b o, Z b o → Z' b o) (hz : ∀ j, j < cs.length → Z' b j) : VR φ Z' w (.pt (cs.map A.down)) (.pointer (some ⟨b, 0, none⟩)) := by
  obtain ⟨c, T, hblk, hlen, hc⟩ := h.bl hi hb
  refine .pt _ b 0 (fun j => c.getD j undef) (fun j hj => ?_) (fun j hj => ?_) (fun j hj => ?_) (fun j hj => ?_)
  · simp only [Nat.zero_add]; exact hz j (by simpa using hj)
  · simp only [List.length_map] at hj
    have hlt : j < c.size := by omega
    simp [World.cell?, hblk, hlt]
  · exact (hc j (by simpa using hj)).2
  · simp only [List.length_map] at hj
    have := ((hc j hj).1.mono (φ' := φ) (Z' := Z') (w' := w) (fun _ _ h => h) hZ (fun _ _ _ => rfl)).down
    rw [List.getD_eq_getElem?_getD, List.getElem?_map]
    rw [List.getD_eq_getElem?_getD] at this
    cases hcs : cs[j]? with
    | none => rw [List.getElem?_eq_none_iff] at hcs; omega
    | some x => simpa [hcs] using this
theorem Rel.reslot (h : Rel X φ Z s a w) {t : Nat} {x : A} (hv : VR φ Z w x (a.tmps.getD t undef)) (ho : ∀ v p, spareOf x v ≠ some p) :
    Rel X φ Z { s with S := upd s.S t x } a w := by
  have own_of : ∀ l v p, spareOf (absAt { s with S := upd s.S t x } l) v = some p → spareOf (absAt s l) v = some p := by
    intro l v p hl
    cases l with
    | slot t' =>
      simp only [absAt, upd_apply] at hl ⊢
      split at hl
      · exact (ho _ _ hl).elim
      · exact hl
    | box i j => exact hl
  exact { h with
    slots := fun t' => by
      show VR φ Z w (upd s.S t x t') _
      rw [upd_apply]; split
      · rename_i e; rw [e]; exact hv
      · exact h.slots t'
    own1 := fun l b1 e hl => h.own1 l b1 e (own_of l _ _ hl)
    own2 := fun l l' b1 e e' hl hl' => h.own2 l l' b1 e e' (own_of l _ _ hl) (own_of l' _ _ hl')
    mut2 := fun l b1 e hl => h.mut2 l b1 e (own_of l _ _ hl) }
theorem Rel.freeze_slot (h : Rel X φ Z s a w) {id t : Nat} {cs : List A} (hi : s.H id = some (.cells cs)) (ht : s.S t = .ref id 0) :
    ∃ Z', (∀ b o, Z b o → Z' b o) ∧ Rel X φ Z' { s with S := upd s.S t (.pt (cs.map A.down)), H := updH s.H id none } a w := by
  obtain ⟨b, hb, _⟩ := h.boxes id _ hi
  obtain ⟨Z', h1, h2, h3⟩ := h.freeze hi hb
  refine ⟨Z', h1, Rel.reslot (s := { s with H := updH s.H id none }) h3 ?_ (fun v p e => by simp [spareOf] at e)⟩
  have := h.slots t
  rw [ht] at this
  generalize a.tmps.getD t undef = v at this
  cases this with
  | ref _ _ b' hb' => rw [hb] at hb'; cases hb'; exact h.pt_of hi hb h1 h2
theorem Rel.setFree (h : Rel X φ Z s a w) {b : Nat} (hb : ∀ id, (s.H id).isSome = true → φ id ≠ some b) (hm : X.M0 b ∨ X.w0.heap.size ≤ b)
    (ho : ∀ l e, spareOf (absAt s l) (conAt φ a w l) ≠ some (b, e)) (q : At w w' b Z) {c : Array Value} {T : TypeId} {fr : Nat × Nat} (hc : w.heap[b]? = some (.cells c T fr))
    {N : Nat → Prop} (hN : ∀ o, N o → ∃ v, w'.cell? ⟨b, o, none⟩ = some v) :
    Rel X φ (fun b1 o => Z b1 o ∨ (b1 = b ∧ N o)) s a w' := by
  have up : ∀ b1 o, Z b1 o → Z b1 o ∨ (b1 = b ∧ N o) := fun _ _ h => .inl h
  have con : ∀ l p, spareOf (absAt s l) (conAt φ a w' l) = some p → conAt φ a w' l = conAt φ a w l := by
    intro l p hl
    cases l with
    | slot t => rfl
    | box i j =>
      have h1 := spare_box_some hl
      obtain ⟨bx1, hbx1⟩ := Option.isSome_iff_exists.1 h1
      obtain ⟨b1, hb1, _⟩ := h.boxes i bx1 hbx1
      simp only [conAt, hb1]
      rw [World.cell?_of_block (w := w) (w' := w') (a := ⟨b1, j, none⟩) (q.block b1 (fun e => hb i h1 (e ▸ hb1)))]
  exact { h with
    slots := fun t => (h.slots t).mono (fun _ _ h => h) up q.cells
    boxes := fun i bx h1 => by
      obtain ⟨b1, h2, h3⟩ := h.boxes i bx h1
      exact ⟨b1, h2, h3.mono (fun _ _ h => h) up q.cells (q.block b1 (fun e => hb i (by simp [h1]) (e ▸ h2)))⟩
    zok := fun b1 o hz => by
      rcases hz with hz | ⟨rfl, hn⟩
      · obtain ⟨v, hv⟩ := h.zok b1 o hz; exact ⟨v, (q.cells b1 o hz).trans hv⟩
      · exact hN o hn
    zbox := fun b1 o i hz h1 => by
      rcases hz with hz | ⟨rfl, _⟩
      · exact h.zbox b1 o i hz h1
      · exact hb i h1
    own1 := fun l b1 e hl => by
      have hcc := con l _ hl
      rw [hcc] at hl ⊢
      obtain ⟨k0, n, cc, i, cur, k1, k2, k3, k4, k5⟩ := h.own1 l b1 e hl
      have hne : b1 ≠ b := fun e1 => ho l e (e1 ▸ hl)
      refine ⟨k0, n, cc, i, cur, k1, k2, (q.block b1 hne).trans k3, k4, fun o h1 hz => ?_⟩
      rcases hz with hz | ⟨e1, _⟩
      · exact k5 o h1 hz
      · exact hne e1
    own2 := fun l l' b1 e e' hl hl' => by
      have h1 := con l _ hl; have h2 := con l' _ hl'
      rw [h1] at hl; rw [h2] at hl'
      exact h.own2 l l' b1 e e' hl hl'
    mut2 := fun l b1 e hl => by
      have h1 := con l _ hl
      rw [h1] at hl
      exact h.mut2 l b1 e hl
    grow := by rw [q.size]; exact h.grow
    frame := fun b1 h1 h2 => by
      have : b1 ≠ b := fun e => by
        rcases hm with h3 | h3
        · exact h2 (e ▸ h3)
        · omega
      exact (q.block b1 this).trans (h.frame b1 h1 h2)
    os := q.os.trans h.os
    tape := q.tape.trans h.tape
    output := q.output.trans h.output
    z0 := fun b1 o hz => ⟨.inl (h.z0 b1 o hz).1, (q.cells b1 o (h.z0 b1 o hz).1).trans (h.z0 b1 o hz).2⟩
    zback := fun b1 o hz h1 => by
      rcases hz with hz | ⟨rfl, _⟩
      · exact h.zback b1 o hz h1
      · rcases hm with h3 | h3
        · exact .inr h3
        · omega
    defs := fun d hd => by
      obtain ⟨r, h1, h2, h3, h4⟩ := h.defs d hd
      exact ⟨r, h1, h2, (q.block r (fun e => by rw [e, hc] at h3; cases h3)).trans h3, h4⟩ }
theorem Rel.inplace (h : Rel X φ Z s a w) {t d b e n m c : Nat} {i : TypeInfo} {x' : A} (hd : d < X.nt)
    (hs : spareOf (s.S t) (.slice (some ⟨b, 0, none⟩) n c) = some (b, e)) (hv : a.tmps.getD t undef = .slice (some ⟨b, 0, none⟩) n c)
    (hinf : X.P.info? e = some i) (hm : n + m ≤ c) {cur cur' : Array Value} (hcur : w.heap[b]? = some (.cells cur e (0, 0)))
    (q : At w w' b Z) (hcur' : w'.heap[b]? = some (.cells cur' e (0, 0))) (hsz : cur'.size = cur.size)
    (hx : VR φ (fun b1 o => Z b1 o ∨ (b1 = b ∧ n * i.size ≤ o ∧ o < (n + m) * i.size)) w' x' (.slice (some ⟨b, 0, none⟩) (n + m) c))
    (hx' : ∀ p, spareOf x' (.slice (some ⟨b, 0, none⟩) (n + m) c) = some p → p = (b, e)) :
    Rel X φ (fun b1 o => Z b1 o ∨ (b1 = b ∧ n * i.size ≤ o ∧ o < (n + m) * i.size)) { s with S := upd (upd s.S t (s.S t).down) d x' }
      (a.put (some d) (.slice (some ⟨b, 0, none⟩) (n + m) c)) w' := by
  have hown : spareOf (absAt s (.slot t)) (conAt φ a w (.slot t)) = some (b, e) := by simp only [absAt, conAt, hv]; exact hs
  obtain ⟨k0, n', c', i', cur0, k1, k2, k3, k4, k5⟩ := h.own1 _ b e hown
  have e1 : n' = n ∧ c' = c ∧ i' = i ∧ cur0 = cur := by
    simp only [conAt, hv] at k1
    cases k1
    rw [hinf] at k2; rw [hcur] at k3
    cases k2; cases k3
    exact ⟨rfl, rfl, rfl, rfl⟩
  obtain ⟨rfl, rfl, rfl, rfl⟩ := e1
  have h1 : Rel X φ Z { s with S := upd s.S t (s.S t).down } a w :=
    h.weaken (S' := upd s.S t (s.S t).down) (H' := s.H) (c' := s.c) (fun t' => by
      rw [upd_apply]
      split
      · rename_i e; subst e; exact .down _
      · exact .refl _) (fun id bx hb => ⟨bx, hb, .refl _⟩) (Nat.le_refl _)
  have hfree : ∀ l e', spareOf (absAt { s with S := upd s.S t (s.S t).down } l) (conAt φ a w l) ≠ some (b, e') := fun l e' hl => by
    have hl2 : spareOf (absAt s l) (conAt φ a w l) = some (b, e') ∧ l ≠ .slot t := by
      cases l with
      | slot t' =>
        simp only [absAt, upd_apply] at hl
        by_cases e1 : t' = t
        · rw [if_pos e1, spare_down] at hl; cases hl
        · rw [if_neg e1] at hl; exact ⟨hl, fun e2 => e1 (by cases e2; rfl)⟩
      | box id j => exact ⟨hl, fun e2 => by cases e2⟩
    exact hl2.2 (h.own2 _ _ b e' e hl2.1 hown)
  have hle : (n' + m) * i'.size ≤ cur'.size := by rw [hsz, k4]; exact Nat.mul_le_mul_right _ hm
  have h2 := h1.setFree (w' := w') (b := b) k0 (h.mut2 _ b e hown) hfree q k3 (N := fun o => n' * i'.size ≤ o ∧ o < (n' + m) * i'.size) (fun o ho => by
    have hlt : o < cur'.size := by omega
    exact ⟨cur'[o], by simp [World.cell?, hcur', hlt]⟩)
  refine h2.put h2.more_refl hd hx fun b1 e1 hs1 => ?_
  have := hx' _ hs1
  cases this
  refine ⟨⟨k0, n' + m, c', i', cur', rfl, hinf, hcur', by rw [hsz, k4], fun o ho hz => ?_⟩, h.mut2 _ b e hown, fun l e' hl hl' => ?_⟩
  · rcases hz with hz | ⟨_, _, hz⟩
    · exact k5 o (Nat.le_trans (Nat.mul_le_mul_right _ (by omega)) ho) hz
    · omega
  · have hcc : conAt φ a w' l = conAt φ a w l := by
      cases l with
      | slot t' => rfl
      | box id j =>
        have h3 := spare_box_some hl'
        obtain ⟨bx1, hbx1⟩ := Option.isSome_iff_exists.1 h3
        obtain ⟨b1, hb1, _⟩ := h.boxes id bx1 hbx1
        simp only [conAt, hb1]
        rw [World.cell?_of_block (w := w) (w' := w') (a := ⟨b1, j, none⟩) (q.block b1 (fun e => k0 id h3 (e ▸ hb1)))]
    rw [hcc] at hl'
    exact hfree l e' hl'
end
end Go.AL

namespace Go.AL
open Go Go.RowKit
inductive Ty where
  | none
  | int
  | bool
  | slice (e : Nat)
  | arr (n e : Nat)
  | struct (fs : List (Nat × Nat))
  | map (k e : Nat)
  | ptr (e : Nat)
  | func
  | str
  | num (k : IntKind)
  deriving DecidableEq
def Ty.isAgg : Ty → Bool
  | .arr .. | .struct _ => true
  | _ => false
def pureRun {α : Type} (P : Program) : Sem α → Option α
  | .pure a => some a
  | .program k => pureRun P (k P)
  | _ => none
theorem pureRun_ok {α : Type} {P : Program} {w : World} : ∀ {m : Sem α} {a : α}, pureRun P m = some a → m.run P w = .ok a w
  | .pure _, a, h => by simp only [pureRun, Option.some.injEq] at h; subst h; rfl
  | .program k, a, h => by
    have := pureRun_ok (m := k P) (w := w) (a := a) h
    exact this
def pureEq (P : Program) (op : BinOp) (t : TypeId) (x y : Operand) (a b : Value) : Option Value := pureRun P (do eqGuard op t x y a b; binOp op t a b)
def bare (ks : List Value) : List MapEntry := ks.map fun k => { key := k, val := undef, born := 0 }
def findIx (P : Program) (kt : TypeId) (k : Value) (ks : List Value) : Option (Option Nat) := match pureRun P (Instr.findKey kt k (bare ks)) with
  | some (some (j, _)) => some (some j)
  | some none => some none
  | none => none
def keyOk (P : Program) (e : Bool) (t : TypeId) (v : Value) : Bool := (pureRun P (Instr.checkKey e 10000 t v)).isSome
structure Tab where
  ty : Nat → Ty
  sz : Nat → Nat
  by' : Nat → Nat
  zr : Nat → List A
  eqv : BinOp → TypeId → Operand → Operand → Value → Value → Option Value
  fix : TypeId → Value → List Value → Option (Option Nat)
  ck : Bool → TypeId → Value → Bool
def Ty.fits (P : Program) : Ty → Option TypeDesc → Prop
  | .none, _ => True
  | .int, d => d = some (.int .i64)
  | .bool, d => d = some .bool
  | .slice e, d => d = some (.slice e)
  | .arr n e, d => d = some (.array n e)
  | .struct fs, d => ∃ F : Array Field, d = some (.struct F) ∧ F.size = fs.length ∧ ∀ (i ft off : Nat), fs[i]? = some (ft, off) → ∃ f : Field, F[i]? = some f ∧ f.type = ft ∧ f.offset = off ∧ f.name ≠ "_"
  | .map k e, d => d = some (.map k e)
  | .ptr e, d => d = some (.pointer e)
  | .func, d => ∃ a b c, d = some (.func a b c)
  | .str, d => d = some .string
  | .num k, d => d = some (.int k)
def zeroFits (t : Ty) (n : Nat) (cs : List A) (z : Value) : Prop :=
  z.cells.size = n ∧ cs.length = n ∧ (t.isAgg = true → ∃ vs, z = .agg vs) ∧ (t.isAgg = false → z.oneCell' = true) ∧
  ∀ j, j < n → (z.cells.getD j undef).oneCell' = true ∧ (∀ φ Z w, VR φ Z w (cs.getD j .un) (z.cells.getD j undef)) ∧ ∀ v, spareOf (cs.getD j .un) v = none
structure Tab.Ok (T : Tab) (P : Program) : Prop where
  eqv : T.eqv = pureEq P
  fix : T.fix = findIx P
  ck : T.ck = keyOk P
  und : ∀ t, (T.ty t).fits P (P.underlying t)
  inf : ∀ t, T.ty t ≠ .none → ∃ i, P.info? t = some i ∧ i.size = T.sz t ∧ i.bytes = T.by' t ∧ ∃ z, i.zero = some z ∧ zeroFits (T.ty t) (T.sz t) (T.zr t) z
section
variable {T : Tab} {P : Program} (hT : T.Ok P) {t : Nat} {w : World}
include hT
theorem run_size (h : T.ty t ≠ .none) : (sizeOf t).run P w = .ok (T.sz t) w := by
  obtain ⟨i, h1, h2, _⟩ := hT.inf t h
  simp [sizeOf, typeInfo, h1, h2]
omit hT in
theorem run_und {d : TypeDesc} (h : P.underlying t = some d) : (underlying t).run P w = .ok d w := by simp [underlying, h]
theorem und_bool (h : T.ty t = .bool) : P.underlying t = some .bool := by have := hT.und t; rw [h] at this; exact this
theorem und_slice {e : Nat} (h : T.ty t = .slice e) : P.underlying t = some (.slice e) := by have := hT.und t; rw [h] at this; exact this
theorem und_arr {n e : Nat} (h : T.ty t = .arr n e) : P.underlying t = some (.array n e) := by have := hT.und t; rw [h] at this; exact this
theorem und_map {k e : Nat} (h : T.ty t = .map k e) : P.underlying t = some (.map k e) := by have := hT.und t; rw [h] at this; exact this
theorem und_ptr {e : Nat} (h : T.ty t = .ptr e) : P.underlying t = some (.pointer e) := by have := hT.und t; rw [h] at this; exact this
theorem und_struct {fs : List (Nat × Nat)} (h : T.ty t = .struct fs) : ∃ F : Array Field, P.underlying t = some (.struct F) ∧ F.size = fs.length ∧
    ∀ (i ft off : Nat), fs[i]? = some (ft, off) → ∃ f : Field, F[i]? = some f ∧ f.type = ft ∧ f.offset = off ∧ f.name ≠ "_" := by have := hT.und t; rw [h] at this; exact this
theorem run_isAgg (h : T.ty t ≠ .none) : (isAgg t).run P w = .ok (T.ty t).isAgg w := by
  have := hT.und t
  cases hty : T.ty t with
  | none => exact absurd hty h
  | struct fs => obtain ⟨F, h1, _⟩ := und_struct hT hty; simp [isAgg, underlying, h1, Ty.isAgg]
  | func => rw [hty] at this; simp only [Ty.fits] at this; obtain ⟨a, b, c, h1⟩ := this; simp [isAgg, underlying, h1, Ty.isAgg]
  | _ => rw [hty] at this; simp only [Ty.fits] at this; simp [isAgg, underlying, this, Ty.isAgg]
theorem run_zero (h : T.ty t ≠ .none) : ∃ z, (zeroValue t).run P w = .ok z w ∧ zeroFits (T.ty t) (T.sz t) (T.zr t) z := by
  obtain ⟨i, h1, h2, h3, z, h4, h5⟩ := hT.inf t h
  exact ⟨z, by simp [zeroValue, typeInfo, h1, h4], h5⟩
end
theorem add_addr (b o n : Nat) : (⟨b, o, none⟩ : Addr).add n = ⟨b, o + n, none⟩ := by
  unfold Addr.add; split <;> simp_all
section
variable {T : Tab} {P : Program} (hT : T.Ok P) {w : World}
theorem run_fieldAt (hT : T.Ok P) {st ft off i b o : Nat} {fs : List (Nat × Nat)} (h : T.ty st = .struct fs) (hi : fs[i]? = some (ft, off)) (hf : T.ty ft ≠ .none) (hz : T.sz ft ≠ 0) :
    (Instr.fieldAt st (.pointer (some ⟨b, o, none⟩)) i).run P w = .ok (.pointer (some ⟨b, o + off, none⟩)) w := by
  obtain ⟨F, h1, h2, h3⟩ := und_struct hT h
  obtain ⟨f, h4, h5, h6, _⟩ := h3 i ft off hi
  have := run_size hT (w := w) hf
  subst h5
  subst h6
  simp [Instr.fieldAt, underlying, h1, h4, Instr.sureAddr, fieldPlace, this, hz, add_addr]
theorem run_field (hT : T.Ok P) {st ft off i : Nat} {fs : List (Nat × Nat)} (h : T.ty st = .struct fs) (hi : fs[i]? = some (ft, off)) (hf : T.ty ft ≠ .none) (vs : Array Value) :
    (Instr.field st (.agg vs) i).run P w = (part ft vs off).run P w := by
  obtain ⟨F, h1, h2, h3⟩ := und_struct hT h
  obtain ⟨f, h4, h5, h6, _⟩ := h3 i ft off hi
  subst h5
  subst h6
  simp [Instr.field, underlying, h1, h4, asAgg]
theorem run_part_agg (hT : T.Ok P) {t off : Nat} (ht : T.ty t ≠ .none) (ha : (T.ty t).isAgg = true) (vs : Array Value) :
    (part t vs off).run P w = .ok (.agg (vs.extract off (off + T.sz t))) w := by
  simp [part, run_isAgg hT ht, ha, run_size hT ht]
theorem run_part_one (hT : T.Ok P) {t off : Nat} (ht : T.ty t ≠ .none) (ha : (T.ty t).isAgg = false) (vs : Array Value) (h : off < vs.size) :
    (part t vs off).run P w = .ok (vs.getD off undef) w := by
  simp [part, run_isAgg hT ht, ha, h, Array.getD]
theorem run_load_agg (hT : T.Ok P) {t b o : Nat} (ht : T.ty t ≠ .none) (ha : (T.ty t).isAgg = true) (f : Nat → Value)
    (hv : ∀ j, j < T.sz t → w.cell? ⟨b, o + j, none⟩ = some (f j)) :
    (Instr.loadAt t (.pointer (some ⟨b, o, none⟩))).run P w = .ok (.agg ((List.range (T.sz t)).map f).toArray) w := by
  have := run_loadCells (P := P) w ⟨b, o, none⟩ (T.sz t) f (fun j hj => by rw [add_addr]; exact hv j hj)
  simp [Instr.loadAt, Instr.sureAddr, loadVar, run_isAgg hT ht, ha, run_size hT ht, this]
theorem run_load_one (hT : T.Ok P) {t b o : Nat} {v : Value} (ht : T.ty t ≠ .none) (ha : (T.ty t).isAgg = false) (hv : w.cell? ⟨b, o, none⟩ = some v) :
    (Instr.loadAt t (.pointer (some ⟨b, o, none⟩))).run P w = .ok v w := by
  simp [Instr.loadAt, Instr.sureAddr, loadVar, run_isAgg hT ht, ha, hv]
end
end Go.AL

namespace Go.AL
open Go Go.RowKit
def constA : Value → A
  | .slice none 0 0 => .sl true .exact []
  | v => .s v
def rd (S : Slots) : Operand → A
  | .tmp t => S t
  | .const v => constA v
  | .global _ => .un
  | .func f => .fn (.func f) [] []
theorem vr_const (φ : Names) (Z : Still) (w : World) (v : Value) : VR φ Z w (constA v) v := by
  unfold constA
  split
  · exact .nil _
  · exact .s _
theorem vr_rd {φ : Names} {Z : Still} {w : World} {S : Slots} {a : Act} (h : ∀ t, VR φ Z w (S t) (a.tmps.getD t undef)) (x : Operand) : VR φ Z w (rd S x) (a.eval x) := by
  cases x with
  | tmp t => exact h t
  | const v => exact vr_const _ _ _ v
  | global g => exact .un _
  | func f => exact .fn _ [] [] #[] #[] rfl rfl (fun i hi => by simp at hi) (fun i hi => by simp at hi)
def inR (n : Int) : Prop := -9223372036854775808 ≤ n ∧ n ≤ 9223372036854775807
theorem wrap_in {n : Int} (h : inR n) : IntKind.i64.wrap n = n := IntWalk.i64_in n ⟨h.1, h.2⟩
def iand (a b : Int) : Int := IntKind.i64.wrap ((BitVec.ofInt 64 a &&& BitVec.ofInt 64 b).toNat : Int)
def ior (a b : Int) : Int := IntKind.i64.wrap ((BitVec.ofInt 64 a ||| BitVec.ofInt 64 b).toNat : Int)
def asB : A → Option (Bool × Bool)
  | .s (.bool b) => some (true, b)
  | .cnd g (.s (.bool b)) => some (g, b)
  | _ => none
def arithR : BinOp → Int → Int → Option (A × Prop)
  | .add, a, b => some (.int (a + b), inR (a + b))
  | .sub, a, b => some (.int (a - b), inR (a - b))
  | .mul, a, b => some (.int (a * b), inR (a * b))
  | .quo, a, b => some (.int (a.tdiv b), b ≠ 0 ∧ inR (a.tdiv b))
  | .rem, a, b => some (.int (a.tmod b), b ≠ 0)
  | .and, a, b => some (.int (iand a b), True)
  | .or, a, b => some (.int (ior a b), True)
  | .shl, a, b => some (.int (IntKind.i64.wrap (a * 2 ^ (min b.toNat 64))), 0 ≤ b)
  | .shr, a, b => some (.int (a.fdiv (2 ^ (min b.toNat 64))), 0 ≤ b)
  | .eql, a, b => some (.bool (a == b), True)
  | .neq, a, b => some (.bool (a != b), True)
  | .lss, a, b => some (.bool (decide (a < b)), True)
  | .leq, a, b => some (.bool (decide (a ≤ b)), True)
  | .gtr, a, b => some (.bool (decide (a > b)), True)
  | .geq, a, b => some (.bool (decide (a ≥ b)), True)
  | _, _, _ => none
theorem run_arith {P : Program} {op : BinOp} {t : TypeId} {xo yo : Operand} {a b : Int} {r : A} {ob : Prop} (h : arithR op a b = some (r, ob)) (ho : ob) (w : World) :
    ∃ v, (do eqGuard op t xo yo (.int .i64 a) (.int .i64 b); binOp op t (.int .i64 a) (.int .i64 b) : Sem Value).run P w = .ok v w ∧ r = .s v := by
  have hg : (eqGuard op t xo yo (.int .i64 a) (.int .i64 b)).run P w = .ok () w := by
    unfold eqGuard
    split <;> simp
  simp only [Sem.run_bind, hg, Result.andThen_ok]
  cases op <;> simp only [arithR, Option.some.injEq, Prod.mk.injEq, reduceCtorEq] at h <;>
    (try obtain ⟨rfl, rfl⟩ := h) <;>
    simp [binOp, Op.intArith, Op.intDiv, Op.intBits, Op.intCmp, Op.shift, IntKind.bits, iand, ior] <;>
    (try (simp only [inR] at ho)) <;> (try (rw [wrap_in ho])) <;> (try (obtain ⟨h1, h2⟩ := ho; simp [h1])) <;> (try (rw [wrap_in h2])) <;> (try simp_all) <;> (try omega) <;> (first | done | rfl)
theorem vr_row {φ : Names} {Z : Still} {w : World} {n : Nat} {f : Nat → Value} {cs : List A} (hl : cs.length = n)
    (h : ∀ j, j < n → (f j).oneCell' = true ∧ VR φ Z w (cs.getD j .un) (f j)) : VR φ Z w (.agg cs) (.agg ((List.range n).map f).toArray) := by
  have hg : ∀ i, i < n → (((List.range n).map f).toArray).getD i undef = f i := fun i hi => by simp [Array.getD, hi]
  refine .agg cs _ (by simp [hl]) (fun i hi => ?_) (fun i hi => ?_)
  · rw [hg i (by omega)]; exact (h i (by omega)).1
  · rw [hg i (by omega)]; exact (h i (by omega)).2
theorem getD_take {cs : List A} {n j : Nat} (h : j < n) : (cs.take n).getD j .un = cs.getD j .un := by
  simp [List.getD_eq_getElem?_getD, h]
theorem getD_drop {cs : List A} {n j : Nat} : (cs.drop n).getD j .un = cs.getD (n + j) .un := by
  simp [List.getD_eq_getElem?_getD, List.getElem?_drop]
theorem getD_map_down {cs : List A} {j : Nat} (h : j < cs.length) : (cs.map A.down).getD j .un = (cs.getD j .un).down := by
  simp [List.getD_eq_getElem?_getD, h]
inductive Free : A → Prop
  | un : Free .un
  | s (v : Value) : Free (.s v)
  | sl (nil : Bool) (cap : Cap) (es : List (List A)) (h : ∀ e ∈ es, ∀ x ∈ e, Free x) : Free (.sl nil cap es)
  | pt (cs : List A) (h : ∀ x ∈ cs, Free x) : Free (.pt cs)
  | fn (f : Fn) (fst cap : List A) (h1 : ∀ x ∈ fst, Free x) (h2 : ∀ x ∈ cap, Free x) : Free (.fn f fst cap)
  | agg (cs : List A) (h : ∀ x ∈ cs, Free x) : Free (.agg cs)
  | tup (cs : List A) (h : ∀ x ∈ cs, Free x) : Free (.tup cs)
  | cnd (g : Bool) (a : A) (h : Free a) : Free (.cnd g a)
theorem mem_getD {cs : List A} {j : Nat} (h : j < cs.length) : cs.getD j .un ∈ cs := by
  have : cs.getD j .un = cs[j] := by simp [List.getD, h]
  rw [this]; exact List.getElem_mem _
theorem VR.free {φ φ' : Names} {Z : Still} {w : World} {a : A} {v : Value} (h : VR φ Z w a v) (hf : Free a) : VR φ' Z w a v := by
  induction h with
  | un v => exact .un v
  | s v => exact .s v
  | nil cap => exact .nil cap
  | slz cap a => exact .slz cap a
  | sl cap es b off sz c val hc hx hm hs hz hv ho _ ih =>
    cases hf with
    | sl _ _ _ hf =>
      refine .sl cap es b off sz c val hc hx hm hs hz hv ho (fun i j hi hj => ih i j hi hj ?_)
      have h1 : es.getD i [] ∈ es := by
        have : es.getD i [] = es[i] := by simp [List.getD, hi]
        rw [this]; exact List.getElem_mem _
      exact hf _ h1 _ (mem_getD (by rw [hs _ h1]; exact hj))
  | pt cs b off val hz hv ho _ ih =>
    cases hf with
    | pt _ hf => exact .pt cs b off val hz hv ho (fun j hj => ih j hj (hf _ (mem_getD hj)))
  | fn f fst cap fv cv h1 h2 _ _ ih1 ih2 =>
    cases hf with
    | fn _ _ _ hf1 hf2 => exact .fn f fst cap fv cv h1 h2 (fun i hi => ih1 i hi (hf1 _ (mem_getD hi))) (fun i hi => ih2 i hi (hf2 _ (mem_getD hi)))
  | ref id off b h => cases hf
  | ms id off n b c h hc hm => cases hf
  | gs id n cap b h hc hm => cases hf
  | mp id b h => cases hf
  | yl id b h => cases hf
  | agg cs vs h ho _ ih =>
    cases hf with
    | agg _ hf => exact .agg cs vs h ho (fun i hi => ih i hi (hf _ (mem_getD hi)))
  | tup cs vs h _ ih =>
    cases hf with
    | tup _ hf => exact .tup cs vs h (fun i hi => ih i hi (hf _ (mem_getD hi)))
  | cnd g a v _ h0 ih =>
    cases hf with
    | cnd _ _ hf => exact .cnd g a v (fun h => ih h hf) h0
def VRs (φ : Names) (Z : Still) (w : World) (cs : List A) (vs : Array Value) : Prop :=
  vs.size = cs.length ∧ ∀ i, i < cs.length → VR φ Z w (cs.getD i .un) (vs.getD i undef)
theorem VRs.nil (φ : Names) (Z : Still) (w : World) : VRs φ Z w [] #[] := ⟨rfl, fun i hi => by simp at hi⟩
theorem VRs.append {φ : Names} {Z : Still} {w : World} {cs ds : List A} {vs us : Array Value} (h : VRs φ Z w cs vs) (k : VRs φ Z w ds us) : VRs φ Z w (cs ++ ds) (vs ++ us) := by
  refine ⟨by simp [h.1, k.1], fun i hi => ?_⟩
  simp only [List.length_append] at hi
  by_cases h1 : i < cs.length
  · have := h.2 i h1
    rw [show (cs ++ ds).getD i .un = cs.getD i .un by simp [List.getD_eq_getElem?_getD, List.getElem?_append, h1]]
    rwa [show (vs ++ us).getD i undef = vs.getD i undef by simp [Array.getD_eq_getD_getElem?, Array.getElem?_append, h.1, h1]]
  · have := k.2 (i - cs.length) (by omega)
    rw [show (cs ++ ds).getD i .un = ds.getD (i - cs.length) .un by simp [List.getD_eq_getElem?_getD, List.getElem?_append, h1]]
    rwa [show (vs ++ us).getD i undef = us.getD (i - cs.length) undef by simp [Array.getD_eq_getD_getElem?, Array.getElem?_append, h.1, h1]]
def rds (S : Slots) (xs : List Operand) : List A := xs.map fun x => (rd S x).down
theorem vrs_rds {φ : Names} {Z : Still} {w : World} {S : Slots} {a : Act} (h : ∀ t, VR φ Z w (S t) (a.tmps.getD t undef)) (xs : Array Operand) : VRs φ Z w (rds S xs.toList) (xs.map a.eval) := by
  refine ⟨by simp [rds], fun i hi => ?_⟩
  simp only [rds, List.length_map, Array.length_toList] at hi
  have h1 : (rds S xs.toList).getD i .un = (rd S xs[i]).down := by simp [rds, List.getD_eq_getElem?_getD, hi]
  have h2 : (xs.map a.eval).getD i undef = a.eval xs[i] := by simp [Array.getD, hi]
  rw [h1, h2]
  exact (vr_rd h _).down
def Pure (P : Program) (f : FuncId) (args : List A) (v : A) : Prop :=
  ∀ φ Z w vs, (∀ b o, Z b o → ∃ u, w.cell? ⟨b, o, none⟩ = some u) → VRs φ Z w args vs →
    Calls P f vs w fun e w' => ∃ u Z', e = .returned u ∧ More w w' Z Z' ∧ VR φ Z' w' v u ∧ ∀ u', spareOf v u' = none
theorem spare_s (v : Value) (u : Value) (p : Nat × Nat) : spareOf (.s v) u ≠ some p := by simp [spareOf]
theorem spare_dn (x : A) (u : Value) (p : Nat × Nat) : spareOf x.down u ≠ some p := by rw [spare_down]; exact fun h => by cases h
section
variable {φ : Names} {Z : Still} {w : World}
theorem inv_s {v u : Value} (h : VR φ Z w (.s v) u) : u = v := by cases h; rfl
theorem inv_agg {cs : List A} {u : Value} (h : VR φ Z w (.agg cs) u) : ∃ vs : Array Value, u = .agg vs ∧ vs.size = cs.length ∧ (∀ i, i < cs.length → (vs.getD i undef).oneCell' = true) ∧
    ∀ i, i < cs.length → VR φ Z w (cs.getD i .un) (vs.getD i undef) := by cases h with | agg _ vs h1 h2 h3 => exact ⟨vs, rfl, h1, h2, h3⟩
theorem inv_tup {cs : List A} {u : Value} (h : VR φ Z w (.tup cs) u) : ∃ vs : Array Value, u = .tuple vs ∧ vs.size = cs.length ∧
    ∀ i, i < cs.length → VR φ Z w (cs.getD i .un) (vs.getD i undef) := by cases h with | tup _ vs h1 h3 => exact ⟨vs, rfl, h1, h3⟩
theorem inv_pt {cs : List A} {u : Value} (h : VR φ Z w (.pt cs) u) : ∃ (b off : Nat) (val : Nat → Value), u = .pointer (some ⟨b, off, none⟩) ∧ (∀ j, j < cs.length → Z b (off + j)) ∧
    (∀ j, j < cs.length → w.cell? ⟨b, off + j, none⟩ = some (val j)) ∧ (∀ j, j < cs.length → (val j).oneCell' = true) ∧ ∀ j, j < cs.length → VR φ Z w (cs.getD j .un) (val j) := by
  cases h with | pt _ b off val h1 h2 h3 h4 => exact ⟨b, off, val, rfl, h1, h2, h3, h4⟩
theorem inv_ref {id off : Nat} {u : Value} (h : VR φ Z w (.ref id off) u) : ∃ b, u = .pointer (some ⟨b, off, none⟩) ∧ φ id = some b := by
  cases h with | ref _ _ b h => exact ⟨b, rfl, h⟩
theorem inv_ms {id off n : Nat} {u : Value} (h : VR φ Z w (.ms id off n) u) : ∃ b c, u = .slice (some ⟨b, off, none⟩) n c ∧ φ id = some b ∧ n ≤ c ∧ c ≤ maxLen := by
  cases h with | ms _ _ _ b c h hc hm => exact ⟨b, c, rfl, h, hc, hm⟩
theorem inv_fn {f : Fn} {fst cap : List A} {u : Value} (h : VR φ Z w (.fn f fst cap) u) : ∃ fv cv, u = .func f fv cv ∧ VRs φ Z w fst fv ∧ VRs φ Z w cap cv := by
  cases h with | fn _ _ _ fv cv h1 h2 h3 h4 => exact ⟨fv, cv, rfl, ⟨h1, h3⟩, ⟨h2, h4⟩⟩
theorem inv_sl {nil : Bool} {cap : Cap} {es : List (List A)} {u : Value} (h : VR φ Z w (.sl nil cap es) u) :
    (nil = true ∧ es = [] ∧ u = .slice none 0 0) ∨ (nil = false ∧ es = [] ∧ ∃ a, u = .slice (some a) 0 0) ∨
    (nil = false ∧ ∃ (b off sz c : Nat) (val : Nat → Nat → Value), u = .slice (some ⟨b, off, none⟩) es.length c ∧ es.length ≤ c ∧ (cap = .exact → c = es.length) ∧ c ≤ maxLen ∧ (∀ e ∈ es, e.length = sz) ∧
      (∀ i j, i < es.length → j < sz → Z b (off + i * sz + j)) ∧ (∀ i j, i < es.length → j < sz → w.cell? ⟨b, off + i * sz + j, none⟩ = some (val i j)) ∧
      (∀ i j, i < es.length → j < sz → (val i j).oneCell' = true) ∧ ∀ i j, i < es.length → j < sz → VR φ Z w ((es.getD i []).getD j .un) (val i j)) := by
  cases h with
  | nil => exact .inl ⟨rfl, rfl, rfl⟩
  | slz _ a => exact .inr (.inl ⟨rfl, rfl, a, rfl⟩)
  | sl _ _ b off sz c val h1 h2 h3 h4 h5 h6 h7 h8 => exact .inr (.inr ⟨rfl, b, off, sz, c, val, rfl, h1, h2, h3, h4, h5, h6, h7, h8⟩)
theorem getD_some {es : List (List A)} {i : Nat} {cs : List A} (h : es[i]? = some cs) : es.getD i [] = cs ∧ i < es.length := by
  have h1 := (List.getElem?_eq_some_iff.1 h).1
  exact ⟨by simp [List.getD_eq_getElem?_getD, h], h1⟩
end
end Go.AL

namespace Go.AL
open Go Go.RowKit
def cellsA : A → List A
  | .agg cs => cs
  | v => [v.down]
def okPart : A → Bool
  | .agg _ => true
  | v => v.one
def VRc (φ : Names) (Z : Still) (w : World) (cs : List A) (vs : Array Value) : Prop :=
  vs.size = cs.length ∧ ∀ i, i < cs.length → (vs.getD i undef).oneCell' = true ∧ VR φ Z w (cs.getD i .un) (vs.getD i undef)
section
variable {φ : Names} {Z : Still} {w : World}
theorem cells_vr {v : A} {u : Value} (h : VR φ Z w v u) (hp : okPart v = true) : VRc φ Z w (cellsA v) u.cells := by
  have one : v.one = true → (∀ vs, u ≠ .agg vs) → cellsA v = [v.down] → VRc φ Z w (cellsA v) u.cells := fun h1 h2 h3 => by
    rw [h3]
    have hc : u.cells = #[u] := by cases u <;> first | rfl | exact absurd rfl (h2 _)
    rw [hc]
    refine ⟨rfl, fun i hi => ?_⟩
    have : i = 0 := by simpa using hi
    subst this
    exact ⟨h.one h1, h.down⟩
  have h1' : v.one = true → ∀ vs, u ≠ .agg vs := fun h1 vs e => by have := h.one h1; rw [e] at this; cases this
  cases v with
  | agg cs =>
    cases h with
    | agg _ vs h1 h2 h3 => exact ⟨h1, fun i hi => ⟨h2 i hi, h3 i hi⟩⟩
  | _ => exact one hp (h1' hp) rfl
def setSeg (cs : List A) (off : Nat) (vs : List A) : List A := cs.take off ++ (vs ++ cs.drop (off + vs.length))
theorem setSeg_len {cs : List A} {off : Nat} {vs : List A} (h : off + vs.length ≤ cs.length) : (setSeg cs off vs).length = cs.length := by
  simp [setSeg]; omega
theorem setSeg_getD {cs : List A} {off : Nat} {vs : List A} (h : off + vs.length ≤ cs.length) (k : Nat) :
    (setSeg cs off vs).getD k .un = if off ≤ k ∧ k < off + vs.length then vs.getD (k - off) .un else cs.getD k .un := by
  simp only [setSeg, List.getD_eq_getElem?_getD, List.getElem?_append, List.length_take, List.getElem?_take, List.getElem?_drop]
  rw [Nat.min_eq_left (by omega)]
  by_cases h1 : k < off
  · rw [if_pos h1, if_pos h1, if_neg (by omega)]
  · rw [if_neg h1]
    by_cases h2 : k - off < vs.length
    · rw [if_pos h2, if_pos (by omega)]
    · rw [if_neg h2, if_neg (by omega)]
      congr 2; omega
theorem fold_set (off : Nat) : ∀ (vs : List Value) (i : Nat) (cells : Array Value), off + i + vs.length ≤ cells.size →
    ((vs.zipIdx i).foldl (fun cs (c, j) => cs.setIfInBounds (off + j) c) cells).size = cells.size ∧
    ∀ k, ((vs.zipIdx i).foldl (fun cs (c, j) => cs.setIfInBounds (off + j) c) cells).getD k undef =
      if off + i ≤ k ∧ k < off + i + vs.length then vs.getD (k - (off + i)) undef else cells.getD k undef
  | [], i, cells, h => ⟨rfl, fun k => by rw [if_neg (by simp)]; rfl⟩
  | v :: vs, i, cells, h => by
    simp only [List.length_cons] at h
    obtain ⟨h1, h2⟩ := fold_set off vs (i + 1) (cells.setIfInBounds (off + i) v) (by simp; omega)
    simp only [List.zipIdx_cons, List.foldl_cons]
    refine ⟨by rw [h1]; simp, fun k => ?_⟩
    rw [h2 k]
    simp only [List.length_cons]
    by_cases ha : off + (i + 1) ≤ k ∧ k < off + (i + 1) + vs.length
    · rw [if_pos ha, if_pos (by omega), show k - (off + i) = (k - (off + (i + 1))) + 1 by omega]
      simp
    · rw [if_neg ha]
      by_cases hb : k = off + i
      · subst hb
        rw [if_pos (by omega)]
        simp [Array.getD_eq_getD_getElem?, show off + i < cells.size by omega]
      · rw [if_neg (by omega)]
        simp only [Array.getD_eq_getD_getElem?, Array.getElem?_setIfInBounds]
        rw [if_neg (fun e => hb e.symm)]
def fillA (place : Nat → Option (Nat × Nat)) (cs : List A) : List (Nat × A) → Option (List A)
  | [] => some cs
  | (i, v) :: rest => match place i with
    | none => none
    | some (off, size) => match Nat.beq (cellsA v).length size, Nat.ble (off + size) cs.length, okPart v with
      | true, true, true => fillA place (setSeg cs off (cellsA v)) rest
      | _, _, _ => none
theorem fill_sim {place : Nat → Option (Nat × Nat)} : ∀ (ps : List (Nat × A)) (qs : List (Nat × Value)) (cs cs' : List A) (cells : Array Value),
    qs.map (·.1) = ps.map (·.1) → (∀ i, i < ps.length → VR φ Z w ((ps.getD i (0, .un)).2) ((qs.getD i (0, undef)).2)) → VRc φ Z w cs cells → fillA place cs ps = some cs' →
    ∃ cells', Instr.fill place cells qs = some cells' ∧ VRc φ Z w cs' cells'
  | [], [], cs, cs', cells, _, _, hc, h => by simp only [fillA, Option.some.injEq] at h; subst h; exact ⟨cells, rfl, hc⟩
  | [], q :: qs, _, _, _, h, _, _, _ => by simp at h
  | p :: ps, [], _, _, _, h, _, _, _ => by simp at h
  | (i, v) :: ps, (i', u) :: qs, cs, cs', cells, h1, h2, hc, h => by
    simp only [List.map_cons, List.cons.injEq] at h1
    obtain ⟨rfl, h1⟩ := h1
    simp only [fillA] at h
    simp only [Instr.fill]
    cases hp : place i' with
    | none => rw [hp] at h; cases h
    | some x =>
      obtain ⟨off, size⟩ := x
      rw [hp] at h
      simp only at h ⊢
      split at h
      · rename_i e1 e2 e3
        have e1 := Nat.eq_of_beq_eq_true e1
        have e2 := Nat.le_of_ble_eq_true e2
        have hv := h2 0 (by simp)
        simp only [List.getD_cons_zero] at hv
        obtain ⟨k1, k2⟩ := cells_vr hv e3
        rw [if_neg (by rw [k1, e1, hc.1]; simp; omega)]
        have hf := fold_set off u.cells.toList 0 cells (by simp; rw [k1, e1, hc.1]; omega)
        have ez : u.cells.zipIdx.foldl (fun cs (c, j) => cs.setIfInBounds (off + j) c) cells = (u.cells.toList.zipIdx 0).foldl (fun cs (c, j) => cs.setIfInBounds (off + j) c) cells := by
          rw [← Array.foldl_toList, Array.toList_zipIdx]
        rw [ez]
        refine fill_sim ps qs (setSeg cs off (cellsA v)) cs' _ h1 (fun i hi => by simpa using h2 (i + 1) (by simpa using hi)) ⟨?_, fun k hk => ?_⟩ h
        · rw [hf.1, setSeg_len (by omega), hc.1]
        · rw [setSeg_len (by omega)] at hk
          rw [hf.2 k, setSeg_getD (by omega)]
          simp only [Nat.add_zero, Array.length_toList, k1]
          by_cases ha : off ≤ k ∧ k < off + (cellsA v).length
          · rw [if_pos ha, if_pos ha]
            have := k2 (k - off) (by omega)
            have e4 : u.cells.toList.getD (k - off) undef = u.cells.getD (k - off) undef := by simp [List.getD_eq_getElem?_getD, Array.getD_eq_getD_getElem?]
            rw [e4]; exact this
          · rw [if_neg ha, if_neg ha]
            exact hc.2 k hk
      · cases h
theorem run_places {T : Tab} {P : Program} (hT : T.Ok P) (F : List Field) (h : ∀ f ∈ F, T.ty f.type ≠ .none) :
    (F.mapM (m := Sem) fun f => do pure (f.offset, ← sizeOf f.type)).run P w = .ok (F.map fun f => (f.offset, T.sz f.type)) w := by
  induction F with
  | nil => simp
  | cons f F ih =>
    rw [List.mapM_cons]
    simp only [Sem.run_bind, run_size hT (h f (by simp)), Result.andThen_ok, Sem.run_pure]
    rw [ih fun f hf => h f (by simp [hf])]
    rfl
theorem zero_vrc {t : Ty} {n : Nat} {cs : List A} {z : Value} (h : zeroFits t n cs z) : VRc φ Z w cs z.cells := by
  obtain ⟨h1, h2, _, _, h5⟩ := h
  exact ⟨by rw [h1, h2], fun i hi => ⟨(h5 i (by omega)).1, (h5 i (by omega)).2.1 φ Z w⟩⟩
def placeS (T : Tab) (fs : List (Nat × Nat)) (i : Nat) : Option (Nat × Nat) := match fs[i]? with | some x => some (x.2, T.sz x.1) | none => none
theorem run_build {T : Tab} {P : Program} (hT : T.Ok P) {t : Nat} {fs : List (Nat × Nat)} {ps : List (Nat × A)} {qs : Array (Nat × Value)} {cs : List A} (ht : T.ty t = .struct fs) (hf : ∀ x ∈ fs, T.ty x.1 ≠ .none)
    (h1 : qs.toList.map (·.1) = ps.map (·.1)) (h2 : ∀ i, i < ps.length → VR φ Z w ((ps.getD i (0, .un)).2) ((qs.toList.getD i (0, undef)).2))
    (h : fillA (placeS T fs) (T.zr t) ps = some cs) : ∃ vs, (Instr.build t qs).run P w = .ok (.agg vs) w ∧ VRc φ Z w cs vs := by
  obtain ⟨z, hz1, hz2⟩ := run_zero hT (w := w) (t := t) (by simp [ht])
  obtain ⟨F, hF1, hF2, hF3⟩ := und_struct hT ht
  have hF4 : ∀ i (hi : i < F.size), ∃ ft off, fs[i]? = some (ft, off) ∧ F[i].type = ft ∧ F[i].offset = off := fun i hi => by
    have hlt : i < fs.length := by omega
    obtain ⟨f, k1, k2, k3, _⟩ := hF3 i fs[i].1 fs[i].2 (by simp [hlt])
    have : f = F[i] := by simpa [hi] using k1.symm
    subst this
    exact ⟨_, _, by simp [hlt], k2, k3⟩
  have hm : (F.mapM (m := Sem) fun f => do pure (f.offset, ← sizeOf f.type)).run P w = .ok (F.toList.map fun f => (f.offset, T.sz f.type)).toArray w := by
    rw [Array.mapM_eq_mapM_toList]
    simp only [Sem.run_map]
    rw [run_places hT F.toList fun f hf' => ?_]
    · rfl
    · obtain ⟨i, hi, rfl⟩ := List.getElem_of_mem hf'
      simp only [Array.length_toList] at hi
      obtain ⟨ft, off, k1, k2, _⟩ := hF4 i hi
      simp only [Array.getElem_toList, k2]
      exact hf _ (List.mem_of_getElem? k1)
  have hpl : ∀ i, (F.toList.map fun f => (f.offset, T.sz f.type)).toArray[i]? = placeS T fs i := fun i => by
    by_cases hi : i < F.size
    · obtain ⟨ft, off, k1, k2, k3⟩ := hF4 i hi
      simp [placeS, k1, hi, k2, k3]
    · simp [placeS, List.getElem?_eq_none (show fs.length ≤ i by omega), Array.getElem?_eq_none (show F.size ≤ i by omega)]
  obtain ⟨cells', k1, k2⟩ := fill_sim ps qs.toList (T.zr t) cs z.cells h1 h2 (zero_vrc hz2) (by exact h)
  refine ⟨cells', ?_, k2⟩
  have hpl' : (fun i => (F.toList.map fun f => (f.offset, T.sz f.type)).toArray[i]?) = placeS T fs := funext hpl
  unfold Instr.build
  simp only [Sem.run_bind, hz1, Result.andThen_ok, underlying, hF1, run_program, Sem.run_pure]
  rw [hm]
  simp only [Result.andThen_ok]
  rw [show (fun x => (F.toList.map fun f => (f.offset, T.sz f.type)).toArray[x]?) = _ from hpl', k1]
  rfl
theorem run_buildArr {T : Tab} {P : Program} (hT : T.Ok P) {t n e : Nat} {ps : List (Nat × A)} {qs : Array (Nat × Value)} {cs : List A} (ht : T.ty t = .arr n e) (he : T.ty e ≠ .none)
    (h1 : qs.toList.map (·.1) = ps.map (·.1)) (h2 : ∀ i, i < ps.length → VR φ Z w ((ps.getD i (0, .un)).2) ((qs.toList.getD i (0, undef)).2))
    (h : fillA (fun i => some (i * T.sz e, T.sz e)) (T.zr t) ps = some cs) : ∃ vs, (Instr.build t qs).run P w = .ok (.agg vs) w ∧ VRc φ Z w cs vs := by
  obtain ⟨z, hz1, hz2⟩ := run_zero hT (w := w) (t := t) (by simp [ht])
  obtain ⟨cells', k1, k2⟩ := fill_sim ps qs.toList (T.zr t) cs z.cells h1 h2 (zero_vrc hz2) h
  refine ⟨cells', ?_, k2⟩
  unfold Instr.build
  simp only [Sem.run_bind, hz1, Result.andThen_ok, run_und (und_arr hT ht), run_size hT he, Sem.run_pure]
  rw [k1]
  rfl
def litPs : Nat → List A → List (Nat × A)
  | _, [] => []
  | k, v :: vs => (k, v) :: litPs (k + 1) vs
theorem fillA_lit {sz : Nat} : ∀ (vs : List A) (k : Nat) (cs : List A), (∀ v ∈ vs, (cellsA v).length = sz ∧ okPart v = true) → (k + vs.length) * sz ≤ cs.length →
    ∃ cs', fillA (fun i => some (i * sz, sz)) cs (litPs k vs) = some cs' ∧ cs'.length = cs.length ∧
      (∀ i, i < k * sz → cs'.getD i .un = cs.getD i .un) ∧ ∀ i j, i < vs.length → j < sz → cs'.getD ((k + i) * sz + j) .un = (cellsA (vs.getD i .un)).getD j .un
  | [], k, cs, _, _ => ⟨cs, rfl, rfl, fun _ _ => rfl, fun i j hi => by simp at hi⟩
  | v :: vs, k, cs, h, hl => by
    obtain ⟨h1, h2⟩ := h v (by simp)
    simp only [List.length_cons] at hl
    have hle : k * sz + sz ≤ cs.length := by
      have : (k + 1) * sz ≤ (k + (vs.length + 1)) * sz := Nat.mul_le_mul_right _ (by omega)
      rw [Nat.add_mul, Nat.one_mul] at this
      omega
    have hseg : k * sz + (cellsA v).length ≤ cs.length := by omega
    obtain ⟨cs', k1, k2, k3, k4⟩ := fillA_lit vs (k + 1) (setSeg cs (k * sz) (cellsA v)) (fun u hu => h u (by simp [hu])) (by rw [setSeg_len hseg]; rw [show k + 1 + vs.length = k + (vs.length + 1) by omega]; exact hl)
    have b1 : Nat.beq (cellsA v).length sz = true := by rw [h1]; exact Nat.beq_refl sz
    have b2 : Nat.ble (k * sz + sz) cs.length = true := Nat.ble_eq_true_of_le hle
    refine ⟨cs', by simp only [litPs, fillA, b1, b2, h2]; exact k1, by rw [k2, setSeg_len hseg], fun i hi => ?_, fun i j hi hj => ?_⟩
    · rw [k3 i (by rw [Nat.add_mul, Nat.one_mul]; omega), setSeg_getD hseg, if_neg (by omega)]
    · cases i with
      | zero =>
        simp only [Nat.add_zero, List.getD_cons_zero]
        rw [k3 _ (by rw [Nat.add_mul, Nat.one_mul]; omega), setSeg_getD hseg, if_pos (by omega)]
        congr 1; omega
      | succ i =>
        have := k4 i j (by simpa using hi) hj
        rw [show k + (i + 1) = k + 1 + i by omega, this]
        simp
theorem litPs_fst : ∀ (k : Nat) (vs : List A), (litPs k vs).map (·.1) = List.range' k vs.length
  | k, [] => rfl
  | k, v :: vs => by simp [litPs, litPs_fst (k + 1) vs, List.range'_succ]
theorem litPs_snd : ∀ (k : Nat) (vs : List A) (i : Nat), ((litPs k vs).getD i (0, .un)).2 = vs.getD i .un
  | k, [], i => by simp [litPs]
  | k, v :: vs, 0 => by simp [litPs]
  | k, v :: vs, i + 1 => by
    have := litPs_snd (k + 1) vs i
    simpa [litPs] using this
theorem run_lit {T : Tab} {P : Program} (hT : T.Ok P) (hz : ∀ b o, Z b o → ∃ u, w.cell? ⟨b, o, none⟩ = some u) {t e : Nat} {vs : List A} {qs : Array (Nat × Value)} (ht : T.ty t = .slice e) (he : T.ty e ≠ .none)
    (h1 : qs.toList.map (·.1) = List.range' 0 vs.length) (h2 : ∀ i, i < vs.length → VR φ Z w (vs.getD i .un) ((qs.toList.getD i (0, undef)).2))
    (h3 : ∀ v ∈ vs, (cellsA v).length = T.sz e ∧ okPart v = true) (hb : vs.length * T.sz e ≤ 16777216) (h0 : 0 < T.sz e) :
    ∃ u w' Z', (Instr.buildSlice t vs.length qs).run P w = .ok u w' ∧ More w w' Z Z' ∧ VR φ Z' w' (.sl false .exact (vs.map cellsA)) u := by
  obtain ⟨z, hz1, hz2⟩ := run_zero hT (w := w) he
  have hzs := hz2.1
  let flat : Array Value := (Array.range (vs.length * T.sz e)).map (fun k => z.cells[k % z.cells.size]!)
  let flatA : List A := (List.range (vs.length * T.sz e)).map fun k => (T.zr e).getD (k % T.sz e) .un
  have hflat : VRc φ Z w flatA flat := by
    refine ⟨by simp [flat, flatA], fun i hi => ?_⟩
    simp only [flatA, List.length_map, List.length_range] at hi
    have hm : i % T.sz e < T.sz e := Nat.mod_lt _ h0
    have e1 : flat.getD i undef = z.cells.getD (i % T.sz e) undef := by
      simp [flat, Array.getD_eq_getD_getElem?, hi, hzs, hm]
    have e2 : flatA.getD i .un = (T.zr e).getD (i % T.sz e) .un := by
      simp [flatA, List.getD_eq_getElem?_getD, hi]
    rw [e1, e2]
    exact (zero_vrc (φ := φ) (Z := Z) (w := w) hz2).2 _ (by rw [hz2.2.1]; exact hm)
  obtain ⟨cs', k1, k2, _, k4⟩ := fillA_lit (sz := T.sz e) vs 0 flatA h3 (by simp [flatA])
  obtain ⟨cells', k5, k6⟩ := fill_sim (φ := φ) (Z := Z) (w := w) (place := fun i => some (i * T.sz e, T.sz e)) (litPs 0 vs) qs.toList flatA cs' flat (by rw [h1, litPs_fst]) (fun i hi => by
    rw [litPs_snd]
    have : (litPs 0 vs).length = vs.length := by have := congrArg List.length (litPs_fst 0 vs); simpa using this
    exact h2 i (by omega)) hflat k1
  have hcs : cs'.length = vs.length * T.sz e := by rw [k2]; simp [flatA]
  have m : More w (w.alloc (.cells cells' e)) Z (fun b o => Z b o ∨ (b = w.heap.size ∧ o < vs.length * T.sz e)) := by
    refine ⟨Quiet.alloc _ _, fun b o h => .inl h, fun b o h hb => ?_, fun b o h hb => ?_⟩
    · rcases h with h | ⟨rfl, _⟩
      · exact h
      · omega
    · rcases h with h | ⟨rfl, ho⟩
      · obtain ⟨u, hu⟩ := hz b o h; have := lt_of_cell hu; omega
      · have : o < cells'.size := by rw [k6.1, hcs]; exact ho
        exact ⟨cells'[o], by simp [this]⟩
  refine ⟨.slice (some ⟨w.heap.size, 0, none⟩) vs.length vs.length, _, _, ?_, m, ?_⟩
  · have hif : ¬ (vs.length * T.sz e > 2 ^ 24) := by have : (2:Nat) ^ 24 = 16777216 := rfl; omega
    unfold Instr.buildSlice
    simp only [Sem.run_bind, underlying, run_program, Result.andThen_ok, und_slice hT ht, Sem.run_pure, run_size hT he, hif, if_false]
    by_cases hn : vs.length * T.sz e = 0
    · have hv : vs = [] := by
        cases vs with
        | nil => rfl
        | cons v vs => exact absurd (Nat.mul_eq_zero.1 hn) (fun h5 => h5.elim (fun h5 => Nat.succ_ne_zero _ h5) (fun h5 => by omega))
      subst hv
      simp only [List.length_nil, Nat.zero_mul, if_true, Sem.run_pure, Result.andThen_ok]
      have hq : qs.toList = [] := by simpa using h1
      have e1 : cells' = #[] := by apply Array.eq_empty_of_size_eq_zero; rw [k6.1, hcs]; simp
      subst e1
      rw [hq]
      have e2 : ∀ f : Nat → Value, Array.map f (Array.range 0) = #[] := fun f => by apply Array.eq_empty_of_size_eq_zero; simp
      simp [Instr.fill, newRow, e2]
    · rw [if_neg hn]
      simp only [Sem.run_bind, hz1, Result.andThen_ok, Sem.run_pure]
      have : Instr.fill (fun i => some (i * T.sz e, T.sz e)) ((Array.range (vs.length * T.sz e)).map (fun x => z.cells[x % z.cells.size]!)) qs.toList = some cells' := k5
      rw [this]
      simp [newRow]
  · have e0 : vs.length = (vs.map cellsA).length := by simp
    have hle : vs.length ≤ maxLen := by
      have : vs.length ≤ vs.length * T.sz e := Nat.le_mul_of_pos_right _ h0
      simp only [maxLen]; omega
    have hcell : ∀ i j, i < vs.length → j < T.sz e → 0 + i * T.sz e + j < cells'.size := fun i j hi hj => by
      rw [k6.1, hcs]
      have : (i + 1) * T.sz e ≤ vs.length * T.sz e := Nat.mul_le_mul_right _ hi
      rw [Nat.add_mul, Nat.one_mul] at this
      omega
    have key := VR.sl (φ := φ) (Z := fun b o => Z b o ∨ (b = w.heap.size ∧ o < vs.length * T.sz e)) (w := w.alloc (.cells cells' e)) .exact (vs.map cellsA) w.heap.size 0 (T.sz e) vs.length
      (fun i j => cells'.getD (i * T.sz e + j) undef) (by simp) (by simp) hle (fun x hx => by obtain ⟨v, hv, rfl⟩ := List.mem_map.1 hx; exact (h3 v hv).1)
      (fun i j hi hj => .inr ⟨rfl, by have := hcell i j (by simpa using hi) hj; rw [k6.1, hcs] at this; exact this⟩)
      (fun i j hi hj => by
        have := hcell i j (by simpa using hi) hj
        rw [Nat.zero_add] at this ⊢
        simp [this])
      (fun i j hi hj => by
        have := hcell i j (by simpa using hi) hj
        rw [k6.1, Nat.zero_add] at this
        exact (k6.2 _ this).1)
      (fun i j hi hj => by
        have h5 := hcell i j (by simpa using hi) hj
        rw [k6.1, Nat.zero_add] at h5
        have h6 := (k6.2 _ h5).2
        have h7 := k4 i j (by simpa using hi) hj
        rw [Nat.zero_add] at h7
        rw [h7] at h6
        have h8 : ((vs.map cellsA).getD i []).getD j .un = (cellsA (vs.getD i .un)).getD j .un := by
          have hi' : i < vs.length := by simpa using hi
          simp [List.getD_eq_getElem?_getD, hi']
        rw [h8]
        exact h6.mono (fun _ _ h => h) m.up (fun b o hz' => m.quiet.cell (by obtain ⟨u, hu⟩ := hz b o hz'; exact lt_of_cell hu)))
    rw [← e0] at key
    exact key
end
end Go.AL

namespace Go.AL
open Go Go.RowKit
section
variable {φ : Names} {Z : Still} {w : World}
theorem run_box {P : Program} (hz : ∀ b o, Z b o → ∃ u, w.cell? ⟨b, o, none⟩ = some u) {t : Nat} {v : A} {u : Value} (hv : VR φ Z w v u) (hp : okPart v = true) :
    ∃ w' Z', (Instr.box t u).run P w = .ok (.pointer (some ⟨w.heap.size, 0, none⟩)) w' ∧ More w w' Z Z' ∧ VR φ Z' w' (.pt (cellsA v)) (.pointer (some ⟨w.heap.size, 0, none⟩)) := by
  obtain ⟨k1, k2⟩ := cells_vr hv hp
  have m : More w (w.alloc (.cells u.cells t)) Z (fun b o => Z b o ∨ (b = w.heap.size ∧ o < (cellsA v).length)) := by
    refine ⟨Quiet.alloc _ _, fun b o h => .inl h, fun b o h hb => ?_, fun b o h hb => ?_⟩
    · rcases h with h | ⟨rfl, _⟩
      · exact h
      · omega
    · rcases h with h | ⟨rfl, ho⟩
      · obtain ⟨u, hu⟩ := hz b o h; have := lt_of_cell hu; omega
      · exact ⟨u.cells[o]'(by omega), by simp [show o < u.cells.size by omega]⟩
  refine ⟨_, _, by simp [Instr.box, newVar, newRow], m, .pt _ _ 0 (fun j => u.cells.getD j undef) (fun j hj => .inr ⟨rfl, by omega⟩) (fun j hj => ?_) (fun j hj => (k2 j hj).1)
    (fun j hj => ((k2 j hj).2).mono (fun _ _ h => h) m.up (fun b o hz' => m.quiet.cell (by obtain ⟨u, hu⟩ := hz b o hz'; exact lt_of_cell hu)))⟩
  rw [Nat.zero_add]
  simp [show j < u.cells.size by omega, Array.getD]
theorem sl_flat' {cap : Cap} {es : List (List A)} {u : Value} {sz : Nat} (h : VR φ Z w (.sl false cap es) u) (hs : ∀ e ∈ es, e.length = sz) :
    (∃ (b off c : Nat) (vals : List Value), u = .slice (some ⟨b, off, none⟩) es.length c ∧ es.length ≤ c ∧ (cap = .exact → c = es.length) ∧ c ≤ maxLen ∧ vals.length = es.length * sz ∧
      (∀ j, j < es.length * sz → Z b (off + j)) ∧ (∀ j x, vals[j]? = some x → w.cell? ⟨b, off + j, none⟩ = some x) ∧ (∀ x ∈ vals, x.oneCell' = true) ∧
      ∀ i j, i < es.length → j < sz → VR φ Z w ((es.getD i []).getD j .un) (vals.getD (i * sz + j) undef)) ∨ (es = [] ∧ ∃ a, u = .slice (some a) 0 0) := by
  rcases inv_sl h with ⟨h0, _⟩ | ⟨_, rfl, a, rfl⟩ | ⟨_, b, off, sz', c, val, rfl, k1, k2, k3, k4, k5, k6, k7, k8⟩
  · cases h0
  · exact .inr ⟨rfl, a, rfl⟩
  · left
    have idx : ∀ k, k < es.length * sz → k / sz < es.length ∧ k % sz < sz ∧ k / sz * sz + k % sz = k := fun k hk => by
      have h0 : 0 < sz := Nat.pos_of_ne_zero fun e => by subst e; simp at hk
      exact ⟨Nat.div_lt_of_lt_mul (by rw [Nat.mul_comm]; exact hk), Nat.mod_lt _ h0, Nat.div_add_mod' k sz⟩
    have hsz : es ≠ [] → sz' = sz := fun hne => by
      obtain ⟨e, he⟩ := List.exists_mem_of_ne_nil es hne
      rw [← k4 e he, hs e he]
    have hne : ∀ k, k < es.length * sz → es ≠ [] := fun k hk e => by subst e; simp at hk
    have hv : ∀ k, k < es.length * sz → ((List.range (es.length * sz)).map fun k => val (k / sz) (k % sz))[k]? = some (val (k / sz) (k % sz)) := fun k hk => by simp [hk]
    refine ⟨b, off, c, (List.range (es.length * sz)).map fun k => val (k / sz) (k % sz), rfl, k1, k2, k3, by simp, fun j hj => ?_, fun j x hx => ?_, fun x hx => ?_, fun i j hi hj => ?_⟩
    · obtain ⟨h1, h2, h3⟩ := idx j hj
      have := k5 _ _ h1 (by rw [hsz (hne j hj)]; exact h2)
      rw [hsz (hne j hj), Nat.add_assoc, h3] at this
      exact this
    · have hj : j < es.length * sz := by have := (List.getElem?_eq_some_iff.1 hx).1; simpa using this
      obtain ⟨h1, h2, h3⟩ := idx j hj
      rw [hv j hj] at hx
      cases hx
      have := k6 _ _ h1 (by rw [hsz (hne j hj)]; exact h2)
      rw [hsz (hne j hj), Nat.add_assoc, h3] at this
      exact this
    · obtain ⟨k, hk, rfl⟩ := List.mem_map.1 hx
      have hk : k < es.length * sz := by simpa using hk
      obtain ⟨h1, h2, _⟩ := idx k hk
      exact k7 _ _ h1 (by rw [hsz (hne k hk)]; exact h2)
    · have hk : i * sz + j < es.length * sz := by
        have : (i + 1) * sz ≤ es.length * sz := Nat.mul_le_mul_right _ hi
        rw [Nat.add_mul, Nat.one_mul] at this; omega
      have h1 : (i * sz + j) / sz = i := by
        rw [Nat.mul_comm, Nat.mul_add_div (by omega), Nat.div_eq_of_lt hj]; omega
      have h2 : (i * sz + j) % sz = j := by rw [Nat.mul_comm, Nat.mul_add_mod, Nat.mod_eq_of_lt hj]
      have := k8 i j hi (by rw [hsz (hne _ hk)]; exact hj)
      have e3 : ((List.range (es.length * sz)).map fun k => val (k / sz) (k % sz)).getD (i * sz + j) undef = val i j := by
        rw [List.getD_eq_getElem?_getD, hv _ hk, h1, h2]; rfl
      rw [e3]
      exact this
theorem sl_flat {cap : Cap} {es : List (List A)} {u : Value} {sz : Nat} (h : VR φ Z w (.sl false cap es) u) (hne : es ≠ []) (hs : ∀ e ∈ es, e.length = sz) :
    ∃ (b off c : Nat) (vals : List Value), u = .slice (some ⟨b, off, none⟩) es.length c ∧ es.length ≤ c ∧ (cap = .exact → c = es.length) ∧ c ≤ maxLen ∧ vals.length = es.length * sz ∧
      (∀ j, j < es.length * sz → Z b (off + j)) ∧ (∀ j x, vals[j]? = some x → w.cell? ⟨b, off + j, none⟩ = some x) ∧ (∀ x ∈ vals, x.oneCell' = true) ∧
      ∀ i j, i < es.length → j < sz → VR φ Z w ((es.getD i []).getD j .un) (vals.getD (i * sz + j) undef) := by
  rcases sl_flat' h hs with h | ⟨h, _⟩
  · exact h
  · exact absurd h hne
theorem sl_of_flat {cap : Cap} {es : List (List A)} {sz b off c : Nat} {vals : List Value} (hs : ∀ e ∈ es, e.length = sz) (hc : es.length ≤ c) (hx : cap = .exact → c = es.length) (hm : c ≤ maxLen)
    (hl : vals.length = es.length * sz) (hz : ∀ j, j < es.length * sz → Z b (off + j)) (hv : ∀ j x, vals[j]? = some x → w.cell? ⟨b, off + j, none⟩ = some x) (ho : ∀ x ∈ vals, x.oneCell' = true)
    (hr : ∀ i j, i < es.length → j < sz → VR φ Z w ((es.getD i []).getD j .un) (vals.getD (i * sz + j) undef)) : VR φ Z w (.sl false cap es) (.slice (some ⟨b, off, none⟩) es.length c) := by
  have idx : ∀ i j, i < es.length → j < sz → i * sz + j < es.length * sz := fun i j hi hj => by
    have : (i + 1) * sz ≤ es.length * sz := Nat.mul_le_mul_right _ hi
    rw [Nat.add_mul, Nat.one_mul] at this; omega
  have hg : ∀ k, k < es.length * sz → vals[k]? = some (vals.getD k undef) := fun k hk => by
    rw [← hl] at hk; simp [List.getD_eq_getElem?_getD, hk]
  exact .sl cap es b off sz c (fun i j => vals.getD (i * sz + j) undef) hc hx hm hs (fun i j hi hj => by rw [Nat.add_assoc]; exact hz _ (idx i j hi hj))
    (fun i j hi hj => by rw [Nat.add_assoc]; exact hv _ _ (hg _ (idx i j hi hj))) (fun i j hi hj => ho _ (List.mem_of_getElem? (hg _ (idx i j hi hj)))) hr
def Fits (n b : Nat) : Prop := n * b ≤ 140737488355328 ∨ (n + n / 4 + 192) * b ≤ 281474976710656
theorem Fits.grow {need old bytes : Nat} (hb : Fits need bytes) (h : old < need) : Builtin.nextslicecap need old * bytes ≤ 281474976710656 :=
  hb.elim (growslice_fits h) (growslice_fits_wide h)
theorem run_append_newW {T : Tab} {P : Program} (hT : T.Ok P) (hz : ∀ b o, Z b o → ∃ u, w.cell? ⟨b, o, none⟩ = some u) {t ty e : Nat} (ht : T.ty t = .slice e) (he : T.ty e ≠ .none) (h0 : 0 < T.sz e)
    {nil nil2 : Bool} {cap cap2 : Cap} {es ys : List (List A)} {u v : Value} (hu : VR φ Z w (.sl nil cap es) u) (hv : VR φ Z w (.sl nil2 cap2 ys) v)
    (hs : ∀ x ∈ es ++ ys, x.length = T.sz e) (hb : Fits (es.length + ys.length) (T.by' e)) (hm : es.length + ys.length ≤ maxLen)
    (hroom : ∀ a n c, u = .slice a n c → c < es.length + ys.length) (hne : ys ≠ []) :
    ∃ u' w' Z', (Builtin.append_ #[t, t] ty #[u, v]).run P w = .ok u' w' ∧ More w w' Z Z' ∧ VR φ Z' w' (.sl false (.own e) (es ++ ys)) u' ∧
      ∃ n c i cur, u' = .slice (some ⟨w.heap.size, 0, none⟩) n c ∧ P.info? e = some i ∧ w'.heap[w.heap.size]? = some (.cells cur e (0, 0)) ∧ cur.size = c * i.size ∧ ∀ o, n * i.size ≤ o → ¬ Z' w.heap.size o := by
  obtain ⟨i, hi, hi1, hi2, z, hiz, hzf⟩ := hT.inf e he
  have hpos : 0 < ys.length := by cases ys with | nil => exact absurd rfl hne | cons y ys => simp
  have hn2 : nil2 = false := by
    rcases inv_sl hv with ⟨_, h1, _⟩ | ⟨h1, _⟩ | ⟨h1, _⟩
    · exact absurd h1 hne
    · exact h1
    · exact h1
  subst hn2
  obtain ⟨by1, offy, cy, valsy, rfl, ky1, ky2, ky3, ky4, ky5, ky6, ky7, ky8⟩ := sl_flat hv hne (fun x hx => hs x (by simp [hx]))
  have hsmall : ((es.length + ys.length : Nat) : Int) ≤ 9223372036854775807 := by simp only [maxLen] at hm; omega
  have fin : ∀ (valsx : List Value) (C : Nat), es.length + ys.length ≤ C → C ≤ maxLen → valsx.length = es.length * T.sz e → (∀ x ∈ valsx, x.oneCell' = true) →
      (∀ i j, i < es.length → j < T.sz e → VR φ Z w ((es.getD i []).getD j .un) (valsx.getD (i * T.sz e + j) undef)) →
      let w' := w.drew.alloc (.cells (valsx.toArray ++ valsy.toArray ++ Builtin.zeroCells z.cells (C - (es.length + ys.length))) e)
      ∃ Z', More w w' Z Z' ∧ VR φ Z' w' (.sl false (.own e) (es ++ ys)) (.slice (some ⟨w.heap.size, 0, none⟩) (es.length + ys.length) C) ∧
      ∃ n c i cur, Value.slice (some ⟨w.heap.size, 0, none⟩) (es.length + ys.length) C = .slice (some ⟨w.heap.size, 0, none⟩) n c ∧ P.info? e = some i ∧ w'.heap[w.heap.size]? = some (.cells cur e (0, 0)) ∧ cur.size = c * i.size ∧
        ∀ o, n * i.size ≤ o → ¬ Z' w.heap.size o := by
    intro valsx C hC1 hC2 hx1 hx2 hx3 w'
    have hcur : (valsx.toArray ++ valsy.toArray ++ Builtin.zeroCells z.cells (C - (es.length + ys.length))).size = C * T.sz e := by
      simp only [Array.size_append, List.size_toArray, hx1, ky4, size_zeroCells, hzf.1, ← Nat.add_mul]
      congr 1; omega
    have hheap : w'.heap[w.heap.size]? = some (.cells (valsx.toArray ++ valsy.toArray ++ Builtin.zeroCells z.cells (C - (es.length + ys.length))) e (0, 0)) := heap_alloc_new w.drew _
    have hle : (es.length + ys.length) * T.sz e ≤ C * T.sz e := Nat.mul_le_mul_right _ hC1
    have hcell : ∀ j x, (valsx ++ valsy)[j]? = some x → w'.cell? ⟨w.heap.size, 0 + j, none⟩ = some x := fun j x hj => by
      have hlt := (List.getElem?_eq_some_iff.1 hj).1
      have e1 : (valsx.toArray ++ valsy.toArray ++ Builtin.zeroCells z.cells (C - (es.length + ys.length)))[j]? = some x := by
        rw [Array.getElem?_append_left (by simpa using hlt)]
        simpa using hj
      rw [Nat.zero_add]
      simp only [World.cell?, hheap, Option.isSome_none, Bool.false_eq_true, if_false]
      exact e1
    have q : Quiet w w' := (Quiet.drew w).trans (Quiet.alloc _ _)
    have m : More w w' Z (fun b o => Z b o ∨ (b = w.heap.size ∧ o < (es.length + ys.length) * T.sz e)) := by
      refine ⟨q, fun b o h => .inl h, fun b o h hb => ?_, fun b o h hb => ?_⟩
      · rcases h with h | ⟨rfl, _⟩
        · exact h
        · omega
      · rcases h with h | ⟨rfl, ho⟩
        · obtain ⟨u, hu⟩ := hz b o h; have := lt_of_cell hu; omega
        · have hlt : o < (valsx ++ valsy).length := by simp only [List.length_append, hx1, ky4, ← Nat.add_mul]; exact ho
          have := hcell o (valsx ++ valsy)[o] (by simp only [List.getElem?_eq_getElem hlt])
          rw [Nat.zero_add] at this
          exact ⟨_, this⟩
    refine ⟨_, m, ?_, _, _, i, _, rfl, hi, hheap, by rw [hcur, hi1], fun o ho hz' => ?_⟩
    · have e0 : es.length + ys.length = (es ++ ys).length := by simp
      have key := sl_of_flat (φ := φ) (Z := fun b o => Z b o ∨ (b = w.heap.size ∧ o < (es.length + ys.length) * T.sz e)) (w := w') (cap := .own e) (es := es ++ ys) (sz := T.sz e) (b := w.heap.size) (off := 0) (c := C) (vals := valsx ++ valsy)
        hs (by rw [← e0]; exact hC1) (fun h => by cases h) hC2 (by simp only [List.length_append, hx1, ky4, Nat.add_mul]) (fun j hj => .inr ⟨rfl, by rw [← e0] at hj; omega⟩) hcell
        (fun x hx => by exact (List.mem_append.1 hx).elim (fun h => hx2 x h) (fun h => ky7 x h)) (fun i' j hi' hj => ?_)
      · rw [← e0] at key; exact key
      · have up := fun {a : A} {v : Value} (h : VR φ Z w a v) => h.mono (φ' := φ) (Z' := fun b o => Z b o ∨ (b = w.heap.size ∧ o < (es.length + ys.length) * T.sz e)) (w' := w') (fun _ _ h => h) m.up
          (fun b o hz' => q.cell (by obtain ⟨u, hu⟩ := hz b o hz'; exact lt_of_cell hu))
        by_cases h1 : i' < es.length
        · have hk : i' * T.sz e + j < valsx.length := by
            have : (i' + 1) * T.sz e ≤ es.length * T.sz e := Nat.mul_le_mul_right _ h1
            rw [Nat.add_mul, Nat.one_mul] at this; omega
          have h2 := up (hx3 i' j h1 hj)
          rw [show (es ++ ys).getD i' [] = es.getD i' [] by simp [List.getD_eq_getElem?_getD, List.getElem?_append, h1],
            show (valsx ++ valsy).getD (i' * T.sz e + j) undef = valsx.getD (i' * T.sz e + j) undef by simp [List.getD_eq_getElem?_getD, List.getElem?_append, hk]]
          exact h2
        · have hi2 : i' - es.length < ys.length := by simp only [List.length_append] at hi'; omega
          have h2 := up (ky8 (i' - es.length) j hi2 hj)
          have hk : ¬ (i' * T.sz e + j < valsx.length) := by
            have : es.length * T.sz e ≤ i' * T.sz e := Nat.mul_le_mul_right _ (by omega)
            omega
          rw [show (es ++ ys).getD i' [] = ys.getD (i' - es.length) [] by simp [List.getD_eq_getElem?_getD, List.getElem?_append, h1],
            show (valsx ++ valsy).getD (i' * T.sz e + j) undef = valsy.getD ((i' - es.length) * T.sz e + j) undef by
              simp only [List.getD_eq_getElem?_getD, List.getElem?_append, hk, if_false]
              congr 2
              rw [hx1, Nat.sub_mul]
              have : es.length * T.sz e ≤ i' * T.sz e := Nat.mul_le_mul_right _ (by omega)
              omega]
          exact h2
    · rcases hz' with h | ⟨_, h⟩
      · obtain ⟨u, hu⟩ := hz _ _ h; have := lt_of_cell hu; omega
      · rw [hi1] at ho; omega
  have hnews : ∀ j x, valsy[j]? = some x → w.cell? ((⟨by1, offy, none⟩ : Addr).add j) = some x := fun j x hj => by rw [add_addr]; exact ky6 j x hj
  have h63 : es.length + ys.length ≤ maxLen := hm
  have back : ∀ a : Addr, u = .slice (some a) 0 0 → es = [] → ∃ u' w' Z', (Builtin.append_ #[t, t] ty #[u, .slice (some ⟨by1, offy, none⟩) ys.length cy]).run P w = .ok u' w' ∧ More w w' Z Z' ∧ VR φ Z' w' (.sl false (.own e) (es ++ ys)) u' ∧
      ∃ n c i cur, u' = .slice (some ⟨w.heap.size, 0, none⟩) n c ∧ P.info? e = some i ∧ w'.heap[w.heap.size]? = some (.cells cur e (0, 0)) ∧ cur.size = c * i.size ∧ ∀ o, n * i.size ≤ o → ¬ Z' w.heap.size o := fun a e1 e2 => by
    subst e1; subst e2
    have hr := run_append_grow (P := P) w t ty e i z (und_slice hT ht) hi hiz a 0 0 [] (by simp) (fun j x hj => by simp at hj)
      ⟨by1, offy, none⟩ ys.length cy valsy (by rw [ky4, hi1]) hnews (by omega) (by simpa using hsmall) (by rw [hi2]; exact Fits.grow (by simpa using hb) (by omega))
    have hge := grownCap_ge w (0 + ys.length) 0 e
    have hcm := grownCap_le_maxLen w (0 + ys.length) 0 e (by simpa using hm)
    obtain ⟨Z', k1, k2, k3⟩ := fin [] (grownCap w (0 + ys.length) 0 e) (by simpa using hge) hcm (by simp) (fun x hx => by simp at hx) (fun i j hi => by simp at hi)
    simp only [List.length_nil, List.nil_append, Array.empty_append] at k1 k2 k3 hr ⊢
    exact ⟨_, _, Z', hr, k1, k2, k3⟩
  rcases inv_sl hu with ⟨rfl, rfl, rfl⟩ | ⟨rfl, e2, a, e1⟩ | ⟨rfl, _⟩
  rotate_left
  · exact back a e1 e2
  rotate_left
  · have hr := run_append_nil (P := P) w t ty e i z (und_slice hT ht) hi hiz ⟨by1, offy, none⟩ ys.length cy valsy (by rw [ky4, hi1]) hnews hpos (by simpa using hsmall) (by
      simp only [List.length_nil, Nat.zero_add] at hb; rw [hi2]; exact hb.elim (fun h => by omega) fun h => by
        have : ys.length * T.by' e ≤ (ys.length + ys.length / 4 + 192) * T.by' e := Nat.mul_le_mul_right _ (by omega)
        omega)
    have hge := grownCap_ge w ys.length 0 e
    have hcm := grownCap_le_maxLen w ys.length 0 e (by simpa using hm)
    obtain ⟨Z', k1, k2, k3⟩ := fin [] (grownCap w ys.length 0 e) (by simpa using hge) hcm (by simp) (fun x hx => by simp at hx) (fun i j hi => by simp at hi)
    simp only [List.length_nil, Nat.zero_add, List.nil_append, Array.empty_append] at k1 k2 k3
    exact ⟨_, _, Z', hr, k1, k2, k3⟩
  · rcases sl_flat' hu (sz := T.sz e) (fun x hx => hs x (by simp [hx])) with ⟨bx, offx, cx, valsx, rfl, kx1, kx2, kx3, kx4, kx5, kx6, kx7, kx8⟩ | ⟨e2, a, e1⟩
    rotate_left
    · exact back a e1 e2
    have hlt := hroom _ _ _ rfl
    have hr := run_append_grow (P := P) w t ty e i z (und_slice hT ht) hi hiz ⟨bx, offx, none⟩ es.length cx valsx (by rw [kx4, hi1]) (fun j x hj => by rw [add_addr]; exact kx6 j x hj)
      ⟨by1, offy, none⟩ ys.length cy valsy (by rw [ky4, hi1]) hnews hlt hsmall (by rw [hi2]; exact hb.grow hlt)
    have hge := grownCap_ge w (es.length + ys.length) cx e
    have hcm := grownCap_le_maxLen w (es.length + ys.length) cx e hm
    obtain ⟨Z', k1, k2, k3⟩ := fin valsx (grownCap w (es.length + ys.length) cx e) hge hcm kx4 kx7 kx8
    exact ⟨_, _, Z', hr, k1, k2, k3⟩
theorem run_minA {P : Program} (at' : Array TypeId) (ty : TypeId) (a : Int) (l : List Int) :
    (Builtin.min_ at' ty ((a :: l).map (Value.int .i64)).toArray).run P w = .ok (.int .i64 (l.foldl (fun x y => if y < x then y else x) a)) w := by
  have key : ∀ (l : List Int) (a : Int), ((l.map (Value.int .i64)).foldlM Builtin.min2 (.int .i64 a) : Sem Value).run P w = .ok (.int .i64 (l.foldl (fun x y => if y < x then y else x) a)) w := by
    intro l
    induction l with
    | nil => intro a; rfl
    | cons b l ih =>
      intro a
      simp only [List.map_cons, List.foldlM_cons, Sem.run_bind, Builtin.min2, Sem.run_pure, Result.andThen_ok, List.foldl_cons]
      exact ih _
  exact key l a
theorem run_maxA {P : Program} (at' : Array TypeId) (ty : TypeId) (a : Int) (l : List Int) :
    (Builtin.max_ at' ty ((a :: l).map (Value.int .i64)).toArray).run P w = .ok (.int .i64 (l.foldl (fun x y => if y > x then y else x) a)) w := by
  have key : ∀ (l : List Int) (a : Int), ((l.map (Value.int .i64)).foldlM Builtin.max2 (.int .i64 a) : Sem Value).run P w = .ok (.int .i64 (l.foldl (fun x y => if y > x then y else x) a)) w := by
    intro l
    induction l with
    | nil => intro a; rfl
    | cons b l ih =>
      intro a
      simp only [List.map_cons, List.foldlM_cons, Sem.run_bind, Builtin.max2, Sem.run_pure, Result.andThen_ok, List.foldl_cons]
      exact ih _
  exact key l a
theorem sl_cut {cap cap' : Cap} {es : List (List A)} {b off n c c' l m : Nat} {sz off' : Nat} (h : VR φ Z w (.sl false cap es) (.slice (some ⟨b, off, none⟩) n c)) (hs : l = 0 ∨ ∀ z ∈ es, z.length = sz)
    (hl : l + m ≤ es.length) (hc : m ≤ c') (hx : cap' = .exact → c' = m) (hm : c' ≤ maxLen) (ho : m = 0 ∨ off' = off + l * sz) :
    VR φ Z w (.sl false cap' ((es.drop l).take m)) (.slice (some ⟨b, off', none⟩) m c') := by
  rcases inv_sl h with ⟨h0, _⟩ | ⟨_, e1, a, e0⟩ | ⟨_, b1, off1, sz1, c1, val, e0, k1, k2, k3, k4, k5, k6, k7, k8⟩
  · cases h0
  · subst e1
    have : m = 0 ∧ l = 0 := by simp at hl; omega
    obtain ⟨rfl, rfl⟩ := this
    exact .sl cap' [] b off' sz c' (fun _ _ => undef) (Nat.zero_le _) hx hm (fun e he => by simp at he) (fun i j hi => by simp at hi) (fun i j hi => by simp at hi) (fun i j hi => by simp at hi) (fun i j hi => by simp at hi)
  · obtain ⟨rfl, rfl⟩ : b1 = b ∧ off1 = off := by injection e0 with q1 q2 q3; injection q1 with q1; injection q1 with q1 q4; exact ⟨q1.symm, q4.symm⟩
    obtain ⟨rfl, rfl⟩ : es.length = n ∧ c1 = c := by injection e0 with q1 q2 q3; exact ⟨q2.symm, q3.symm⟩
    have hlen : ((es.drop l).take m).length = m := by simp; omega
    have hsz : 0 < m → l * sz1 = l * sz := fun hpos => by
      rcases hs with rfl | hs
      · simp
      · have hne : es ≠ [] := fun e => by subst e; simp at hl; omega
        obtain ⟨e, he⟩ := List.exists_mem_of_ne_nil es hne
        rw [← k4 e he, hs e he]
    have addr : ∀ i j, i < m → off' + i * sz1 + j = off1 + (l + i) * sz1 + j := fun i j hi => by
      rcases ho with rfl | ho
      · omega
      · rw [ho, ← hsz (by omega), Nat.add_mul]; omega
    have gd : ∀ i, i < m → ((es.drop l).take m).getD i [] = es.getD (l + i) [] := fun i hi => by
      simp [List.getD_eq_getElem?_getD, hi]
    have key := VR.sl (φ := φ) (Z := Z) (w := w) cap' ((es.drop l).take m) b1 off' sz1 c' (fun i j => val (l + i) j) (by rw [hlen]; exact hc) (fun e => by rw [hlen]; exact hx e) hm
      (fun e he => k4 e (List.mem_of_mem_drop (List.mem_of_mem_take he)))
      (fun i j hi hj => by rw [hlen] at hi; rw [addr i j hi]; exact k5 _ _ (by omega) hj)
      (fun i j hi hj => by rw [hlen] at hi; rw [addr i j hi]; exact k6 _ _ (by omega) hj)
      (fun i j hi hj => by rw [hlen] at hi; exact k7 _ _ (by omega) hj)
      (fun i j hi hj => by rw [hlen] at hi; rw [gd i hi]; exact k8 _ _ (by omega) hj)
    rw [hlen] at key
    exact key
theorem run_sliceBound {P : Program} {x y : Nat} (code : BoundsCode) (h : x ≤ y) : (Instr.sliceBound (.int .i64 (x : Int)) y code).run P w = .ok x w := by
  have h1 : (0:Int) ≤ x ∧ (x:Int) ≤ y := by omega
  simp [Instr.sliceBound, asIntOf, h]
theorem run_sliceBounds {P : Program} {n c l h : Nat} {lo hi : Option Int} (both : Bool) (r1 : lo = none ∧ l = 0 ∨ lo = some (l : Int)) (r2 : hi = none ∧ h = n ∨ hi = some (h : Int)) (hb : both = true → hi = some (h : Int))
    (h1 : l ≤ h) (h2 : h ≤ n) (h3 : n ≤ c) :
    (Instr.sliceBounds true n c (lo.map (Value.int .i64)) (hi.map (Value.int .i64)) (if both then hi.map (Value.int .i64) else none)).run P w = .ok (l, h, if both then h else c) w := by
  have k1 := fun code => run_sliceBound (w := w) (P := P) code (Nat.le_trans h2 h3)
  have k2 := fun code => run_sliceBound (w := w) (P := P) code h1
  have k3 := fun code => run_sliceBound (w := w) (P := P) code (Nat.le_refl h)
  cases both with
  | true =>
    rw [hb rfl]
    rcases r1 with ⟨rfl, rfl⟩ | rfl <;> simp [Instr.sliceBounds, k1, k2, k3]
  | false =>
    rcases r1 with ⟨rfl, rfl⟩ | rfl <;> rcases r2 with ⟨rfl, rfl⟩ | rfl <;> simp [Instr.sliceBounds, k1, k2, k3]
theorem run_slice {T : Tab} {P : Program} (hT : T.Ok P) {t e : Nat} (ht : T.ty t = .slice e) (he : T.ty e ≠ .none) {u : Value} {nil : Bool} {cap : Cap} {es : List (List A)} (hu : VR φ Z w (.sl nil cap es) u) (lo hi : Option Int) (both : Bool)
    (hb : both = true → hi.isSome = true) (h0 : 0 ≤ lo.getD 0) (h1 : lo.getD 0 ≤ hi.getD es.length) (h2 : hi.getD es.length ≤ es.length) (hs : lo.getD 0 = 0 ∨ ∀ z ∈ es, z.length = T.sz e) :
    ∃ u', (Instr.sliceAt t u (lo.map (Value.int .i64)) (hi.map (Value.int .i64)) (if both then hi.map (Value.int .i64) else none)).run P w = .ok u' w ∧
      VR φ Z w (.sl nil (if both then .exact else .any) ((es.drop (lo.getD 0).toNat).take ((hi.getD es.length).toNat - (lo.getD 0).toNat))) u' := by
  have hund := und_slice hT ht
  rcases inv_sl hu with ⟨rfl, rfl, rfl⟩ | ⟨rfl, rfl, ad, rfl⟩ | ⟨rfl, b, off, sz, c, val, rfl, k1, k2, k3, _⟩
  rotate_left
  · simp only [List.length_nil, Int.ofNat_zero] at h1 h2
    have e1 : lo.getD 0 = 0 := by
      cases hi <;> simp at h1 h2 <;> omega
    have e2 : hi.getD 0 = 0 := by
      cases hi <;> simp at h1 h2 ⊢; omega
    refine ⟨.slice (some ad) 0 0, ?_, by simpa using VR.slz _ ad⟩
    have a1 : lo = none ∨ lo = some 0 := by cases lo with | none => exact .inl rfl | some x => right; simp at e1; rw [e1]
    have a2 : hi = none ∨ hi = some 0 := by cases hi with | none => exact .inl rfl | some x => right; simp at e2; rw [e2]
    rcases a1 with rfl | rfl <;> rcases a2 with rfl | rfl <;> cases both <;> simp [Instr.sliceAt, Instr.slice, Instr.sliceBounds, Instr.sliceBound, asIntOf, underlying, hund, run_size hT he] at hb ⊢
  rotate_left
  · simp only [List.length_nil, Int.ofNat_zero] at h1 h2
    have e1 : lo.getD 0 = 0 := by
      cases hi <;> simp at h1 h2 <;> omega
    have e2 : hi.getD 0 = 0 := by
      cases hi <;> simp at h1 h2 ⊢; omega
    refine ⟨.slice none 0 0, ?_, by simpa using VR.nil _⟩
    have a1 : lo = none ∨ lo = some 0 := by cases lo with | none => exact .inl rfl | some x => right; simp at e1; rw [e1]
    have a2 : hi = none ∨ hi = some 0 := by cases hi with | none => exact .inl rfl | some x => right; simp at e2; rw [e2]
    rcases a1 with rfl | rfl <;> rcases a2 with rfl | rfl <;> cases both <;> simp [Instr.sliceAt, Instr.slice, Instr.sliceBounds, Instr.sliceBound, asIntOf, underlying, hund, run_size hT he] at hb ⊢
  · obtain ⟨l, hl⟩ : ∃ l : Nat, lo.getD 0 = l := ⟨(lo.getD 0).toNat, by omega⟩
    obtain ⟨h, hh⟩ : ∃ h : Nat, hi.getD es.length = h := ⟨(hi.getD es.length).toNat, by omega⟩
    rw [hl, hh] at h1
    rw [hh] at h2
    rw [hl] at hs
    rw [hl, hh]
    simp only [Int.toNat_natCast]
    have hs' : l = 0 ∨ ∀ z ∈ es, z.length = T.sz e := hs.imp (fun e => by omega) id
    have r1 : lo = none ∧ l = 0 ∨ lo = some (l : Int) := by cases lo with | none => left; exact ⟨rfl, by simp at hl; omega⟩ | some x => right; simp at hl; rw [hl]
    have r2 : hi = none ∧ h = es.length ∨ hi = some (h : Int) := by cases hi with | none => left; exact ⟨rfl, by simp at hh; omega⟩ | some x => right; simp at hh; rw [hh]
    have r3 : both = true → hi = some (h : Int) := fun e => r2.elim (fun ⟨e1, _⟩ => by rw [e1] at hb; exact absurd (hb e) (by simp)) (fun e => e)
    have l1 : l ≤ h := by omega
    have l2 : h ≤ es.length := by omega
    have run := run_sliceBounds (w := w) (P := P) both r1 r2 r3 l1 l2 k1
    refine ⟨.slice (some ⟨b, if (if both then h else c) = l then off else off + l * T.sz e, none⟩) (h - l) ((if both then h else c) - l), ?_, sl_cut hu hs' (by omega) (by split <;> omega) (fun e1 => ?_) (by split <;> omega) ?_⟩
    · unfold Instr.sliceAt Instr.slice
      simp only [Sem.run_bind, run_underlying hund, Result.andThen_ok, run, run_size hT he, Sem.run_pure]
      by_cases e1 : (if both then h else c) = l <;> simp [e1, add_addr]
    · cases both with
      | true => rfl
      | false => simp at e1
    · by_cases e1 : (if both then h else c) = l
      · left; split at e1 <;> omega
      · right; rw [if_neg e1]
theorem run_append_new {T : Tab} {P : Program} (hT : T.Ok P) (hz : ∀ b o, Z b o → ∃ u, w.cell? ⟨b, o, none⟩ = some u) {t ty e : Nat} (ht : T.ty t = .slice e) (he : T.ty e ≠ .none) (h0 : 0 < T.sz e)
    {nil nil2 : Bool} {cap cap2 : Cap} {es ys : List (List A)} {u v : Value} (hu : VR φ Z w (.sl nil cap es) u) (hv : VR φ Z w (.sl nil2 cap2 ys) v)
    (hs : ∀ x ∈ es ++ ys, x.length = T.sz e) (hb : (es.length + ys.length) * T.by' e ≤ 140737488355328) (hm : es.length + ys.length ≤ maxLen)
    (hroom : ∀ a n c, u = .slice a n c → c < es.length + ys.length) (hne : ys ≠ []) :
    ∃ u' w' Z', (Builtin.append_ #[t, t] ty #[u, v]).run P w = .ok u' w' ∧ More w w' Z Z' ∧ VR φ Z' w' (.sl false (.own e) (es ++ ys)) u' ∧
      ∃ n c i cur, u' = .slice (some ⟨w.heap.size, 0, none⟩) n c ∧ P.info? e = some i ∧ w'.heap[w.heap.size]? = some (.cells cur e (0, 0)) ∧ cur.size = c * i.size ∧ ∀ o, n * i.size ≤ o → ¬ Z' w.heap.size o :=
  run_append_newW hT hz ht he h0 hu hv hs (.inl hb) hm hroom hne
theorem run_append_free {T : Tab} {P : Program} (hT : T.Ok P) (hz : ∀ b o, Z b o → ∃ u, w.cell? ⟨b, o, none⟩ = some u) {t ty e : Nat} (ht : T.ty t = .slice e) (he : T.ty e ≠ .none) (h0 : 0 < T.sz e)
    {nil nil2 : Bool} {cap cap2 : Cap} {es ys : List (List A)} {u v : Value} (hu : VR φ Z w (.sl nil cap es) u) (hv : VR φ Z w (.sl nil2 cap2 ys) v) (hc : cap = .exact ∨ nil = true)
    (hs : ∀ x ∈ es ++ ys, x.length = T.sz e) (hb : (es.length + ys.length) * T.by' e ≤ 140737488355328) (hm : es.length + ys.length ≤ maxLen) :
    ∃ u' w' Z', (Builtin.append_ #[t, t] ty #[u, v]).run P w = .ok u' w' ∧ More w w' Z Z' ∧ VR φ Z' w' (.sl (nil && ys.isEmpty) (.own e) (es ++ ys)) u' ∧
      ∀ b e', spareOf (.sl (nil && ys.isEmpty) (.own e) (es ++ ys)) u' = some (b, e') → w.heap.size ≤ b ∧
        ∃ n c i cur, u' = .slice (some ⟨b, 0, none⟩) n c ∧ P.info? e' = some i ∧ w'.heap[b]? = some (.cells cur e' (0, 0)) ∧ cur.size = c * i.size ∧ ∀ o, n * i.size ≤ o → ¬ Z' b o := by
  obtain ⟨i, hi, hi1, hi2, z, hiz, hzf⟩ := hT.inf e he
  by_cases hy : ys = []
  · subst hy
    have hrun : (Builtin.append_ #[t, t] ty #[u, v]).run P w = .ok u w := by
      rcases inv_sl hu with ⟨rfl, rfl, rfl⟩ | ⟨rfl, rfl, a3, rfl⟩ | ⟨rfl, b, off, sz, c, val, rfl, k1, k2, k3, _⟩ <;> rcases inv_sl hv with ⟨rfl, _, rfl⟩ | ⟨rfl, _, a4, rfl⟩ | ⟨rfl, b2, off2, sz2, c2, val2, rfl, _⟩
      rotate_right
      · simp [Builtin.append_, run_underlying (und_slice hT ht), sizeOf, typeInfo, hi, Builtin.lenOf, Builtin.firstCells, storeCells, loadCells, loadCellsFrom, k1]
      rotate_right
      · simp [Builtin.append_, run_underlying (und_slice hT ht), sizeOf, typeInfo, hi, Builtin.lenOf, Builtin.firstCells, storeCells, loadCells, loadCellsFrom, k1]
      rotate_right
      · simp [Builtin.append_, run_underlying (und_slice hT ht), sizeOf, typeInfo, hi, Builtin.lenOf, Builtin.firstCells, storeCells, k1]
      all_goals simp [Builtin.append_, run_underlying (und_slice hT ht), sizeOf, typeInfo, hi, Builtin.lenOf, Builtin.firstCells, storeCells, loadCells, loadCellsFrom]
    refine ⟨u, w, Z, hrun, ⟨.refl w, fun _ _ h => h, fun _ _ h _ => h, fun b o hb hle => by obtain ⟨v, hv⟩ := hz b o hb; have := lt_of_cell hv; omega⟩, ?_, fun b e' hsp => ?_⟩
    · simp only [List.isEmpty_nil, Bool.and_true, List.append_nil]
      rcases inv_sl hu with ⟨rfl, rfl, rfl⟩ | ⟨rfl, rfl, a3, rfl⟩ | ⟨rfl, b, off, sz, c, val, rfl, k1, k2, k3, k4, k5, k6, k7, k8⟩
      · exact .nil _
      · exact .slz _ a3
      · exact .sl _ es b off sz c val k1 (fun h => by cases h) k3 k4 k5 k6 k7 k8
    · exfalso
      simp only [List.isEmpty_nil, Bool.and_true, List.append_nil] at hsp
      rcases inv_sl hu with ⟨rfl, rfl, rfl⟩ | ⟨rfl, rfl, a3, rfl⟩ | ⟨rfl, b, off, sz, c, val, rfl, k1, k2, k3, _⟩
      · simp [spareOf] at hsp
      · simp [spareOf] at hsp
      · rcases hc with hc | hc
        · rw [k2 hc] at hsp; simp [spareOf] at hsp
        · cases hc
  · have hroom : ∀ a n c, u = .slice a n c → c < es.length + ys.length := fun a n c e1 => by
      have hpos : 0 < ys.length := by cases ys with | nil => exact absurd rfl hy | cons y ys => simp
      rcases inv_sl hu with ⟨rfl, rfl, rfl⟩ | ⟨rfl, rfl, a3, rfl⟩ | ⟨rfl, b, off, sz, c', val, rfl, k1, k2, k3, _⟩
      · cases e1; omega
      · cases e1; omega
      · cases e1
        rcases hc with hc | hc
        · rw [k2 hc]; omega
        · cases hc
    obtain ⟨u', w', Z', k1, k2, k3, n, c, i', cur, rfl, k5, k6, k7, k8⟩ := run_append_new hT hz ht he h0 hu hv hs hb hm hroom hy (ty := ty)
    have e1 : (nil && ys.isEmpty) = false := by cases ys with | nil => exact absurd rfl hy | cons y ys => simp
    rw [e1]
    refine ⟨_, w', Z', k1, k2, k3, fun b e' hsp => ?_⟩
    simp only [spareOf] at hsp
    split at hsp
    · cases hsp; exact ⟨Nat.le_refl _, n, c, i', cur, rfl, k5, k6, k7, k8⟩
    · cases hsp
end
end Go.AL

namespace Go.AL
open Go Go.RowKit
def fenceR (r : Option Nat) : Fence := { Fence.wide with round := r }
theorem callsIn_fenceR {r : Option Nat} {n : Nat} {P : Program} {f : FuncId} {args : Array Value} {w : World} {R : Ending → World → Prop} (h : Calls P f args w R) : CallsIn (fenceR r) n P f args w R :=
  (callsIn_wide (n := n)).2 h
def Enters (P : Program) (f : FuncId) : Prop := ∀ args w, (callFunc f args).run P w = .ok (.enter f args) w
def NewSpare (P : Program) (w w' : World) (Z' : Still) (v : A) (u : Value) : Prop :=
  ∀ b e, spareOf v u = some (b, e) → w.heap.size ≤ b ∧
    ∃ n c i cur, u = .slice (some ⟨b, 0, none⟩) n c ∧ P.info? e = some i ∧ w'.heap[b]? = some (.cells cur e (0, 0)) ∧ cur.size = c * i.size ∧ ∀ o, n * i.size ≤ o → ¬ Z' b o
def Gives (P : Program) (r : Option Nat) (φ : Names) (Z : Still) (o : Oper) (v : A) (a : Act) (w : World) : Prop :=
  ∀ (next : Act → World → Prop) (Q : Exit → Act → World → Prop),
    (∀ u w' Z', More w w' Z Z' → VR φ Z' w' v u → NewSpare P w w' Z' v u → next (a.put o.dst u) w') → o.wpIn (fenceR r) 0 P a w next Q
theorem wp_run {P : Program} {r : Option Nat} {o : Oper} {a : Act} {w w' : World} {v : Value} {next : Act → World → Prop} {Q : Exit → Act → World → Prop}
    (hd : ∀ c, o.op ≠ .defer c) (h : (execOp a.eval o).run P w = .ok (.value v) w') (hn : next (a.put o.dst v) w') : o.wpIn (fenceR r) 0 P a w next Q := by
  refine ⟨fun f _ => trivial, ?_⟩
  rw [Oper.semAt_eq _ _ _ hd, h]
  exact hn
section
variable {P : Program} {r : Option Nat} {φ : Names} {Z : Still} {o : Oper} {v : A} {a : Act} {w w' : World}
theorem gives_run (hz : ∀ b o, Z b o → ∃ u, w.cell? ⟨b, o, none⟩ = some u) (hd : ∀ c, o.op ≠ .defer c) {u : Value} (h : (execOp a.eval o).run P w = .ok (.value u) w) (hv : VR φ Z w v u)
    (hs : ∀ p, spareOf v u ≠ some p) : Gives P r φ Z o v a w := fun next Q hn =>
  wp_run hd h (hn u w Z ⟨.refl w, fun _ _ h => h, fun _ _ h _ => h, fun b o hb hle => by obtain ⟨v, hv⟩ := hz b o hb; have := lt_of_cell hv; omega⟩ hv fun b e he => (hs _ he).elim)
end
def concCells : List A → Option (List Value)
  | [] => some []
  | .s v :: l => match concCells l with
    | some vs => some (v :: vs)
    | none => none
  | _ :: _ => none
def concA : A → Option Value
  | .s v => some v
  | .agg cs => match concCells cs with
    | some vs => some (.agg vs.toArray)
    | none => none
  | _ => none
theorem concCells_ok {φ : Names} {Z : Still} {w : World} : ∀ {cs : List A} {vs us : List Value}, concCells cs = some vs → us.length = cs.length → (∀ i, i < cs.length → VR φ Z w (cs.getD i .un) (us.getD i undef)) → us = vs
  | [], vs, us, h, hl, _ => by
    simp only [concCells, Option.some.injEq] at h
    subst h
    exact List.length_eq_zero_iff.1 hl
  | c :: cs, vs, us, h, hl, hv => by
    cases us with
    | nil => simp at hl
    | cons u us =>
      unfold concCells at h
      split at h
      · rename_i e; cases e
      · rename_i v l e
        cases e
        split at h
        · rename_i vs' h'
          simp only [Option.some.injEq] at h
          subst h
          have h0 := hv 0 (by simp)
          simp only [List.getD_cons_zero] at h0
          have : us = vs' := concCells_ok h' (by simpa using hl) fun i hi => by simpa using hv (i + 1) (by simpa using hi)
          rw [this]
          cases h0; rfl
        · cases h
      · cases h
theorem conc_vr {φ : Names} {Z : Still} {w : World} {a : A} {u v : Value} (h : VR φ Z w a u) (hc : concA a = some v) : u = v := by
  unfold concA at hc
  split at hc
  · cases hc; exact inv_s h
  · split at hc
    · rename_i vs hvs
      cases hc
      obtain ⟨us, rfl, h1, _, h3⟩ := inv_agg h
      have := concCells_ok (us := us.toList) hvs (by simpa using h1) fun i hi => by
        have := h3 i hi
        simpa [Array.getD_eq_getD_getElem?, List.getD_eq_getElem?_getD] using this
      subst this
      simp
    · cases hc
  · cases hc
inductive OpV (P : Program) (T : Tab) (S : Slots) (H : Hp) : Op → TypeId → A → Prop
  | move (x : Operand) (ty : TypeId) : OpV P T S H (.move x) ty (rd S x).down
  | assign (x : Operand) (ty : TypeId) : OpV P T S H (.assign x) ty (rd S x).down
  | pick {c a b : Operand} {ty : TypeId} {g ga x gb y : Bool} (hc : rd S c = .bool g) (ha : asB (rd S a) = some (ga, x)) (hb : asB (rd S b) = some (gb, y))
      (h1 : g = true → ga = true) (h2 : g = false → gb = true) : OpV P T S H (.pick c a b) ty (.bool (cond g x y))
  | pickT {c a b : Operand} {ty : TypeId} (hc : rd S c = .bool true) : OpV P T S H (.pick c a b) ty (rd S a).down
  | pickF {c a b : Operand} {ty : TypeId} (hc : rd S c = .bool false) : OpV P T S H (.pick c a b) ty (rd S b).down
  | not {t ty : TypeId} {x : Operand} {b : Bool} (h : rd S x = .bool b) : OpV P T S H (.unOp .not t x) ty (.bool (!b))
  | neg {t ty : TypeId} {x : Operand} {n : Int} (h : rd S x = .int n) (hr : inR (-n)) : OpV P T S H (.unOp .neg t x) ty (.int (-n))
  | arith {op : BinOp} {t yt ty : TypeId} {x y : Operand} {a b : Int} {v : A} {ob : Prop} (hx : rd S x = .int a) (hy : rd S y = .int b) (h : arithR op a b = some (v, ob)) (ho : ob) :
      OpV P T S H (.binOp op t x y yt) ty v
  | beql {t yt ty : TypeId} {x y : Operand} {a b : Bool} (ht : T.ty t = .bool) (hx : rd S x = .bool a) (hy : rd S y = .bool b) : OpV P T S H (.binOp .eql t x y yt) ty (.bool (a == b))
  | bneq {t yt ty : TypeId} {x y : Operand} {a b : Bool} (ht : T.ty t = .bool) (hx : rd S x = .bool a) (hy : rd S y = .bool b) : OpV P T S H (.binOp .neq t x y yt) ty (.bool (!(a == b)))
  | conc {op : BinOp} {t yt ty : TypeId} {x y : Operand} {a b r : Value} (ha : concA (rd S x) = some a) (hb : concA (rd S y) = some b) (h : T.eqv op t x y a b = some r) :
      OpV P T S H (.binOp op t x y yt) ty (.s r)
  | eqNil {t e yt ty : TypeId} {x : Operand} {nil : Bool} {cap : Cap} {es : List (List A)} (ht : T.ty t = .slice e) (hx : rd S x = .sl nil cap es) : OpV P T S H (.binOp .eql t x (.const (.slice none 0 0)) yt) ty (.bool nil)
  | neNil {t e yt ty : TypeId} {x : Operand} {nil : Bool} {cap : Cap} {es : List (List A)} (ht : T.ty t = .slice e) (hx : rd S x = .sl nil cap es) : OpV P T S H (.binOp .neq t x (.const (.slice none 0 0)) yt) ty (.bool !nil)
  | eqNilP {t e yt ty : TypeId} {x : Operand} {id off : Nat} (ht : T.ty t = .ptr e) (hx : rd S x = .ref id off) : OpV P T S H (.binOp .eql t x (.const (.pointer none)) yt) ty (.bool false)
  | neNilP {t e yt ty : TypeId} {x : Operand} {id off : Nat} (ht : T.ty t = .ptr e) (hx : rd S x = .ref id off) : OpV P T S H (.binOp .neq t x (.const (.pointer none)) yt) ty (.bool true)
  | nilRef {ty : TypeId} {x : Operand} {id off : Nat} (hx : rd S x = .ref id off) : OpV P T S H (.nilCheck x) ty (.ref id off)
  | nilPt {ty : TypeId} {x : Operand} {cs : List A} (hx : rd S x = .pt cs) : OpV P T S H (.nilCheck x) ty (.pt cs)
  | loadPtAgg {t ty : TypeId} {x : Operand} {cs : List A} (hx : rd S x = .pt cs) (hn : T.ty t ≠ .none) (ht : (T.ty t).isAgg = true) (hl : T.sz t ≤ cs.length) :
      OpV P T S H (.load t x) ty (.agg (cs.take (T.sz t)))
  | loadPtOne {t ty : TypeId} {x : Operand} {cs : List A} (hx : rd S x = .pt cs) (hn : T.ty t ≠ .none) (ht : (T.ty t).isAgg = false) (hl : 0 < cs.length) :
      OpV P T S H (.load t x) ty (cs.getD 0 .un).down
  | loadRefAgg {t ty : TypeId} {x : Operand} {id off : Nat} {cs : List A} (hx : rd S x = .ref id off) (hH : H id = some (.cells cs)) (hn : T.ty t ≠ .none) (ht : (T.ty t).isAgg = true)
      (hl : off + T.sz t ≤ cs.length) : OpV P T S H (.load t x) ty (.agg (((cs.drop off).take (T.sz t)).map A.down))
  | loadRefOne {t ty : TypeId} {x : Operand} {id off : Nat} {cs : List A} (hx : rd S x = .ref id off) (hH : H id = some (.cells cs)) (hn : T.ty t ≠ .none) (ht : (T.ty t).isAgg = false)
      (hl : off < cs.length) : OpV P T S H (.load t x) ty (cs.getD off .un).down
  | fieldAgg {st ty ft off i : Nat} {x : Operand} {cs : List A} {fs : List (Nat × Nat)} (hx : rd S x = .agg cs) (hs : T.ty st = .struct fs) (hi : fs[i]? = some (ft, off)) (hn : T.ty ft ≠ .none)
      (ht : (T.ty ft).isAgg = true) (hl : off + T.sz ft ≤ cs.length) : OpV P T S H (.field st x i) ty (.agg ((cs.drop off).take (T.sz ft)))
  | fieldOne {st ty ft off i : Nat} {x : Operand} {cs : List A} {fs : List (Nat × Nat)} (hx : rd S x = .agg cs) (hs : T.ty st = .struct fs) (hi : fs[i]? = some (ft, off)) (hn : T.ty ft ≠ .none)
      (ht : (T.ty ft).isAgg = false) (hl : off < cs.length) : OpV P T S H (.field st x i) ty (cs.getD off .un).down
  | fieldPt {st ty ft off i : Nat} {x : Operand} {cs : List A} {fs : List (Nat × Nat)} (hx : rd S x = .pt cs) (hs : T.ty st = .struct fs) (hi : fs[i]? = some (ft, off)) (hn : T.ty ft ≠ .none) (hz : T.sz ft ≠ 0) :
      OpV P T S H (.fieldAddr st x i) ty (.pt (cs.drop off))
  | fieldRef {st ty ft off i id o : Nat} {x : Operand} {fs : List (Nat × Nat)} (hx : rd S x = .ref id o) (hs : T.ty st = .struct fs) (hi : fs[i]? = some (ft, off)) (hn : T.ty ft ≠ .none) (hz : T.sz ft ≠ 0) :
      OpV P T S H (.fieldAddr st x i) ty (.ref id (o + off))
  | indexOne {t ty n e : Nat} {x ix : Operand} {cs : List A} {i : Int} (hx : rd S x = .agg cs) (hi : rd S ix = .int i) (ht : T.ty t = .arr n e) (hn : T.ty e ≠ .none) (he : (T.ty e).isAgg = false)
      (h0 : 0 ≤ i) (h1 : i < n) (hl : i.toNat * T.sz e < cs.length) : OpV P T S H (.index t x ix) ty (cs.getD (i.toNat * T.sz e) .un).down
  | indexAgg {t ty n e : Nat} {x ix : Operand} {cs : List A} {i : Int} (hx : rd S x = .agg cs) (hi : rd S ix = .int i) (ht : T.ty t = .arr n e) (hn : T.ty e ≠ .none) (he : (T.ty e).isAgg = true)
      (h0 : 0 ≤ i) (h1 : i < n) (hl : i.toNat * T.sz e + T.sz e ≤ cs.length) : OpV P T S H (.index t x ix) ty (.agg ((cs.drop (i.toNat * T.sz e)).take (T.sz e)))
  | elem {t ty e : Nat} {x ix : Operand} {nil : Bool} {cap : Cap} {es : List (List A)} {i : Int} (hx : rd S x = .sl nil cap es) (hi : rd S ix = .int i) (ht : T.ty t = .slice e) (hn : T.ty e ≠ .none)
      {cs : List A} (h0 : 0 ≤ i) (hc : es[i.toNat]? = some cs) (hl : cs.length = T.sz e) : OpV P T S H (.indexAddr t x ix) ty (.pt cs)
  | elemPt {t ty n e : Nat} {x ix : Operand} {cs : List A} {i : Int} (hx : rd S x = .pt cs) (hi : rd S ix = .int i) (ht : T.ty t = .arr n e) (hn : T.ty e ≠ .none) (h0 : 0 ≤ i) (h1 : i < n) :
      OpV P T S H (.indexAddr t x ix) ty (.pt (cs.drop (i.toNat * T.sz e)))
  | elemRef {t ty n e id off : Nat} {x ix : Operand} {i : Int} (hx : rd S x = .ref id off) (hi : rd S ix = .int i) (ht : T.ty t = .arr n e) (hn : T.ty e ≠ .none) (h0 : 0 ≤ i) (h1 : i < n) :
      OpV P T S H (.indexAddr t x ix) ty (.ref id (off + i.toNat * T.sz e))
  | elemMs {t ty n e id off : Nat} {x ix : Operand} {i : Int} (hx : rd S x = .ms id off n) (hi : rd S ix = .int i) (ht : T.ty t = .slice e) (hn : T.ty e ≠ .none) (h0 : 0 ≤ i) (h1 : i < n) :
      OpV P T S H (.indexAddr t x ix) ty (.ref id (off + i.toNat * T.sz e))
  | lenSl {t ty e : Nat} {x : Operand} {nil : Bool} {cap : Cap} {es : List (List A)} (ht : T.ty t = .slice e) (hx : rd S x = .sl nil cap es) :
      OpV P T S H (.call { callee := .builtin .len, args := #[x], argTypes := #[t] }) ty (.int es.length)
  | lenMs {t ty e id off n : Nat} {x : Operand} (ht : T.ty t = .slice e) (hx : rd S x = .ms id off n) :
      OpV P T S H (.call { callee := .builtin .len, args := #[x], argTypes := #[t] }) ty (.int n)
  | lenArr {t ty n e : Nat} {x : Operand} (ht : T.ty t = .arr n e) : OpV P T S H (.call { callee := .builtin .len, args := #[x], argTypes := #[t] }) ty (.int n)
  | extract {ty i : Nat} {x : Operand} {vs : List A} {v : A} (hx : rd S x = .tup vs) (hi : vs[i]? = some v) : OpV P T S H (.extract x i) ty v.down
  | makeFunc {ty : Nat} (f : Fn) (fst cap : Array Operand) : OpV P T S H (.makeFunc f fst cap) ty (.fn f (rds S fst.toList) (rds S cap.toList))
  | box {t ty : TypeId} {x : Operand} (hp : okPart (rd S x) = true) : OpV P T S H (.box t x) ty (.pt (cellsA (rd S x)))
  | build {t ty : TypeId} {parts : Array (Nat × Operand)} {fs : List (Nat × Nat)} {cs : List A} (ht : T.ty t = .struct fs) (hf : (fs.all fun x => !decide (T.ty x.1 = .none)) = true)
      (h : fillA (placeS T fs) (T.zr t) (parts.toList.map fun p => (p.1, rd S p.2)) = some cs) : OpV P T S H (.build t parts) ty (.agg cs)
  | buildArr {t ty n e : TypeId} {parts : Array (Nat × Operand)} {cs : List A} (ht : T.ty t = .arr n e) (he : T.ty e ≠ .none)
      (h : fillA (fun i => some (i * T.sz e, T.sz e)) (T.zr t) (parts.toList.map fun p => (p.1, rd S p.2)) = some cs) : OpV P T S H (.build t parts) ty (.agg cs)
  | lit {t ty e : TypeId} {n : Nat} {parts : Array (Nat × Operand)} {vs : List A} (ht : T.ty t = .slice e) (he : T.ty e ≠ .none) (h0 : 0 < T.sz e) (h1 : parts.toList.map (·.1) = List.range' 0 n)
      (h2 : vs = parts.toList.map fun p => rd S p.2) (h3 : (vs.all fun v => Nat.beq (cellsA v).length (T.sz e) && okPart v) = true) (hb : n * T.sz e ≤ 16777216) :
      OpV P T S H (.buildSlice t n parts) ty (.sl false .exact (vs.map cellsA))
  | app {t ty e : TypeId} {x y : Operand} {nil nil2 : Bool} {cap cap2 : Cap} {es ys : List (List A)} (ht : T.ty t = .slice e) (he : T.ty e ≠ .none) (h0 : 0 < T.sz e) (hx : rd S x = .sl nil cap es) (hy : rd S y = .sl nil2 cap2 ys)
      (hc : cap = .exact ∨ nil = true) (hs : ∀ z ∈ es ++ ys, z.length = T.sz e) (hb : (es.length + ys.length) * T.by' e ≤ 140737488355328) (hm : es.length + ys.length ≤ maxLen) :
      OpV P T S H (.call { callee := .builtin .append, args := #[x, y], argTypes := #[t, t] }) ty (.sl (nil && ys.isEmpty) (.own e) (es ++ ys))
  | min {ty : TypeId} {args : Array Operand} {at' : Array TypeId} {a : Int} {l : List Int} (h : args.toList.map (rd S) = (a :: l).map A.int) :
      OpV P T S H (.call { callee := .builtin .min, args := args, argTypes := at' }) ty (.int (l.foldl (fun x y => if y < x then y else x) a))
  | max {ty : TypeId} {args : Array Operand} {at' : Array TypeId} {a : Int} {l : List Int} (h : args.toList.map (rd S) = (a :: l).map A.int) :
      OpV P T S H (.call { callee := .builtin .max, args := args, argTypes := at' }) ty (.int (l.foldl (fun x y => if y > x then y else x) a))
  | slice3 {t ty e : TypeId} {x h m : Operand} {nil : Bool} {cap : Cap} {es : List (List A)} {n : Int} (ht : T.ty t = .slice e) (hx : rd S x = .sl nil cap es) (hh : rd S h = .int n) (hm : rd S m = .int n) (he : T.ty e ≠ .none)
      (h0 : 0 ≤ n) (h1 : n ≤ es.length) : OpV P T S H (.slice t x none (some h) (some m)) ty (.sl nil .exact (es.take n.toNat))
  | sliceHi {t ty e : TypeId} {x h : Operand} {nil : Bool} {cap : Cap} {es : List (List A)} {n : Int} (ht : T.ty t = .slice e) (hx : rd S x = .sl nil cap es) (hh : rd S h = .int n) (he : T.ty e ≠ .none)
      (h0 : 0 ≤ n) (h1 : n ≤ es.length) : OpV P T S H (.slice t x none (some h) none) ty (.sl nil .any (es.take n.toNat))
  | sliceMs {t ty e id off m : Nat} {x h : Operand} {n : Int} (ht : T.ty t = .slice e) (hx : rd S x = .ms id off m) (hh : rd S h = .int n) (he : T.ty e ≠ .none)
      (h0 : 0 ≤ n) (h1 : n ≤ m) : OpV P T S H (.slice t x none (some h) none) ty (.ms id off n.toNat)
  | sliceLo {t ty e : TypeId} {x l : Operand} {nil : Bool} {cap : Cap} {es : List (List A)} {n : Int} (ht : T.ty t = .slice e) (hx : rd S x = .sl nil cap es) (hl : rd S l = .int n) (he : T.ty e ≠ .none)
      (h0 : 0 ≤ n) (h1 : n ≤ es.length) (hs : ∀ z ∈ es, z.length = T.sz e) : OpV P T S H (.slice t x (some l) none none) ty (.sl nil .any (es.drop n.toNat))
  | slicePt {t ty n e : Nat} {x : Operand} {cs : List A} (ht : T.ty t = .arr n e) (he : T.ty e ≠ .none) (h1 : T.sz e = 1) (hm : n ≤ maxLen) (hx : rd S x = .pt cs) (hl : n ≤ cs.length) (h0 : 0 < n) : OpV P T S H (.slice t x none none none) ty (.sl false .exact ((cs.take n).map fun c => [c]))
  | sliceArr {t ty n e id off : Nat} {x : Operand} (ht : T.ty t = .arr n e) (he : T.ty e ≠ .none) (hm : n ≤ maxLen) (hx : rd S x = .ref id off) : OpV P T S H (.slice t x none none none) ty (.ms id off n)
  | call {ty g : Nat} {f : Operand} {args : Array Operand} {at' : Array TypeId} {fst cap : List A} {v : A} (hf : rd S f = .fn (.func g) fst cap) (he : Enters P g)
      (h : Pure P g (fst ++ rds S args.toList ++ cap) v) : OpV P T S H (.call { callee := .value f, args := args, argTypes := at' }) ty v
structure Sees (φ : Names) (Z : Still) (S : Slots) (H : Hp) (a : Act) (w : World) : Prop where
  slots : ∀ t, VR φ Z w (S t) (a.tmps.getD t undef)
  boxes : ∀ id bx, H id = some bx → ∃ b, φ id = some b ∧ BR φ Z w b bx
  zok : ∀ b o, Z b o → ∃ v, w.cell? ⟨b, o, none⟩ = some v
theorem Rel.sees {X : Ctx} {φ : Names} {Z : Still} {s : St} {a : Act} {w : World} (h : Rel X φ Z s a w) : Sees φ Z s.S s.H a w := ⟨h.slots, h.boxes, h.zok⟩
section
variable {P : Program} {T : Tab} {r : Option Nat} {φ : Names} {Z : Still} {S : Slots} {H : Hp} {o : Oper} {v : A} {a : Act} {w w' : World}
theorem Sees.rd (h : Sees φ Z S H a w) (x : Operand) : VR φ Z w (rd S x) (a.eval x) := vr_rd h.slots x
theorem asB_vr {x : A} {g b : Bool} {u : Value} (h : VR φ Z w x u) (hx : asB x = some (g, b)) (hg : g = true) : u = .bool b := by
  unfold asB at hx
  split at hx
  · simp only [Option.some.injEq, Prod.mk.injEq] at hx
    obtain ⟨_, rfl⟩ := hx
    exact inv_s h
  · simp only [Option.some.injEq, Prod.mk.injEq] at hx
    obtain ⟨rfl, rfl⟩ := hx
    cases h with
    | cnd _ _ _ h1 _ => exact inv_s (h1 hg)
  · cases hx
theorem extract_row (vs : Array Value) (o n : Nat) (h : o + n ≤ vs.size) : vs.extract o (o + n) = ((List.range n).map fun j => vs.getD (o + j) undef).toArray := by
  apply Array.ext
  · simp; omega
  · intro i h1 h2
    simp only [List.size_toArray, List.length_map, List.length_range] at h2
    simp [Array.getD, show o + i < vs.size by omega]
section
variable (ρ : Operand → Value) (d : Option Tmp) (ty : TypeId) (p : String) (af : Array Edge) (g : Option (Nat × Bool))
theorem ex_load (t : TypeId) (x : Operand) : execOp ρ ⟨d, .load t x, ty, p, af, g⟩ = (do pure (.value (← Instr.loadAt t (ρ x)))) := rfl
theorem ex_nilCheck (x : Operand) {b : Addr} (h : ρ x = .pointer (some b)) : execOp ρ ⟨d, .nilCheck x, ty, p, af, g⟩ = (do pure (.value (.pointer (some b)))) := by simp [execOp, h]
theorem ex_pick (c a b : Operand) : execOp ρ ⟨d, .pick c a b, ty, p, af, g⟩ = (do pure (.value (if ← asBool (ρ c) then ρ a else ρ b))) := rfl
theorem ex_un (op : UnOp) (t : TypeId) (x : Operand) : execOp ρ ⟨d, .unOp op t x, ty, p, af, g⟩ = (do pure (.value (← Op.unary op (ρ x)))) := rfl
theorem ex_bin (op : BinOp) (t : TypeId) (x y : Operand) (yt : TypeId) : execOp ρ ⟨d, .binOp op t x y yt, ty, p, af, g⟩ = (do pure (.value (← (do eqGuard op t x y (ρ x) (ρ y); binOp op t (ρ x) (ρ y))))) := rfl
theorem ex_field (t : TypeId) (x : Operand) (i : Nat) : execOp ρ ⟨d, .field t x i, ty, p, af, g⟩ = (do pure (.value (← Instr.field t (ρ x) i))) := rfl
theorem ex_fieldAddr (t : TypeId) (x : Operand) (i : Nat) : execOp ρ ⟨d, .fieldAddr t x i, ty, p, af, g⟩ = (do pure (.value (← Instr.fieldAt t (ρ x) i))) := rfl
theorem ex_index (t : TypeId) (x i : Operand) : execOp ρ ⟨d, .index t x i, ty, p, af, g⟩ = (do pure (.value (← Instr.index t (ρ x) (ρ i)))) := rfl
theorem ex_indexAddr (t : TypeId) (x i : Operand) : execOp ρ ⟨d, .indexAddr t x i, ty, p, af, g⟩ = (do pure (.value (← Instr.indexAt t (ρ x) (ρ i)))) := rfl
theorem ex_extract (x : Operand) (i : Nat) : execOp ρ ⟨d, .extract x i, ty, p, af, g⟩ = (do pure (.value (← Instr.extract (ρ x) i))) := rfl
theorem ex_call (c : Call) : execOp ρ ⟨d, .call c, ty, p, af, g⟩ = (do let d ← resolve ρ c ty; invoke d.target d.args) := rfl
theorem ex_builtin (b : Builtin) (args : Array Operand) (at' : Array TypeId) : execOp ρ ⟨d, .call { callee := .builtin b, args := args, argTypes := at' }, ty, p, af, g⟩ =
  builtin b at' ty (args.map fun | .const _ => true | _ => false) (args.map ρ) := rfl
end
section
variable (ρ : Operand → Value) (d : Option Tmp) (ty : TypeId) (p : String) (af : Array Edge) (g : Option (Nat × Bool))
theorem ex_box (t : TypeId) (x : Operand) : execOp ρ ⟨d, .box t x, ty, p, af, g⟩ = (do pure (.value (← Instr.box t (ρ x)))) := rfl
theorem ex_build (t : TypeId) (ps : Array (Nat × Operand)) : execOp ρ ⟨d, .build t ps, ty, p, af, g⟩ = (do pure (.value (← Instr.build t (ps.map fun (i, x) => (i, ρ x))))) := rfl
theorem ex_lit (t n : TypeId) (ps : Array (Nat × Operand)) : execOp ρ ⟨d, .buildSlice t n ps, ty, p, af, g⟩ = (do pure (.value (← Instr.buildSlice t n (ps.map fun (i, x) => (i, ρ x))))) := rfl
theorem ex_slice (t : TypeId) (x : Operand) (lo hi mx : Option Operand) : execOp ρ ⟨d, .slice t x lo hi mx, ty, p, af, g⟩ = (do pure (.value (← Instr.sliceAt t (ρ x) (lo.map ρ) (hi.map ρ) (mx.map ρ)))) := rfl
end
theorem bi_append (at' : Array TypeId) (ty : TypeId) (k : Array Bool) (args : Array Value) : builtin .append at' ty k args = (do pure (.value (← Builtin.append_ at' ty args))) := rfl
theorem bi_min (at' : Array TypeId) (ty : TypeId) (k : Array Bool) (args : Array Value) : builtin .min at' ty k args = (do pure (.value (← Builtin.min_ at' ty args))) := rfl
theorem bi_max (at' : Array TypeId) (ty : TypeId) (k : Array Bool) (args : Array Value) : builtin .max at' ty k args = (do pure (.value (← Builtin.max_ at' ty args))) := rfl
theorem parts_fst (parts : Array (Nat × Operand)) (S : Slots) (a : Act) : (parts.map fun (i, x) => (i, a.eval x)).toList.map (·.1) = (parts.toList.map fun p => (p.1, rd S p.2)).map (·.1) := by
  simp [Function.comp_def]
theorem parts_vr {φ : Names} {Z : Still} {S : Slots} {H : Hp} {a : Act} {w : World} (hs : Sees φ Z S H a w) (parts : Array (Nat × Operand)) (i : Nat) (hi : i < (parts.toList.map fun p => (p.1, rd S p.2)).length) :
    VR φ Z w (((parts.toList.map fun p => (p.1, rd S p.2)).getD i (0, .un)).2) (((parts.map fun (i, x) => (i, a.eval x)).toList.getD i (0, undef)).2) := by
  have hlt : i < parts.size := by simpa using hi
  have := hs.rd (parts[i]).2
  simpa [List.getD_eq_getElem?_getD, hlt] using this
theorem vr_agg {φ : Names} {Z : Still} {w : World} {cs : List A} {vs : Array Value} (h : VRc φ Z w cs vs) : VR φ Z w (.agg cs) (.agg vs) := .agg cs vs h.1 (fun i hi => (h.2 i hi).1) (fun i hi => (h.2 i hi).2)
theorem ints_of {φ : Names} {Z : Still} {S : Slots} {H : Hp} {a : Act} {w : World} (hs : Sees φ Z S H a w) {args : Array Operand} {l : List Int} (h : args.toList.map (rd S) = l.map A.int) :
    args.map a.eval = (l.map (Value.int .i64)).toArray := by
  apply Array.ext'
  simp only [Array.toList_map]
  generalize args.toList = xs at h
  induction xs generalizing l with
  | nil => cases l with | nil => rfl | cons b l => simp at h
  | cons x xs ih =>
    cases l with
    | nil => simp at h
    | cons b l =>
      simp only [List.map_cons, List.cons.injEq] at h ⊢
      exact ⟨inv_s (h.1 ▸ hs.rd x), ih h.2⟩
theorem bin_eqb (t : TypeId) (m n : Bool) : binOp .eql t (.bool m) (.bool n) = (do pure (.bool (← Op.equal t (.bool m) (.bool n)))) := rfl
theorem bin_neb (t : TypeId) (m n : Bool) : binOp .neq t (.bool m) (.bool n) = (do pure (.bool (!(← Op.equal t (.bool m) (.bool n))))) := rfl
theorem run_eqb {T : Tab} {P : Program} (hT : T.Ok P) {t : TypeId} (ht : T.ty t = .bool) (m n : Bool) (w : World) : (Op.equal t (.bool m) (.bool n)).run P w = .ok (m == n) w := by
  have : (underlying t).run P w = .ok .bool w := run_und (und_bool hT ht)
  unfold Op.equal Op.maxDepth Op.equalIn
  simp only [Sem.run_bind, this, Result.andThen_ok]
  rfl
theorem bi_len (at' : Array TypeId) (ty : TypeId) (k : Array Bool) (args : Array Value) : builtin .len at' ty k args = (do pure (.value (← Builtin.len_ at' ty args))) := rfl
theorem und_ptr' {T : Tab} {P : Program} (hT : T.Ok P) {t e : Nat} (h : T.ty t = .ptr e) : P.underlying t = some (.pointer (P.pointee t)) := by
  have h1 := und_ptr hT h
  have h2 : P.pointee t = e := by unfold Program.pointee; rw [h1]
  rw [h2]; exact h1
set_option maxHeartbeats 4000000 in
theorem OpV.sound (hT : T.Ok P) (hs : Sees φ Z S H a w) (h : OpV P T S H o.op o.type v) : Gives P r φ Z o v a w := by
  obtain ⟨dst, op, ty, pos, aft, gd⟩ := o
  simp only at h
  cases h with
  | move x ty => exact gives_run hs.zok (fun c => by simp) rfl (hs.rd x).down (spare_dn _ _)
  | assign x ty => exact gives_run hs.zok (fun c => by simp) rfl (hs.rd x).down (spare_dn _ _)
  | @pick c a1 b ty g ga x gb y hc ha hb h1 h2 =>
    have e0 := inv_s (hc ▸ hs.rd c)
    cases g with
    | true =>
      have e1 := asB_vr (hs.rd a1) ha (h1 rfl)
      exact gives_run hs.zok (fun c => by simp) (u := .bool x) (by simp [ex_pick, e0, e1, asBool]) (.s _) (spare_s _ _)
    | false =>
      have e1 := asB_vr (hs.rd b) hb (h2 rfl)
      exact gives_run hs.zok (fun c => by simp) (u := .bool y) (by simp [ex_pick, e0, e1, asBool]) (.s _) (spare_s _ _)
  | @pickT c a1 b ty hc =>
    have e0 := inv_s (hc ▸ hs.rd c)
    exact gives_run hs.zok (fun c => by simp) (u := a.eval a1) (by simp [ex_pick, e0, asBool]) (hs.rd a1).down (spare_dn _ _)
  | @pickF c a1 b ty hc =>
    have e0 := inv_s (hc ▸ hs.rd c)
    exact gives_run hs.zok (fun c => by simp) (u := a.eval b) (by simp [ex_pick, e0, asBool]) (hs.rd b).down (spare_dn _ _)
  | @not t ty x b hx =>
    have e0 := inv_s (hx ▸ hs.rd x)
    exact gives_run hs.zok (fun c => by simp) (u := .bool !b) (by simp [ex_un, e0, Op.unary]) (.s _) (spare_s _ _)
  | @neg t ty x n hx hr =>
    have e0 := inv_s (hx ▸ hs.rd x)
    have h2 : IntKind.i64.wrap (0 - n) = -n := by rw [Int.zero_sub]; exact wrap_in hr
    exact gives_run hs.zok (fun c => by simp) (u := .int .i64 (-n)) (by simp only [ex_un, e0, Op.unary, Op.intArith, h2]; rfl) (.s _) (spare_s _ _)
  | @arith op t yt ty x y m n v ob hx hy h ho =>
    have e0 := inv_s (hx ▸ hs.rd x)
    have e1 := inv_s (hy ▸ hs.rd y)
    obtain ⟨u, h1, rfl⟩ := run_arith (t := t) (xo := x) (yo := y) h ho w (P := P)
    exact gives_run hs.zok (fun c => by simp) (u := u) (by rw [ex_bin, e0, e1, Sem.run_bind, h1]; rfl) (.s _) (spare_s _ _)
  | @beql t yt ty x y m n ht hx hy =>
    have e0 := inv_s (hx ▸ hs.rd x)
    have e1 := inv_s (hy ▸ hs.rd y)
    have hg : (eqGuard .eql t x y (.bool m) (.bool n)).run P w = .ok () w := by unfold eqGuard; simp
    exact gives_run hs.zok (fun c => by simp) (u := .bool (m == n)) (by simp [ex_bin, e0, e1, hg, bin_eqb, run_eqb hT ht]) (.s _) (spare_s _ _)
  | @bneq t yt ty x y m n ht hx hy =>
    have e0 := inv_s (hx ▸ hs.rd x)
    have e1 := inv_s (hy ▸ hs.rd y)
    have hg : (eqGuard .neq t x y (.bool m) (.bool n)).run P w = .ok () w := by unfold eqGuard; simp
    exact gives_run hs.zok (fun c => by simp) (u := .bool (!(m == n))) (by simp [ex_bin, e0, e1, hg, bin_neb, run_eqb hT ht]) (.s _) (spare_s _ _)
  | @conc op t yt ty x y ca cb res ha hb h =>
    have e0 := conc_vr (hs.rd x) ha
    have e1 := conc_vr (hs.rd y) hb
    rw [hT.eqv] at h
    have h1 : (do eqGuard op t x y ca cb; binOp op t ca cb : Sem Value).run P w = .ok res w := pureRun_ok h
    exact gives_run hs.zok (fun c => by simp) (u := res) (by rw [ex_bin, e0, e1, Sem.run_bind, h1]; rfl) (.s _) (spare_s _ _)
  | @eqNil t e yt ty x nil cap es ht hx =>
    rcases inv_sl (hx ▸ hs.rd x) with ⟨h1, _, e0⟩ | ⟨h1, h2, a3, e0⟩ | ⟨h1, b, off, sz, c, val, e0, _⟩ <;> subst h1
    · have h2 := run_equal_slice_nil w t e none 0 0 (und_slice hT ht)
      exact gives_run hs.zok (fun c => by simp) (u := .bool true) (by rw [ex_bin, e0, show a.eval (.const (.slice none 0 0)) = .slice none 0 0 from rfl]; simp [eqGuard, binOp, h2]) (.s _) (spare_s _ _)
    · have h2 := run_equal_slice_nil w t e (some a3) 0 0 (und_slice hT ht)
      exact gives_run hs.zok (fun c => by simp) (u := .bool false) (by rw [ex_bin, e0, show a.eval (.const (.slice none 0 0)) = .slice none 0 0 from rfl]; simp [eqGuard, binOp, h2]) (.s _) (spare_s _ _)
    · have h2 := run_equal_slice_nil w t e (some ⟨b, off, none⟩) es.length c (und_slice hT ht)
      exact gives_run hs.zok (fun c => by simp) (u := .bool false) (by rw [ex_bin, e0, show a.eval (.const (.slice none 0 0)) = .slice none 0 0 from rfl]; simp [eqGuard, binOp, h2]) (.s _) (spare_s _ _)
  | @neNil t e yt ty x nil cap es ht hx =>
    rcases inv_sl (hx ▸ hs.rd x) with ⟨h1, _, e0⟩ | ⟨h1, h2, a3, e0⟩ | ⟨h1, b, off, sz, c, val, e0, _⟩ <;> subst h1
    · have h2 := run_equal_slice_nil w t e none 0 0 (und_slice hT ht)
      exact gives_run hs.zok (fun c => by simp) (u := .bool false) (by rw [ex_bin, e0, show a.eval (.const (.slice none 0 0)) = .slice none 0 0 from rfl]; simp [eqGuard, binOp, h2]) (.s _) (spare_s _ _)
    · have h2 := run_equal_slice_nil w t e (some a3) 0 0 (und_slice hT ht)
      exact gives_run hs.zok (fun c => by simp) (u := .bool true) (by rw [ex_bin, e0, show a.eval (.const (.slice none 0 0)) = .slice none 0 0 from rfl]; simp [eqGuard, binOp, h2]) (.s _) (spare_s _ _)
    · have h2 := run_equal_slice_nil w t e (some ⟨b, off, none⟩) es.length c (und_slice hT ht)
      exact gives_run hs.zok (fun c => by simp) (u := .bool true) (by rw [ex_bin, e0, show a.eval (.const (.slice none 0 0)) = .slice none 0 0 from rfl]; simp [eqGuard, binOp, h2]) (.s _) (spare_s _ _)
  | @eqNilP t e yt ty x id off ht hx =>
    obtain ⟨b, e0, hb⟩ := inv_ref (hx ▸ hs.rd x)
    have h2 := run_equal_pointer_nil w t (some ⟨b, off, none⟩) (und_ptr' hT ht)
    exact gives_run hs.zok (fun c => by simp) (u := .bool false) (by rw [ex_bin, e0, show a.eval (.const (.pointer none)) = .pointer none from rfl]; simp [eqGuard, binOp, h2]) (.s _) (spare_s _ _)
  | @neNilP t e yt ty x id off ht hx =>
    obtain ⟨b, e0, hb⟩ := inv_ref (hx ▸ hs.rd x)
    have h2 := run_equal_pointer_nil w t (some ⟨b, off, none⟩) (und_ptr' hT ht)
    exact gives_run hs.zok (fun c => by simp) (u := .bool true) (by rw [ex_bin, e0, show a.eval (.const (.pointer none)) = .pointer none from rfl]; simp [eqGuard, binOp, h2]) (.s _) (spare_s _ _)
  | @nilRef ty x id off hx =>
    obtain ⟨b, e0, hb⟩ := inv_ref (hx ▸ hs.rd x)
    exact gives_run hs.zok (fun c => by simp) (u := .pointer (some ⟨b, off, none⟩)) (by rw [ex_nilCheck _ _ _ _ _ _ x e0]; rfl) (.ref _ _ _ hb) (fun p => by simp [spareOf])
  | @nilPt ty x cs hx =>
    have hv := hx ▸ hs.rd x
    obtain ⟨b, off, val, e0, h1, h2, h3, h4⟩ := inv_pt hv
    exact gives_run hs.zok (fun c => by simp) (u := .pointer (some ⟨b, off, none⟩)) (by rw [ex_nilCheck _ _ _ _ _ _ x e0]; rfl) (e0 ▸ hv) (fun p => by simp [spareOf])
  | @loadPtAgg t ty x cs hx hn ht hl =>
    obtain ⟨b, off, val, e0, h1, h2, h3, h4⟩ := inv_pt (hx ▸ hs.rd x)
    refine gives_run hs.zok (fun c => by simp) (u := .agg ((List.range (T.sz t)).map val).toArray) ?_ (vr_row (by simp; omega) fun j hj => ⟨h3 j (by omega), by rw [getD_take hj]; exact h4 j (by omega)⟩) (fun p => by simp [spareOf])
    simp [ex_load, e0, run_load_agg hT hn ht val (fun j hj => h2 j (by omega))]
  | @loadPtOne t ty x cs hx hn ht hl =>
    obtain ⟨b, off, val, e0, h1, h2, h3, h4⟩ := inv_pt (hx ▸ hs.rd x)
    refine gives_run hs.zok (fun c => by simp) (u := val 0) ?_ (h4 0 hl).down (spare_dn _ _)
    have := h2 0 hl
    simp only [Nat.add_zero] at this
    simp [ex_load, e0, run_load_one hT hn ht this]
  | @loadRefAgg t ty x id off cs hx hH hn ht hl =>
    obtain ⟨b, e0, hb⟩ := inv_ref (hx ▸ hs.rd x)
    obtain ⟨b', hb', hr⟩ := hs.boxes id _ hH
    rw [hb] at hb'; cases hb'
    obtain ⟨c, Ty', hblk, hlen, hc⟩ := hr
    refine gives_run hs.zok (fun c => by simp) (u := .agg ((List.range (T.sz t)).map fun j => c.getD (off + j) undef).toArray) ?_
      (vr_row (by simp; omega) fun j hj => ⟨(hc (off + j) (by omega)).2, ?_⟩) (fun p => by simp [spareOf])
    · have hcell : ∀ j, j < T.sz t → w.cell? ⟨b, off + j, none⟩ = some (c.getD (off + j) undef) := fun j hj => by
        have : off + j < c.size := by omega
        simp [World.cell?, hblk, this, Array.getD]
      simp [ex_load, e0, run_load_agg hT hn ht _ hcell]
    · rw [getD_map_down (by simp; omega), getD_take hj, getD_drop]
      exact ((hc (off + j) (by omega)).1).down
  | @loadRefOne t ty x id off cs hx hH hn ht hl =>
    obtain ⟨b, e0, hb⟩ := inv_ref (hx ▸ hs.rd x)
    obtain ⟨b', hb', hr⟩ := hs.boxes id _ hH
    rw [hb] at hb'; cases hb'
    obtain ⟨c, Ty', hblk, hlen, hc⟩ := hr
    refine gives_run hs.zok (fun c => by simp) (u := c.getD off undef) ?_ ((hc off hl).1).down (spare_dn _ _)
    have hcell : w.cell? ⟨b, off, none⟩ = some (c.getD off undef) := by
      have : off < c.size := by omega
      simp [World.cell?, hblk, this, Array.getD]
    simp [ex_load, e0, run_load_one hT hn ht hcell]
  | @fieldAgg st ty ft off i x cs fs hx hst hi hn ht hl =>
    obtain ⟨vs, e0, h1, h2, h3⟩ := inv_agg (hx ▸ hs.rd x)
    refine gives_run hs.zok (fun c => by simp) (u := .agg ((List.range (T.sz ft)).map fun j => vs.getD (off + j) undef).toArray) ?_
      (vr_row (by simp; omega) fun j hj => ⟨h2 (off + j) (by omega), by rw [getD_take hj, getD_drop]; exact h3 (off + j) (by omega)⟩) (fun p => by simp [spareOf])
    simp [ex_field, e0, run_field hT hst hi hn, run_part_agg hT hn ht, extract_row vs off (T.sz ft) (by omega)]
  | @fieldOne st ty ft off i x cs fs hx hst hi hn ht hl =>
    obtain ⟨vs, e0, h1, h2, h3⟩ := inv_agg (hx ▸ hs.rd x)
    refine gives_run hs.zok (fun c => by simp) (u := vs.getD off undef) ?_ (h3 off hl).down (spare_dn _ _)
    simp [ex_field, e0, run_field hT hst hi hn, run_part_one hT hn ht vs (by omega : off < vs.size)]
  | @fieldPt st ty ft off i x cs fs hx hst hi hn hz =>
    obtain ⟨b, o, val, e0, h1, h2, h3, h4⟩ := inv_pt (hx ▸ hs.rd x)
    refine gives_run hs.zok (fun c => by simp) (u := .pointer (some ⟨b, o + off, none⟩)) (by simp [ex_fieldAddr, e0, run_fieldAt hT hst hi hn hz])
      (.pt _ b (o + off) (fun j => val (off + j)) (fun j hj => ?_) (fun j hj => ?_) (fun j hj => ?_) (fun j hj => ?_)) (fun p => by simp [spareOf])
    all_goals simp only [List.length_drop] at hj
    · rw [Nat.add_assoc]; exact h1 _ (by omega)
    · rw [Nat.add_assoc]; exact h2 _ (by omega)
    · exact h3 _ (by omega)
    · rw [getD_drop]; exact h4 _ (by omega)
  | @fieldRef st ty ft off i id o x fs hx hst hi hn hz =>
    obtain ⟨b, e0, hb⟩ := inv_ref (hx ▸ hs.rd x)
    exact gives_run hs.zok (fun c => by simp) (u := .pointer (some ⟨b, o + off, none⟩)) (by simp [ex_fieldAddr, e0, run_fieldAt hT hst hi hn hz]) (.ref _ _ _ hb) (fun p => by simp [spareOf])
  | @indexOne t ty n e x ix cs i hx hi ht hn he h0 h1 hl =>
    obtain ⟨vs, e0, h2, h3, h4⟩ := inv_agg (hx ▸ hs.rd x)
    have e1 := inv_s (hi ▸ hs.rd ix)
    refine gives_run hs.zok (fun c => by simp) (u := vs.getD (i.toNat * T.sz e) undef) ?_ (h4 _ hl).down (spare_dn _ _)
    simp [ex_index, e0, e1, Instr.index, asIntOf, underlying, und_arr hT ht, h0, h1, run_size hT hn, run_part_one hT hn he vs (by omega : i.toNat * T.sz e < vs.size)]
  | @indexAgg t ty n e x ix cs i hx hi ht hn he h0 h1 hl =>
    obtain ⟨vs, e0, h2, h3, h4⟩ := inv_agg (hx ▸ hs.rd x)
    have e1 := inv_s (hi ▸ hs.rd ix)
    refine gives_run hs.zok (fun c => by simp) (u := .agg ((List.range (T.sz e)).map fun j => vs.getD (i.toNat * T.sz e + j) undef).toArray) ?_
      (vr_row (by simp; omega) fun j hj => ⟨h3 _ (by omega), by rw [getD_take hj, getD_drop]; exact h4 _ (by omega)⟩) (fun p => by simp [spareOf])
    simp [ex_index, e0, e1, Instr.index, asIntOf, underlying, und_arr hT ht, h0, h1, run_size hT hn, run_part_agg hT hn he, extract_row vs _ (T.sz e) (by omega : i.toNat * T.sz e + T.sz e ≤ vs.size)]
  | @elem t ty e x ix nil cap es i hx hi ht hn cs h0 hc hl =>
    have e1 := inv_s (hi ▸ hs.rd ix)
    obtain ⟨hcs, hlt⟩ := getD_some hc
    rcases inv_sl (hx ▸ hs.rd x) with ⟨_, rfl, _⟩ | ⟨_, rfl, _⟩ | ⟨_, b, off, sz, c, val, e0, k1, k2, k3, k4, k5, k6, k7, k8⟩
    · simp at hlt
    · simp at hlt
    · have hsz : sz = T.sz e := by
        rw [← hl, ← hcs]
        refine (k4 _ ?_).symm
        have : es.getD i.toNat [] = es[i.toNat] := by simp [List.getD, hlt]
        rw [this]; exact List.getElem_mem _
      subst hsz
      refine gives_run hs.zok (fun c => by simp) (u := .pointer (some ⟨b, off + i.toNat * T.sz e, none⟩)) ?_
        (.pt _ b (off + i.toNat * T.sz e) (fun j => val i.toNat j) (fun j hj => k5 _ _ hlt (by omega)) (fun j hj => k6 _ _ hlt (by omega)) (fun j hj => k7 _ _ hlt (by omega))
          (fun j hj => by have := k8 i.toNat j hlt (by omega); rwa [hcs] at this)) (fun p => by simp [spareOf])
      have hi2 : i < (es.length : Int) := by omega
      simp [ex_indexAddr, e0, e1, Instr.indexAt, asIntOf, underlying, und_slice hT ht, h0, hi2, run_size hT hn, add_addr]
  | @elemPt t ty n e x ix cs i hx hi ht hn h0 h1 =>
    obtain ⟨b, o, val, e0, k1, k2, k3, k4⟩ := inv_pt (hx ▸ hs.rd x)
    have e1 := inv_s (hi ▸ hs.rd ix)
    refine gives_run hs.zok (fun c => by simp) (u := .pointer (some ⟨b, o + i.toNat * T.sz e, none⟩)) ?_
      (.pt _ b (o + i.toNat * T.sz e) (fun j => val (i.toNat * T.sz e + j)) (fun j hj => ?_) (fun j hj => ?_) (fun j hj => ?_) (fun j hj => ?_)) (fun p => by simp [spareOf])
    · simp [ex_indexAddr, e0, e1, Instr.indexAt, Instr.sureAddr, asIntOf, underlying, und_arr hT ht, h0, h1, run_size hT hn, add_addr]
    all_goals simp only [List.length_drop] at hj
    · rw [Nat.add_assoc]; exact k1 _ (by omega)
    · rw [Nat.add_assoc]; exact k2 _ (by omega)
    · exact k3 _ (by omega)
    · rw [getD_drop]; exact k4 _ (by omega)
  | @elemRef t ty n e id off x ix i hx hi ht hn h0 h1 =>
    obtain ⟨b, e0, hb⟩ := inv_ref (hx ▸ hs.rd x)
    have e1 := inv_s (hi ▸ hs.rd ix)
    exact gives_run hs.zok (fun c => by simp) (u := .pointer (some ⟨b, off + i.toNat * T.sz e, none⟩)) (by simp [ex_indexAddr, e0, e1, Instr.indexAt, Instr.sureAddr, asIntOf, underlying, und_arr hT ht, h0, h1, run_size hT hn, add_addr])
      (.ref _ _ _ hb) (fun p => by simp [spareOf])
  | @elemMs t ty n e id off x ix i hx hi ht hn h0 h1 =>
    obtain ⟨b, c, e0, hb, hc, hm⟩ := inv_ms (hx ▸ hs.rd x)
    have e1 := inv_s (hi ▸ hs.rd ix)
    exact gives_run hs.zok (fun c => by simp) (u := .pointer (some ⟨b, off + i.toNat * T.sz e, none⟩)) (by simp [ex_indexAddr, e0, e1, Instr.indexAt, asIntOf, underlying, und_slice hT ht, h0, h1, run_size hT hn, add_addr])
      (.ref _ _ _ hb) (fun p => by simp [spareOf])
  | @lenSl t ty e x nil cap es ht hx =>
    rcases inv_sl (hx ▸ hs.rd x) with ⟨_, rfl, e0⟩ | ⟨_, rfl, a3, e0⟩ | ⟨_, b, off, sz, c, val, e0, _⟩
    rotate_left
    · exact gives_run hs.zok (fun c => by simp) (u := .int .i64 0) (by simp [ex_builtin, bi_len, e0, Builtin.len_, underlying, und_slice hT ht, goInt]) (.s _) (spare_s _ _)
    rotate_left
    · exact gives_run hs.zok (fun c => by simp) (u := .int .i64 0) (by simp [ex_builtin, bi_len, e0, Builtin.len_, underlying, und_slice hT ht, goInt]) (.s _) (spare_s _ _)
    · exact gives_run hs.zok (fun c => by simp) (u := .int .i64 es.length) (by simp [ex_builtin, bi_len, e0, Builtin.len_, underlying, und_slice hT ht, goInt]) (.s _) (spare_s _ _)
  | @lenMs t ty e id off n x ht hx =>
    obtain ⟨b, c, e0, _⟩ := inv_ms (hx ▸ hs.rd x)
    exact gives_run hs.zok (fun c => by simp) (u := .int .i64 n) (by simp [ex_builtin, bi_len, e0, Builtin.len_, underlying, und_slice hT ht, goInt]) (.s _) (spare_s _ _)
  | @lenArr t ty n e x ht =>
    exact gives_run hs.zok (fun c => by simp) (u := .int .i64 n) (by simp [ex_builtin, bi_len, Builtin.len_, underlying, und_arr hT ht, goInt]) (.s _) (spare_s _ _)
  | @extract ty i x vs v hx hi =>
    obtain ⟨us, e0, h1, h2⟩ := inv_tup (hx ▸ hs.rd x)
    have hlt := (List.getElem?_eq_some_iff.1 hi).1
    have hv : vs.getD i .un = v := by simp [List.getD_eq_getElem?_getD, hi]
    have := h2 i hlt
    rw [hv] at this
    exact gives_run hs.zok (fun c => by simp) (u := us.getD i undef) (by simp [ex_extract, e0, Instr.extract, Array.getD, show i < us.size by omega]) this.down (spare_dn _ _)
  | makeFunc f fst cap =>
    have h1 := vrs_rds hs.slots fst
    have h2 := vrs_rds hs.slots cap
    exact gives_run hs.zok (fun c => by simp) (u := .func f (fst.map a.eval) (cap.map a.eval)) rfl (.fn f _ _ _ _ h1.1 h2.1 h1.2 h2.2) (fun p => by simp [spareOf])
  | @box t ty x hp =>
    obtain ⟨w1, Z1, h1, h2, h3⟩ := run_box (P := P) hs.zok (t := t) (hs.rd x) hp
    intro next Q hn
    exact wp_run (fun c => by simp) (by rw [ex_box, Sem.run_bind, h1]; rfl) (hn _ w1 Z1 h2 h3 (fun b e he => by simp [spareOf] at he))
  | @build t ty parts fs cs ht hf h =>
    obtain ⟨vs, h1, h2⟩ := run_build hT ht (fun x hx => by simpa using List.all_eq_true.1 hf x hx) (parts_fst parts S a) (parts_vr hs parts) h
    exact gives_run hs.zok (fun c => by simp) (u := .agg vs) (by rw [ex_build, Sem.run_bind, h1]; rfl) (vr_agg h2) (fun p => by simp [spareOf])
  | @buildArr t ty n e parts cs ht he h =>
    obtain ⟨vs, h1, h2⟩ := run_buildArr hT ht he (parts_fst parts S a) (parts_vr hs parts) h
    exact gives_run hs.zok (fun c => by simp) (u := .agg vs) (by rw [ex_build, Sem.run_bind, h1]; rfl) (vr_agg h2) (fun p => by simp [spareOf])
  | @lit t ty e n parts vs ht he h0 h1 h2 h3 hb =>
    have hlen : vs.length = parts.size := by rw [h2]; simp
    have hn : n = vs.length := by
      have h9 := congrArg List.length h1
      simp only [List.length_map, Array.length_toList, List.length_range'] at h9
      omega
    subst hn
    obtain ⟨u, w1, Z1, k1, k2, k3⟩ := run_lit hT hs.zok (vs := vs) (qs := parts.map fun (i, x) => (i, a.eval x)) ht he (by rw [← h1]; simp [Function.comp_def]) (fun i hi => by
        have hlt : i < parts.size := by omega
        have := hs.rd (parts[i]).2
        subst h2
        simpa [List.getD_eq_getElem?_getD, hlt] using this)
      (fun v hv => by have := List.all_eq_true.1 h3 v hv; simp only [Bool.and_eq_true] at this; exact ⟨Nat.eq_of_beq_eq_true this.1, this.2⟩) hb h0
    intro next Q hn
    exact wp_run (fun c => by simp) (by rw [ex_lit, Sem.run_bind, k1]; rfl) (hn _ w1 Z1 k2 k3 (fun b e he => by cases u <;> simp [spareOf] at he))
  | @app t ty e x y nil nil2 cap cap2 es ys ht he h0 hx hy hc hs' hb hm =>
    obtain ⟨u, w1, Z1, k1, k2, k3, k4⟩ := run_append_free hT hs.zok (ty := ty) ht he h0 (hx ▸ hs.rd x) (hy ▸ hs.rd y) hc hs' hb hm
    intro next Q hn
    refine wp_run (fun c => by simp) ?_ (hn _ w1 Z1 k2 k3 k4)
    rw [ex_builtin, bi_append, Sem.run_bind, show (#[x, y] : Array Operand).map a.eval = #[a.eval x, a.eval y] by simp, k1]; rfl
  | @min ty args at' m l h =>
    exact gives_run hs.zok (fun c => by simp) (by rw [ex_builtin, bi_min, ints_of hs h, Sem.run_bind, run_minA]; rfl) (.s _) (spare_s _ _)
  | @max ty args at' m l h =>
    exact gives_run hs.zok (fun c => by simp) (by rw [ex_builtin, bi_max, ints_of hs h, Sem.run_bind, run_maxA]; rfl) (.s _) (spare_s _ _)
  | @slice3 t ty e x h m nil cap es n ht hx hh hm he h0 h1 =>
    have e1 := inv_s (hh ▸ hs.rd h)
    have e2 := inv_s (hm ▸ hs.rd m)
    obtain ⟨u, k1, k2⟩ := run_slice hT ht he (hx ▸ hs.rd x) none (some n) true (fun _ => rfl) (Int.le_refl _) h0 h1 (.inl rfl)
    simp only [Option.map_none, Option.map_some, if_true, Option.getD_none, Option.getD_some, Int.toNat_zero, List.drop_zero, Nat.sub_zero] at k1 k2
    exact gives_run hs.zok (fun c => by simp) (u := u) (by rw [ex_slice, Option.map_none, Option.map_some, Option.map_some, e1, e2, Sem.run_bind, k1]; rfl) k2 (fun p => by cases u <;> simp [spareOf])
  | @sliceHi t ty e x h nil cap es n ht hx hh he h0 h1 =>
    have e1 := inv_s (hh ▸ hs.rd h)
    obtain ⟨u, k1, k2⟩ := run_slice hT ht he (hx ▸ hs.rd x) none (some n) false (fun h => by cases h) (Int.le_refl _) h0 h1 (.inl rfl)
    simp only [Option.map_none, Option.map_some, Bool.false_eq_true, if_false, Option.getD_none, Option.getD_some, Int.toNat_zero, List.drop_zero, Nat.sub_zero] at k1 k2
    exact gives_run hs.zok (fun c => by simp) (u := u) (by rw [ex_slice, Option.map_none, Option.map_some, e1, Sem.run_bind, k1]; rfl) k2 (fun p => by cases u <;> simp [spareOf])
  | @sliceMs t ty e id off m x h n ht hx hh he h0 h1 =>
    have e1 := inv_s (hh ▸ hs.rd h)
    obtain ⟨b, c, e0, hb, k1, k2⟩ := inv_ms (hx ▸ hs.rd x)
    obtain ⟨n, rfl⟩ : ∃ k : Nat, n = k := ⟨n.toNat, by omega⟩
    have run := run_sliceBounds (w := w) (P := P) (lo := none) (hi := some (n : Int)) (l := 0) (h := n) (n := m) (c := c) false (.inl ⟨rfl, rfl⟩) (.inr rfl) (fun h => by cases h) (Nat.zero_le _) (by omega) k1
    have hr : (Instr.sliceAt t (a.eval x) none (some (.int .i64 n)) none).run P w = .ok (.slice (some ⟨b, off, none⟩) n c) w := by
      rw [e0]
      unfold Instr.sliceAt Instr.slice
      simp only [Option.map_none, Option.map_some, Bool.false_eq_true, if_false, Nat.sub_zero] at run
      simp only [Sem.run_bind, run_underlying (und_slice hT ht), Result.andThen_ok, run, run_size hT he, Sem.run_pure]
      by_cases e1 : c = 0 <;> simp [e1, add_addr]
    exact gives_run hs.zok (fun c => by simp) (u := .slice (some ⟨b, off, none⟩) n c) (by rw [ex_slice, Option.map_none, Option.map_some, e1, Sem.run_bind, hr]; rfl) (.ms _ _ _ _ _ hb (by simpa using Nat.le_trans (by omega) k1) k2) (fun p => by simp [spareOf])
  | @sliceLo t ty e x lo nil cap es n ht hx hl he h0 h1 hs' =>
    have e1 := inv_s (hl ▸ hs.rd lo)
    obtain ⟨u, k1, k2⟩ := run_slice hT ht he (hx ▸ hs.rd x) (some n) none false (fun h => by cases h) h0 h1 (Int.le_refl _) (.inr hs')
    simp only [Option.map_none, Option.map_some, Bool.false_eq_true, if_false, Option.getD_none, Option.getD_some, Int.toNat_natCast] at k1 k2
    have e3 : (es.drop n.toNat).take (es.length - n.toNat) = es.drop n.toNat := by rw [List.take_of_length_le]; simp
    rw [e3] at k2
    exact gives_run hs.zok (fun c => by simp) (u := u) (by rw [ex_slice, Option.map_none, Option.map_some, e1, Sem.run_bind, k1]; rfl) k2 (fun p => by cases u <;> simp [spareOf])
  | @slicePt t ty n e x cs ht he h1 hm hx hl h0 =>
    obtain ⟨b, off, val, e0, k1, k2, k3, k4⟩ := inv_pt (hx ▸ hs.rd x)
    have hr : (Instr.sliceAt t (a.eval x) none none none).run P w = .ok (.slice (some ⟨b, off, none⟩) n n) w := by
      rw [e0]
      simp only [Instr.sliceAt, Sem.run_bind, run_und (und_arr hT ht), Result.andThen_ok, Instr.sureAddr, Sem.run_pure, Instr.sliceBounds, run_size hT he]
      simp [show n ≠ 0 by omega, add_addr]
    have hlen : ((cs.take n).map fun c => [c]).length = n := by simp; omega
    have hget : ∀ i, i < n → ((((cs.take n).map fun c => [c]).getD i []).getD 0 .un) = cs.getD i .un := fun i hi => by
      simp [List.getD_eq_getElem?_getD, List.getElem?_take, hi, show i < cs.length by omega]
    have hv : VR φ Z w (.sl false .exact ((cs.take n).map fun c => [c])) (.slice (some ⟨b, off, none⟩) ((cs.take n).map fun c => [c]).length n) :=
      .sl .exact ((cs.take n).map fun c => [c]) b off 1 n (fun i j => val i) (by rw [hlen]; exact Nat.le_refl _) (fun _ => hlen.symm) hm (fun e he => by obtain ⟨c, _, rfl⟩ := List.mem_map.1 he; rfl)
        (fun i j hi hj => by rw [hlen] at hi; rw [show off + i * 1 + j = off + i by omega]; exact k1 i (by omega)) (fun i j hi hj => by rw [hlen] at hi; rw [show off + i * 1 + j = off + i by omega]; exact k2 i (by omega))
        (fun i j hi hj => by rw [hlen] at hi; exact k3 i (by omega)) (fun i j hi hj => by rw [hlen] at hi; rw [show j = 0 by omega, hget i hi]; exact k4 i (by omega))
    rw [hlen] at hv
    exact gives_run hs.zok (fun c => by simp) (u := .slice (some ⟨b, off, none⟩) n n) (by rw [ex_slice, Option.map_none, Sem.run_bind, hr]; rfl) hv (fun p => by simp [spareOf])
  | @sliceArr t ty n e id off x ht he hm hx =>
    obtain ⟨b, e0, hb⟩ := inv_ref (hx ▸ hs.rd x)
    have hr : (Instr.sliceAt t (a.eval x) none none none).run P w = .ok (.slice (some ⟨b, off, none⟩) n n) w := by
      rw [e0]
      simp only [Instr.sliceAt, Sem.run_bind, run_und (und_arr hT ht), Result.andThen_ok, Instr.sureAddr, Sem.run_pure, Instr.sliceBounds, run_size hT he]
      by_cases h : n = 0
      · simp [h]
      · simp [h, add_addr]
    exact gives_run hs.zok (fun c => by simp) (u := .slice (some ⟨b, off, none⟩) n n) (by rw [ex_slice, Option.map_none, Sem.run_bind, hr]; rfl) (.ms _ _ _ _ _ hb (Nat.le_refl _) hm) (fun p => by simp [spareOf])
  | @call ty g f args at' fst cap v hf he h =>
    obtain ⟨fv, cv, e0, h1, h2⟩ := inv_fn (hf ▸ hs.rd f)
    have h3 := vrs_rds hs.slots args
    intro next Q hn
    refine ⟨fun f _ => trivial, ?_⟩
    have hrun : (execOp a.eval { dst := dst, op := Op.call { callee := .value f, args := args, argTypes := at' }, type := ty, pos := pos, after := aft, guard := gd }).run P w =
        .ok (.enter g (fv ++ args.map a.eval ++ cv)) w := by
      simp only [ex_call, resolve, e0, Deferred.ofValue, invoke, Sem.run_bind, Sem.run_pure, Result.andThen_ok]
      exact he _ _
    rw [Oper.semAt_eq _ _ _ (fun c => by simp), hrun, Oper.uponIn_enter]
    refine ⟨fun h0 => (by cases h0), callsIn_fenceR ((h φ Z w _ hs.zok ((h1.append h3).append h2)).mono ?_)⟩
    rintro e w' ⟨u, Z', rfl, m, hv, hno⟩
    exact hn u w' Z' m hv fun b e hs => by rw [hno] at hs; cases hs
end
end Go.AL

namespace Go.AL
open Go Go.RowKit
def gq (g want : Bool) : Bool := cond want g (!g)
theorem gq_eq (g want : Bool) : (g == want) = gq g want := by cases g <;> cases want <;> rfl
def StepW (P : Program) (r : Option Nat) (ops : Array Oper) (o : Oper) (a : Act) (w : World) (next : Act → World → Prop) (Q : Exit → Act → World → Prop) : Prop :=
  if Region.wanted o (yielded ops a.tmps) = true then o.wpIn (fenceR r) 0 P a w next Q else next (a.put o.dst undef) w
def Does (X : Ctx) (r : Option Nat) (ops : Array Oper) (o : Oper) (s : St) (K : St → Prop) : Prop :=
  (∀ d, o.dst = some d → d < X.nt) → ∀ φ Z a w, Rel X φ Z s a w → ∀ next Q, (∀ s' φ' Z' a' w', K s' → Rel X φ' Z' s' a' w' → next a' w') → StepW X.P r ops o a w next Q
def RegL (X : Ctx) (r : Option Nat) (ops : Array Oper) : List Oper → St → (St → Prop) → Prop
  | [], s, K => K s
  | o :: l, s, K => Does X r ops o s fun s' => RegL X r ops l s' K
def dstsOk (nt : Nat) (ops : Array Oper) : Bool := ops.toList.all fun o => match o.dst with | some d => Nat.blt d nt | none => true
def Aw (X : Ctx) (r : Option Nat) (c : Code) (Q : Exit → St → Prop) (s : St) : Prop :=
  ∀ φ Z a w, Rel X φ Z s a w → c.wpIn (fenceR r) 0 X.P (fun e a' w' => ∃ s' φ' Z', Q e s' ∧ Rel X φ' Z' s' a' w') a w
section
variable {X : Ctx} {r : Option Nat} {s : St} {Q : Exit → St → Prop}
theorem Does.mono {ops : Array Oper} {o : Oper} {K K' : St → Prop} (h : Does X r ops o s K) (hk : ∀ s', K s' → K' s') : Does X r ops o s K' :=
  fun hd φ Z a w hr next Q hn => h hd φ Z a w hr next Q fun s' φ' Z' a' w' k hr' => hn s' φ' Z' a' w' (hk s' k) hr'
theorem RegL.mono {ops : Array Oper} {K K' : St → Prop} (hk : ∀ s', K s' → K' s') : ∀ (l : List Oper) {s : St}, RegL X r ops l s K → RegL X r ops l s K'
  | [], _, h => hk _ h
  | _ :: l, _, h => Does.mono h fun _ h' => RegL.mono hk l h'
theorem regL_wp {ops : Array Oper} (hd : dstsOk X.nt ops = true) {K : St → Prop} {Qc : Exit → Act → World → Prop} : ∀ (l : List Oper) (k : Nat), ops.toList.drop k = l → ∀ {s : St} {φ : Names} {Z : Still} {a : Act} {w : World},
    RegL X r ops l s K → Rel X φ Z s a w → (∀ s' φ' Z' a' w', K s' → Rel X φ' Z' s' a' w' → Qc .normal a' w') → wpOpsIn (fenceR r) 0 X.P ops Qc (List.range' k (ops.size - k)) a w := by
  intro l
  induction l with
  | nil =>
    intro k hk s φ Z a w h hr hq
    have : ops.size - k = 0 := by
      have := congrArg List.length hk
      simp at this; omega
    rw [this]
    exact hq _ _ _ _ _ h hr
  | cons o l ih =>
    intro k hk s φ Z a w h hr hq
    have hlt : k < ops.size := by
      have := congrArg List.length hk
      simp at this; omega
    have ho : ops[k]? = some o := by
      have := congrArg List.head? hk
      simpa [List.head?_drop] using this
    have hl : ops.toList.drop (k + 1) = l := by
      have := congrArg List.tail hk
      simpa using this
    rw [show ops.size - k = (ops.size - (k + 1)) + 1 by omega, List.range'_succ]
    simp only [wpOpsIn, ho]
    have hdo : ∀ d, o.dst = some d → d < X.nt := by
      intro d hd'
      have hm : o ∈ ops.toList := List.mem_of_getElem? (by simpa using ho)
      have := List.all_eq_true.1 hd o hm
      rw [hd'] at this
      simpa [Nat.blt_eq] using this
    have := h hdo φ Z a w hr (wpOpsIn (fenceR r) 0 X.P ops Qc (List.range' (k + 1) (ops.size - (k + 1)))) Qc fun s' φ' Z' a' w' h' hr' => ih (k + 1) hl h' hr' hq
    unfold StepW at this
    split
    · rename_i hw; rw [if_pos hw] at this; exact this
    · rename_i hw; rw [if_neg hw] at this; exact ⟨fun _ _ => trivial, this⟩
theorem Aw.region {id : Nat} {ops : Array Oper} (hd : dstsOk X.nt ops = true) (h : RegL X r ops ops.toList s (Q .normal)) : Aw X r (.region id ops false) Q s := by
  intro φ Z a w hr
  refine wpIn_region ?_
  have := regL_wp hd (Qc := fun e a' w' => ∃ s' φ' Z', Q e s' ∧ Rel X φ' Z' s' a' w') ops.toList 0 rfl h hr fun s' φ' Z' a' w' k hr' => ⟨s', φ', Z', k, hr'⟩
  rwa [List.range_eq_range']
theorem Aw.mono {c : Code} {Q' : Exit → St → Prop} (h : Aw X r c Q s) (hq : ∀ e s', Q e s' → Q' e s') : Aw X r c Q' s :=
  fun φ Z a w hr => wpIn_mono (h φ Z a w hr) fun e a' w' ⟨s', φ', Z', q, k⟩ => ⟨s', φ', Z', hq e s' q, k⟩
theorem Aw.skip (h : Q .normal s) : Aw X r .skip Q s := fun φ Z a w hr => wpIn_skip ⟨s, φ, Z, h, hr⟩
theorem Aw.label {l : Nat} (h : Q .normal s) : Aw X r (.label l) Q s := fun φ Z a w hr => wpIn_label ⟨s, φ, Z, h, hr⟩
theorem Aw.exit {id : Nat} (h : Q (.exit id) s) : Aw X r (.exit id) Q s := fun φ Z a w hr => wpIn_exit ⟨s, φ, Z, h, hr⟩
theorem Aw.ret (h : Q .ret s) : Aw X r .ret Q s := fun φ Z a w hr => wpIn_ret ⟨s, φ, Z, h, hr⟩
def thenQ (K : St → Prop) (Q : Exit → St → Prop) : Exit → St → Prop
  | .normal, s => K s
  | e, s => Q e s
theorem Aw.seq {x y : Code} (h : Aw X r x (thenQ (Aw X r y Q) Q) s) : Aw X r (.seq x y) Q s := by
  intro φ Z a w hr
  refine wpIn_seq (wpIn_mono (h φ Z a w hr) ?_)
  rintro e a' w' ⟨s', φ', Z', q, k⟩
  cases e with
  | normal => exact q φ' Z' a' w' k
  | _ => exact ⟨s', φ', Z', q, k⟩
theorem Aw.cond {c : Operand} {x y : Code} {b : Bool} (hc : rd s.S c = .bool b) (h1 : b = true → Aw X r x Q s) (h2 : b = false → Aw X r y Q s) : Aw X r (.cond c x y) Q s := by
  intro φ Z a w hr
  have he : a.eval c = .bool b := inv_s (hc ▸ vr_rd hr.slots c)
  refine wpIn_cond he ?_
  cases b with
  | true => exact h1 rfl φ Z a w hr
  | false => exact h2 rfl φ Z a w hr
def blockQ (id : Nat) (Q : Exit → St → Prop) : Exit → St → Prop
  | .exit id', s => if id' = id then Q .normal s else Q (.exit id') s
  | e, s => Q e s
theorem Aw.block {id : Nat} {c : Code} (h : Aw X r c (blockQ id Q) s) : Aw X r (.block id c) Q s := by
  intro φ Z a w hr
  refine wpIn_block (wpIn_mono (h φ Z a w hr) ?_)
  rintro e a' w' ⟨s', φ', Z', q, k⟩
  cases e with
  | exit id' =>
    simp only [Exit.inBlock]
    simp only [blockQ] at q
    split
    · rename_i e; rw [if_pos e] at q; exact ⟨s', φ', Z', q, k⟩
    · rename_i e; rw [if_neg e] at q; exact ⟨s', φ', Z', q, k⟩
  | _ => exact ⟨s', φ', Z', q, k⟩
theorem Aw.loop {c : Code} (I : St → Nat → Prop) (n : Nat) (h0 : I s n) (round : ∀ s n, I s n → Aw X r c (thenQ (fun s' => ∃ m, m < n ∧ I s' m) Q) s) : Aw X r (.loop c) Q s := by
  intro φ Z a w hr
  let Ic : Act → World → Nat → Prop := fun a w n => ∃ s φ Z, I s n ∧ Rel X φ Z s a w
  have key : ∀ n a w, Ic a w n → ∀ b k cs, b.roundOf = (fenceR r).round → (fenceR r).fn b.fn → (fenceR r).room (cs.length + 1 + 0) →
      ∃ e a' w', (fun e a' w' => ∃ s' φ' Z', Q e s' ∧ Rel X φ' Z' s' a' w') e a' w' ∧ ArrivesIn (Machine.fenced X.P (fenceR r)) X.P (lone (b.atR a (.code c :: .inLoop c :: k)) cs w) b k cs e a' w' := by
    intro n
    induction n using Nat.strongRecOn with
    | _ n ih =>
      rintro a w ⟨s, φ, Z, hI, hr⟩ b k cs hro hb hroom
      obtain ⟨e, a₁, w₁, ⟨s', φ', Z', hq, hr'⟩, harr⟩ := round s n hI φ Z a w hr b (.inLoop c :: k) cs hro hb hroom
      cases e with
      | normal =>
        obtain ⟨m, hm, hI'⟩ := hq
        obtain ⟨e₂, a₂, w₂, hq₂, harr₂⟩ := ih m hm a₁ w₁ ⟨s', φ', Z', hI', hr'⟩ b k cs hro hb hroom
        exact ⟨e₂, a₂, w₂, hq₂, .of_steps (StepsIn.trans harr (.one (fenced_calm hb hroom rfl) stepR_inLoop)) harr₂⟩
      | exit id => exact ⟨_, a₁, w₁, ⟨s', φ', Z', hq, hr'⟩, .pass (x := .inLoop c) rfl (fun _ _ => .inl (by simp)) harr⟩
      | goto l => exact ⟨_, a₁, w₁, ⟨s', φ', Z', hq, hr'⟩, .pass (x := .inLoop c) rfl (fun _ _ => .inl (by simp)) harr⟩
      | ret => exact ⟨_, a₁, w₁, ⟨s', φ', Z', hq, hr'⟩, .pass (x := .inLoop c) rfl (fun _ _ => .inl (by simp)) harr⟩
      | panic ch => exact ⟨_, a₁, w₁, ⟨s', φ', Z', hq, hr'⟩, .pass (x := .inLoop c) rfl (fun _ _ => .inl (by simp)) harr⟩
      | outgrown => exact ⟨_, a₁, w₁, ⟨s', φ', Z', hq, hr'⟩, .pass (x := .inLoop c) rfl (fun _ _ => .inl (by simp)) harr⟩
  intro b k cs hro hb hroom
  obtain ⟨e, a', w', hq, harr⟩ := key n a w ⟨s, φ, Z, h0, hr⟩ b k cs hro hb hroom
  exact ⟨e, a', w', hq, .of_steps (.one (fenced_calm hb hroom rfl) stepR_loop) harr⟩
theorem Aw.weaken {c : Code} {S' : Slots} {H' : Hp} {c' : Nat} (hS : ∀ t, A.Le (S' t) (s.S t)) (hH : ∀ id bx', H' id = some bx' → ∃ bx, s.H id = some bx ∧ B.Le bx' bx)
    (hc : s.c ≤ c') (h : Aw X r c Q ⟨S', H', c'⟩) : Aw X r c Q s := fun φ Z a w hr => h φ Z a w (hr.weaken hS hH hc)
end
end Go.AL

namespace Go.AL
open Go Go.RowKit
section
variable {X : Ctx} {r : Option Nat} {s : St} {Q : Exit → St → Prop}
def scopeQ (Q : Exit → St → Prop) : Exit → St → Prop
  | .goto _, _ => False
  | e, s => Q e s
theorem stepR_scope {P : Program} {b : Frame} {a : Act} {k : List Item} {cs : List Frame} {w : World} {c : Code} :
    step P (lone (b.atR a (.code (.scope c) :: k)) cs w) = .next (lone (b.atR a (.code c :: .inScope c :: k)) cs w) :=
  step_lone_go (by simp [stepG, stepG.exec, Frame.atR])
theorem stepR_inScope {P : Program} {b : Frame} {a : Act} {k : List Item} {cs : List Frame} {w : World} {c : Code} :
    step P (lone (b.atR a (.inScope c :: k)) cs w) = .next (lone (b.atR a k) cs w) :=
  step_lone_go (by simp [stepG, stepG.exec, Frame.atR])
theorem Aw.scope {c : Code} (h : Aw X r c (scopeQ Q) s) : Aw X r (.scope c) Q s := by
  intro φ Z a w hr b k cs hro hb hroom
  have h0 : (lone (b.atR a (.code (.scope c) :: k)) cs w).fenced X.P (fenceR r) := fenced_calm hb hroom rfl
  obtain ⟨e, a₁, w₁, ⟨s', φ', Z', hq, hr'⟩, harr⟩ := h φ Z a w hr b (.inScope c :: k) cs hro hb hroom
  cases e with
  | normal => exact ⟨.normal, a₁, w₁, ⟨s', φ', Z', hq, hr'⟩, .head h0 stepR_scope (StepsIn.trans harr (.one (fenced_calm hb hroom rfl) stepR_inScope))⟩
  | exit id =>
    have hx : exitTo id (.inScope c :: k) = exitTo id k := by simp [exitTo]
    exact ⟨.exit id, a₁, w₁, ⟨s', φ', Z', hq, hr'⟩, fun k' hk => .head h0 stepR_scope (harr.1 k' (by rw [hx]; exact hk)),
      fun hr' hk => let ⟨k₁, h1, h2⟩ := harr.2 hr' (by rw [hx]; exact hk); ⟨k₁, h1, .head h0 stepR_scope h2⟩⟩
  | goto l => exact hq.elim
  | ret => exact ⟨.ret, a₁, w₁, ⟨s', φ', Z', hq, hr'⟩, .of_steps (.one h0 stepR_scope) harr⟩
  | panic ch => exact ⟨.panic ch, a₁, w₁, ⟨s', φ', Z', hq, hr'⟩, .of_steps (.one h0 stepR_scope) harr⟩
  | outgrown => exact ⟨.outgrown, a₁, w₁, ⟨s', φ', Z', hq, hr'⟩, .of_steps (.one h0 stepR_scope) harr⟩
end
inductive ResV (P : Program) (T : Tab) (s : St) : ResultVar → A → Prop
  | tmp (t : Tmp) : ResV P T s (.tmp t) (s.S t).down
  | cell {t : Tmp} {ty ty' : TypeId} {v : A} (h : OpV P T s.S s.H (.load ty (.tmp t)) ty' v) : ResV P T s (.cell t ty) v
inductive ResVs (P : Program) (T : Tab) (s : St) : List ResultVar → List A → Prop
  | nil : ResVs P T s [] []
  | cons {r : ResultVar} {v : A} {rs : List ResultVar} {vs : List A} (h : ResV P T s r v) (hs : ResVs P T s rs vs) : ResVs P T s (r :: rs) (v :: vs)
def tupA : List A → A
  | [v] => v
  | vs => .tup vs
section
variable {P : Program} {T : Tab} {φ : Names} {Z : Still} {s : St} {a : Act} {w : World}
theorem load_run {S : Slots} {H : Hp} {t ty : TypeId} {x : Operand} {v : A} (hT : T.Ok P) (hs : Sees φ Z S H a w) (h : OpV P T S H (.load t x) ty v) :
    ∃ u, (Instr.loadAt t (a.eval x)).run P w = .ok u w ∧ VR φ Z w v u ∧ (∀ u', spareOf v u' = none) ∧ ∃ b off, a.eval x = .pointer (some ⟨b, off, none⟩) := by
  cases h with
  | @loadPtAgg t ty x cs hx hn ht hl =>
    obtain ⟨b, off, val, e0, h1, h2, h3, h4⟩ := inv_pt (hx ▸ hs.rd x)
    exact ⟨_, by rw [e0]; exact run_load_agg hT hn ht val (fun j hj => h2 j (by omega)), vr_row (by simp; omega) fun j hj => ⟨h3 j (by omega), by rw [getD_take hj]; exact h4 j (by omega)⟩, fun u' => by simp [spareOf], b, off, e0⟩
  | @loadPtOne t ty x cs hx hn ht hl =>
    obtain ⟨b, off, val, e0, h1, h2, h3, h4⟩ := inv_pt (hx ▸ hs.rd x)
    have := h2 0 hl
    simp only [Nat.add_zero] at this
    exact ⟨_, by rw [e0]; exact run_load_one hT hn ht this, (h4 0 hl).down, spare_down _, b, off, e0⟩
  | @loadRefAgg t ty x id off cs hx hH hn ht hl =>
    obtain ⟨b, e0, hb⟩ := inv_ref (hx ▸ hs.rd x)
    obtain ⟨b', hb', hr⟩ := hs.boxes id _ hH
    rw [hb] at hb'; cases hb'
    obtain ⟨c, Ty', hblk, hlen, hc⟩ := hr
    have hcell : ∀ j, j < T.sz t → w.cell? ⟨b, off + j, none⟩ = some (c.getD (off + j) undef) := fun j hj => by
      have : off + j < c.size := by omega
      simp [World.cell?, hblk, this, Array.getD]
    refine ⟨_, by rw [e0]; exact run_load_agg hT hn ht _ hcell, vr_row (by simp; omega) fun j hj => ⟨(hc (off + j) (by omega)).2, ?_⟩, fun u' => by simp [spareOf], b, off, e0⟩
    rw [getD_map_down (by simp; omega), getD_take hj, getD_drop]
    exact ((hc (off + j) (by omega)).1).down
  | @loadRefOne t ty x id off cs hx hH hn ht hl =>
    obtain ⟨b, e0, hb⟩ := inv_ref (hx ▸ hs.rd x)
    obtain ⟨b', hb', hr⟩ := hs.boxes id _ hH
    rw [hb] at hb'; cases hb'
    obtain ⟨c, Ty', hblk, hlen, hc⟩ := hr
    have hcell : w.cell? ⟨b, off, none⟩ = some (c.getD off undef) := by
      have : off < c.size := by omega
      simp [World.cell?, hblk, this, Array.getD]
    exact ⟨_, by rw [e0]; exact run_load_one hT hn ht hcell, ((hc off hl).1).down, spare_down _, b, off, e0⟩
theorem results_run {fn : Func} {vs : List A} (hT : T.Ok P) (hs : Sees φ Z s.S s.H a w) (h : ResVs P T s fn.results.toList vs) :
    ∃ u, (results fn a.tmps).run P w = .ok u w ∧ VR φ Z w (tupA vs) u ∧ ∀ u', spareOf (tupA vs) u' = none := by
  have key : ∀ (rs : List ResultVar) (vs : List A), ResVs P T s rs vs → ∃ us : List Value,
      (rs.mapM (m := Sem) fun | .tmp t => pure (a.tmps.getD t undef) | .cell x t => do loadVar t (← asAddr (a.tmps.getD x undef))).run P w = .ok us w ∧
      us.length = vs.length ∧ (∀ i, i < vs.length → VR φ Z w (vs.getD i .un) (us.getD i undef)) ∧ ∀ v ∈ vs, ∀ u', spareOf v u' = none := by
    intro rs vs h
    induction h with
    | nil => exact ⟨[], by simp, rfl, fun i hi => by simp at hi, fun v hv => by simp at hv⟩
    | @cons r v rs vs hr _ ih =>
      obtain ⟨us, h1, h2, h3, h4⟩ := ih
      have step : ∃ u, ((fun | .tmp t => pure (a.tmps.getD t undef) | .cell x t => do loadVar t (← asAddr (a.tmps.getD x undef)) : ResultVar → Sem Value) r).run P w = .ok u w ∧ VR φ Z w v u ∧ ∀ u', spareOf v u' = none := by
        cases hr with
        | tmp t => exact ⟨a.tmps.getD t undef, by simp, (hs.slots t).down, spare_down _⟩
        | @cell t ty ty' v h =>
          obtain ⟨u, h1, h2, h3, b, off, h4⟩ := load_run hT hs h
          refine ⟨u, ?_, h2, h3⟩
          have e : a.tmps.getD t undef = .pointer (some ⟨b, off, none⟩) := h4
          have e2 : a.eval (.tmp t) = a.tmps.getD t undef := rfl
          rw [e2, e] at h1
          simp only [Instr.loadAt, Instr.sureAddr, Sem.run_bind, Sem.run_pure, Result.andThen_ok] at h1
          simp only [e, asAddr, Sem.run_bind, Sem.run_pure, Result.andThen_ok]
          exact h1
      obtain ⟨u, k1, k2, k3⟩ := step
      refine ⟨u :: us, ?_, by simp [h2], fun i hi => ?_, fun x hx => ?_⟩
      · rw [List.mapM_cons]
        simp only [Sem.run_bind]
        rw [k1]
        simp only [Result.andThen_ok]
        rw [h1]
        rfl
      · cases i with
        | zero => simpa using k2
        | succ i => simpa using h3 i (by simpa using hi)
      · rcases List.mem_cons.1 hx with rfl | hx
        · exact k3
        · exact h4 x hx
  obtain ⟨us, h1, h2, h3, h4⟩ := key _ _ h
  have hm : (fn.results.mapM (m := Sem) fun | .tmp t => pure (a.tmps.getD t undef) | .cell x t => do loadVar t (← asAddr (a.tmps.getD x undef))).run P w = .ok us.toArray w := by
    rw [Array.mapM_eq_mapM_toList]
    simp only [Sem.run_map]
    rw [h1]
    rfl
  have hr : (results fn a.tmps).run P w = (pure (if h : us.toArray.size = 1 then us.toArray[0] else .tuple us.toArray) : Sem Value).run P w := by
    unfold results
    simp only [Sem.run_bind]
    exact congrArg (fun r => Result.andThen r fun a w' => Sem.run P (pure (if h : a.size = 1 then a[0] else Value.tuple a)) w') hm
  rw [hr]
  match vs, us, h2, h3, h4 with
  | [], [], _, h3, h4 => exact ⟨.tuple #[], rfl, .tup [] #[] rfl (fun i hi => by simp at hi), fun u' => by simp [tupA, spareOf]⟩
  | [v], [u], _, h3, h4 => exact ⟨u, rfl, (by have := h3 0 (by simp); exact this), fun u' => h4 v (by simp) u'⟩
  | v :: v' :: vs, u :: u' :: us, h2, h3, h4 =>
    refine ⟨.tuple (u :: u' :: us).toArray, ?_, .tup _ _ (by simpa using h2) (fun i hi => ?_), fun u' => by simp [tupA, spareOf]⟩
    · have : ¬ ((u :: u' :: us).toArray.size = 1) := by simp
      rw [dif_neg this]; rfl
    · have := h3 i hi
      simpa [Array.getD_eq_getD_getElem?, List.getD_eq_getElem?_getD] using this
end
structure HRel (P : Program) (φ : Names) (Z : Still) (H : Hp) (c : Nat) (w : World) : Prop where
  boxes : ∀ id bx, H id = some bx → ∃ b, φ id = some b ∧ BR φ Z w b bx
  inj : ∀ id id' b, (H id).isSome = true → (H id').isSome = true → φ id = some b → φ id' = some b → id = id'
  zok : ∀ b o, Z b o → ∃ v, w.cell? ⟨b, o, none⟩ = some v
  zbox : ∀ b o id, Z b o → (H id).isSome = true → φ id ≠ some b
  own1 : ∀ id j b e, spareOf (absAt ⟨fun _ => .un, H, c⟩ (.box id j)) (conAt φ ⟨#[], []⟩ w (.box id j)) = some (b, e) →
    SpareOk P ⟨fun _ => .un, H, c⟩ φ Z w (conAt φ ⟨#[], []⟩ w (.box id j)) b e
  own2 : ∀ id j id' j' b e e', spareOf (absAt ⟨fun _ => .un, H, c⟩ (.box id j)) (conAt φ ⟨#[], []⟩ w (.box id j)) = some (b, e) →
    spareOf (absAt ⟨fun _ => .un, H, c⟩ (.box id' j')) (conAt φ ⟨#[], []⟩ w (.box id' j')) = some (b, e') → Loc.box id j = Loc.box id' j'
  fresh : ∀ id, c ≤ id → φ id = none
def Mine (φ : Names) (H : Hp) (w : World) (b : Nat) : Prop :=
  (∃ id, (H id).isSome = true ∧ φ id = some b) ∨ ∃ id j e, spareOf (absAt ⟨fun _ => .un, H, 0⟩ (.box id j)) (conAt φ ⟨#[], []⟩ w (.box id j)) = some (b, e)
structure Grew (P : Program) (φ φ' : Names) (Z Z' : Still) (H H' : Hp) (w w' : World) : Prop where
  size : w.heap.size ≤ w'.heap.size
  frame : ∀ b, b < w.heap.size → ¬ Mine φ H w b → w'.heap[b]? = w.heap[b]?
  os : w'.os = w.os
  tape : w'.tape = w.tape
  output : w'.output = w.output
  up : ∀ b o, Z b o → Z' b o ∧ w'.cell? ⟨b, o, none⟩ = w.cell? ⟨b, o, none⟩
  back : ∀ b o, Z' b o → b < w.heap.size → Z b o ∨ Mine φ H w b
  names : ∀ id b, φ id = some b → φ' id = some b
  mine : ∀ b, Mine φ' H' w' b → Mine φ H w b ∨ w.heap.size ≤ b
def SCall (P : Program) (f : FuncId) (args : List A) (H : Hp) (c : Nat) (post : A → Hp → Nat → Prop) : Prop :=
  ∀ φ Z w vs, HRel P φ Z H c w → VRs φ Z w args vs → Calls P f vs w fun e w' =>
    ∃ u v H' c' φ' Z', e = .returned u ∧ post v H' c' ∧ VR φ' Z' w' v u ∧ (∀ u', spareOf v u' = none) ∧ HRel P φ' Z' H' c' w' ∧ Grew P φ φ' Z Z' H H' w w'
def initS (args : List A) : Slots := fun t => args.getD t .un
def retQ (P : Program) (T : Tab) (rs : List ResultVar) (post : A → Hp → Nat → Prop) : Exit → St → Prop
  | .normal, s | .ret, s => ∃ vs, ResVs P T s rs vs ∧ post (tupA vs) s.H s.c
  | _, _ => False
structure En where
  w0 : World
  M0 : Nat → Prop
  Z0 : Still
  φ0 : Names
def En.cx (E : En) (P : Program) (nt : Nat) : Ctx := ⟨P, E.w0, E.M0, E.Z0, E.φ0, nt⟩
theorem putObj_cell {w : World} {r b o : Nat} {ob ob' : Obj} (h : w.heap[r]? = some ob) (h1 : ∀ c t f, ob ≠ .cells c t f) (h2 : ∀ c t f, ob' ≠ .cells c t f) :
    (w.putObj r ob').cell? ⟨b, o, none⟩ = w.cell? ⟨b, o, none⟩ := by
  by_cases hb : b = r
  · subst hb
    have hlt := lt_of_block h
    have e1 : w.cell? ⟨b, o, none⟩ = none := by
      unfold World.cell?
      simp only [h]
      cases ob <;> first | rfl | (exact absurd rfl (h1 _ _ _))
    have e2 : (w.putObj b ob').cell? ⟨b, o, none⟩ = none := by
      unfold World.cell? World.putObj
      simp only [Array.getElem?_setIfInBounds_self_of_lt hlt]
      cases ob' <;> first | rfl | (exact absurd rfl (h2 _ _ _))
    rw [e1, e2]
  · exact World.cell?_of_block (w := w) (by simp only [World.putObj, Array.getElem?_setIfInBounds]; rw [if_neg (fun e => hb e.symm)])
theorem leaves_marks {P : Program} {fn : Func} {tmps : Array Value} {R : Ending → World → Prop} {n0 : Nat} {φ : Names} {H : Hp} (J : World → Prop)
    (hstep : ∀ w r, J w → n0 ≤ r → w.heap[r]? = some (.deferred (some [])) → (∀ id, (H id).isSome = true → φ id ≠ some r) → J (w.putObj r (.deferred none)))
    (hend : ∀ w, J w → ∃ v, (results fn tmps).run P w = .ok v w ∧ R (.returned v) w) :
    ∀ (ds : List Deferred) (w : World), (∀ d, d ∈ ds → marked w n0 φ H d) → ds.Pairwise (fun d d' => d.target ≠ d'.target) → J w → LeavesInM (fenceR none) 0 P fn tmps R ds .returning w
  | [], w, _, _, hJ => hend w hJ
  | d :: ds, w, hm, hp, hJ => by
    obtain ⟨r, rfl, h1, h2, h3⟩ := hm d (by simp)
    refine ⟨by simp, .inl ⟨r, _, rfl, run_takeDeferred h2, ?_⟩⟩
    refine leaves_marks J hstep hend ds _ (fun d' hd' => ?_) (List.pairwise_cons.1 hp).2 (hstep w r hJ h1 h2 h3)
    obtain ⟨r', rfl, k1, k2, k3⟩ := hm d' (by simp [hd'])
    have hne : r' ≠ r := fun e => (List.pairwise_cons.1 hp).1 _ hd' (by rw [e])
    exact ⟨r', rfl, k1, by simp only [World.putObj, Array.getElem?_setIfInBounds]; rw [if_neg (fun e => hne e.symm)]; exact k2, k3⟩
theorem Rel.mark {X : Ctx} {φ : Names} {Z : Still} {s : St} {a a' : Act} {w : World} {r : Nat} (h : Rel X φ Z s a w) (h1 : X.w0.heap.size ≤ r) (h2 : w.heap[r]? = some (.deferred (some [])))
    (h3 : ∀ id, (s.H id).isSome = true → φ id ≠ some r) (ha : a'.tmps = a.tmps) (hd : a'.defers = []) : Rel X φ Z s a' (w.putObj r (.deferred none)) := by
  have hcell : ∀ b o, (w.putObj r (.deferred none)).cell? ⟨b, o, none⟩ = w.cell? ⟨b, o, none⟩ := fun b o => putObj_cell h2 (fun c t f => by simp) (fun c t f => by simp)
  have hblk : ∀ b, b ≠ r → (w.putObj r (.deferred none)).heap[b]? = w.heap[b]? := fun b hb => by
    simp only [World.putObj, Array.getElem?_setIfInBounds]; rw [if_neg (fun e => hb e.symm)]
  have con : ∀ l, conAt φ a' (w.putObj r (.deferred none)) l = conAt φ a w l := fun l => by
    cases l with
    | slot t => simp only [conAt, ha]
    | box id j => simp only [conAt]; cases φ id <;> simp [hcell]
  have hsz : (w.putObj r (.deferred none)).heap.size = w.heap.size := by simp [World.putObj]
  exact {
    size := by rw [ha]; exact h.size
    slots := fun t => by rw [ha]; exact (h.slots t).mono (fun _ _ h => h) (fun _ _ h => h) (fun b o _ => hcell b o)
    boxes := fun id bx hb => by
      obtain ⟨b, k1, k2⟩ := h.boxes id bx hb
      exact ⟨b, k1, k2.mono (fun _ _ h => h) (fun _ _ h => h) (fun b o _ => hcell b o) (hblk b (fun e => h3 id (by simp [hb]) (e ▸ k1)))⟩
    inj := h.inj
    zok := fun b o hz => by rw [hcell]; exact h.zok b o hz
    zbox := h.zbox
    own1 := fun l b e hl => by
      rw [con] at hl ⊢
      obtain ⟨k0, n, c, i, cur, k1, k2, k3, k4, k5⟩ := h.own1 l b e hl
      exact ⟨k0, n, c, i, cur, k1, k2, (hblk b (fun e => by rw [e, h2] at k3; cases k3)).trans k3, k4, k5⟩
    own2 := fun l l' b e e' hl hl' => by rw [con] at hl hl'; exact h.own2 l l' b e e' hl hl'
    mut1 := h.mut1
    mut2 := fun l b e hl => by rw [con] at hl; exact h.mut2 l b e hl
    grow := by rw [hsz]; exact h.grow
    frame := fun b hb hm => (hblk b (by omega)).trans (h.frame b hb hm)
    os := h.os
    tape := h.tape
    output := h.output
    z0 := fun b o hz => ⟨(h.z0 b o hz).1, (hcell b o).trans (h.z0 b o hz).2⟩
    zback := h.zback
    names := h.names
    fresh := h.fresh
    defs := fun d hd' => by rw [hd] at hd'; cases hd'
    dnd := by rw [hd]; exact .nil }
theorem Rel.nodefs {X : Ctx} {φ : Names} {Z : Still} {s : St} {a a' : Act} {w : World} (h : Rel X φ Z s a w) (ha : a'.tmps = a.tmps) (hd : a'.defers = []) : Rel X φ Z s a' w := by
  have con : ∀ l, conAt φ a' w l = conAt φ a w l := fun l => by
    cases l with
    | slot t => simp only [conAt, ha]
    | box id j => rfl
  exact { h with
    size := by rw [ha]; exact h.size
    slots := fun t => by rw [ha]; exact h.slots t
    own1 := fun l b e hl => by rw [con] at hl ⊢; exact h.own1 l b e hl
    own2 := fun l l' b e e' hl hl' => by rw [con] at hl hl'; exact h.own2 l l' b e e' hl hl'
    mut2 := fun l b e hl => by rw [con] at hl; exact h.mut2 l b e hl
    defs := fun d hd' => by rw [hd] at hd'; cases hd'
    dnd := by rw [hd]; exact .nil }
theorem Rel.hrel {X : Ctx} {φ : Names} {Z : Still} {s : St} {a : Act} {w : World} (h : Rel X φ Z s a w) : HRel X.P φ Z s.H s.c w := {
  boxes := h.boxes
  inj := h.inj
  zok := h.zok
  zbox := h.zbox
  own1 := fun id j b e hl => h.own1 (.box id j) b e hl
  own2 := fun id j id' j' b e e' hl hl' => h.own2 (.box id j) (.box id' j') b e e' hl hl'
  fresh := h.fresh }
theorem initS_vr {φ : Names} {Z : Still} {w : World} {args : List A} {vs : Array Value} (h : VRs φ Z w args vs) (n t : Nat) :
    VR φ Z w (initS args t) ((vs ++ Array.replicate n undef).getD t undef) := by
  by_cases ht : t < args.length
  · have := h.2 t ht
    simp only [initS]
    rwa [show (vs ++ Array.replicate n undef).getD t undef = vs.getD t undef by simp [Array.getD_eq_getD_getElem?, Array.getElem?_append, h.1, ht]]
  · simp only [initS]
    rw [show args.getD t .un = .un by simp [List.getD_eq_getElem?_getD, List.getElem?_eq_none (Nat.le_of_not_lt ht)]]
    exact .un _
theorem initS_down {args : List A} (h : ∀ v ∈ args, ∀ u, spareOf v u = none) (t : Nat) (u : Value) : spareOf (initS args t) u = none := by
  by_cases ht : t < args.length
  · exact h _ (mem_getD ht) u
  · simp only [initS]
    rw [show args.getD t .un = .un by simp [List.getD_eq_getElem?_getD, List.getElem?_eq_none (Nat.le_of_not_lt ht)]]
    simp [spareOf]
theorem SCall.of_bodyN {P : Program} {T : Tab} (hT : T.Ok P) {f nt : Nat} {fn : Func} {c : Code} {args : List A} {H : Hp} {c0 : Nat} {post : A → Hp → Nat → Prop}
    (hf : P.funcs[f]? = some fn) (hb : fn.body = some c) (hnt : fn.ntmps = nt) (hn : args.length ≤ nt) (hd : ∀ v ∈ args, ∀ u, spareOf v u = none)
    (h : ∀ E : En, (∀ id, c0 ≤ id → E.φ0 id = none) → Aw (E.cx P nt) none c (retQ P T fn.results.toList post) ⟨initS args, H, c0⟩) : SCall P f args H c0 post := by
  intro φ Z w vs hH hv
  subst hnt
  refine callsIn_wide (n := 0).1 (callsIn_of_wp_marks (F := fenceR none) hf hb trivial ?_ rfl)
  have hrel : Rel (En.cx ⟨w, Mine φ H w, Z, φ⟩ P fn.ntmps) φ Z ⟨initS args, H, c0⟩ { tmps := vs ++ Array.replicate (fn.ntmps - vs.size) undef, defers := [] } w := {
    size := by simp only [Array.size_append, Array.size_replicate, hv.1]; simp only [En.cx]; omega
    slots := fun t => initS_vr hv _ t
    boxes := hH.boxes
    inj := hH.inj
    zok := hH.zok
    zbox := hH.zbox
    own1 := fun l b e hl => by
      cases l with
      | slot t => simp only [absAt] at hl; rw [initS_down hd] at hl; cases hl
      | box id j => exact hH.own1 id j b e hl
    own2 := fun l l' b e e' hl hl' => by
      cases l with
      | slot t => simp only [absAt] at hl; rw [initS_down hd] at hl; cases hl
      | box id j => cases l' with
        | slot t => simp only [absAt] at hl'; rw [initS_down hd] at hl'; cases hl'
        | box id' j' => exact hH.own2 id j id' j' b e e' hl hl'
    mut1 := fun id b hi hb => .inl (.inl ⟨id, hi, hb⟩)
    mut2 := fun l b e hl => by
      cases l with
      | slot t => simp only [absAt] at hl; rw [initS_down hd] at hl; cases hl
      | box id j => exact .inl (.inr ⟨id, j, e, hl⟩)
    grow := Nat.le_refl _
    frame := fun _ _ _ => rfl
    os := rfl
    tape := rfl
    output := rfl
    z0 := fun _ _ hz => ⟨hz, rfl⟩
    zback := fun _ _ hz _ => .inl hz
    names := fun _ _ h => h
    fresh := hH.fresh
    defs := fun d hd' => by cases hd'
    dnd := .nil }
  refine wpIn_mono (h ⟨w, Mine φ H w, Z, φ⟩ hH.fresh φ Z _ w hrel) ?_
  rintro e a' w' ⟨s', φ', Z', hq, hr⟩
  have fin : ∀ vs', ResVs P T s' fn.results.toList vs' → post (tupA vs') s'.H s'.c → LeavesInM (fenceR none) 0 P fn a'.tmps (fun e w'' =>
      ∃ u v H' c' φ' Z', e = .returned u ∧ post v H' c' ∧ VR φ' Z' w'' v u ∧ (∀ u', spareOf v u' = none) ∧ HRel P φ' Z' H' c' w'' ∧ Grew P φ φ' Z Z' H H' w w'') a'.defers .returning w' := by
    intro vs' hvs hp
    refine leaves_marks (n0 := w.heap.size) (φ := φ') (H := s'.H) (fun w'' => Rel (En.cx ⟨w, Mine φ H w, Z, φ⟩ P fn.ntmps) φ' Z' s' { tmps := a'.tmps, defers := [] } w'') (fun w1 r hJ h1 h2 h3 => ?_) (fun w1 hJ => ?_) a'.defers w' hr.defs hr.dnd (hr.nodefs rfl rfl)
    · exact hJ.mark h1 h2 h3 rfl rfl
    · obtain ⟨u, k1, k2, k3⟩ := results_run hT hJ.sees hvs
      refine ⟨u, k1, u, tupA vs', s'.H, s'.c, φ', Z', rfl, hp, k2, k3, hJ.hrel, {
        size := hJ.grow
        frame := hJ.frame
        os := hJ.os
        tape := hJ.tape
        output := hJ.output
        up := hJ.z0
        back := hJ.zback
        names := hJ.names
        mine := fun b hb => by
          rcases hb with ⟨id, h1, h2⟩ | ⟨id, j, e, h1⟩
          · exact hJ.mut1 id b h1 h2
          · exact hJ.mut2 (.box id j) b e h1 }⟩
  cases e with
  | normal => obtain ⟨vs', hvs, hp⟩ := hq; exact fin vs' hvs hp
  | ret => obtain ⟨vs', hvs, hp⟩ := hq; exact fin vs' hvs hp
  | exit id => exact hq.elim
  | goto l => exact hq.elim
  | panic ch => exact hq.elim
  | outgrown => exact hq.elim
theorem Pure.of_scall {P : Program} {f : FuncId} {args : List A} {v : A} (hfree : ∀ x ∈ args, Free x) (h : SCall P f args (fun _ => none) 0 fun v' _ _ => v' = v) (hv : Free v) : Pure P f args v := by
  intro φ Z w vs hz hvs
  have hH : HRel P (fun _ => none) Z (fun _ => none) 0 w := {
    boxes := fun id bx h => by cases h
    inj := fun id id' b h => by cases h
    zok := hz
    zbox := fun b o id _ h => by cases h
    own1 := fun id j b e h => by simp [absAt, spareOf] at h
    own2 := fun id j id' j' b e e' h => by simp [absAt, spareOf] at h
    fresh := fun _ _ => rfl }
  have nm : ∀ b, ¬ Mine (fun _ => none) (fun _ => none) w b := fun b hb => by
    rcases hb with ⟨id, h1, _⟩ | ⟨id, j, e, h1⟩
    · cases h1
    · simp [absAt, spareOf] at h1
  refine (h _ Z w vs hH ⟨hvs.1, fun i hi => (hvs.2 i hi).free (hfree _ (mem_getD hi))⟩).mono ?_
  rintro e w' ⟨u, v', H', c', φ', Z', rfl, rfl, k1, k2, k3, k4⟩
  refine ⟨u, Z', rfl, ⟨⟨k4.size, fun b hb => k4.frame b hb (nm b), k4.os, k4.tape, k4.output⟩, fun b o hz => (k4.up b o hz).1, fun b o hz hb => ?_, fun b o hz _ => k3.zok b o hz⟩, k1.free hv, k2⟩
  rcases k4.back b o hz hb with h1 | h1
  · exact h1
  · exact (nm b h1).elim
end Go.AL

namespace Go.AL
open Go Go.RowKit
def opTmps (op : Op) : List Tmp := op.operands.toList.filterMap fun | .tmp t => some t | _ => none
theorem mem_opTmps {op : Op} {t : Tmp} (h : Operand.tmp t ∈ op.operands.toList) : t ∈ opTmps op := List.mem_filterMap.2 ⟨_, h, rfl⟩
theorem rd_congr {S S' : Slots} {x : Operand} (h : ∀ t, x = .tmp t → S' t = S t) : rd S' x = rd S x := by
  cases x with
  | tmp t => exact h t rfl
  | _ => rfl
theorem rds_congr {S S' : Slots} {xs : List Operand} (h : ∀ t, Operand.tmp t ∈ xs → S' t = S t) : rds S' xs = rds S xs := by
  unfold rds
  refine List.map_congr_left fun x hx => ?_
  rw [rd_congr fun t e => h t (e ▸ hx)]
theorem parts_congr {S S' : Slots} {parts : Array (Nat × Operand)} (h : ∀ x, x ∈ (parts.map (·.2)).toList → rd S' x = rd S x) : (parts.toList.map fun p => (p.1, rd S' p.2)) = parts.toList.map fun p => (p.1, rd S p.2) :=
  List.map_congr_left fun q hq => by rw [h q.2 (by simp only [Array.toList_map, List.mem_map]; exact ⟨q, hq, rfl⟩)]
theorem OpV.congr {P : Program} {T : Tab} {S S' : Slots} {H H' : Hp} {op : Op} {ty : TypeId} {v : A} (h : OpV P T S H op ty v) (hS : ∀ t, t ∈ opTmps op → S' t = S t)
    (hH : ∀ id cs, H id = some (.cells cs) → H' id = some (.cells cs)) : OpV P T S' H' op ty v := by
  have one : ∀ x : Operand, x ∈ op.operands.toList → rd S' x = rd S x := fun x hx => rd_congr fun t e => hS t (mem_opTmps (e ▸ hx))
  have many : ∀ xs : List Operand, (∀ x ∈ xs, x ∈ op.operands.toList) → rds S' xs = rds S xs := fun xs hx => rds_congr fun t ht => hS t (mem_opTmps (hx _ ht))
  cases h with
  | move x ty => rw [← one x (by simp [Op.operands])]; exact .move x ty
  | assign x ty => rw [← one x (by simp [Op.operands])]; exact .assign x ty
  | @pick c a b ty g ga x gb y hc ha hb h1 h2 => exact .pick (by rw [one c (by simp [Op.operands])]; exact hc) (by rw [one a (by simp [Op.operands])]; exact ha) (by rw [one b (by simp [Op.operands])]; exact hb) h1 h2
  | @pickT c a b ty hc => rw [← one a (by simp [Op.operands])]; exact .pickT (by rw [one c (by simp [Op.operands])]; exact hc)
  | @pickF c a b ty hc => rw [← one b (by simp [Op.operands])]; exact .pickF (by rw [one c (by simp [Op.operands])]; exact hc)
  | @not t ty x b hx => exact .not (by rw [one x (by simp [Op.operands])]; exact hx)
  | @neg t ty x n hx hr => exact .neg (by rw [one x (by simp [Op.operands])]; exact hx) hr
  | @arith op t yt ty x y m n v ob hx hy h ho => exact .arith (by rw [one x (by simp [Op.operands])]; exact hx) (by rw [one y (by simp [Op.operands])]; exact hy) h ho
  | @beql t yt ty x y m n ht hx hy => exact .beql ht (by rw [one x (by simp [Op.operands])]; exact hx) (by rw [one y (by simp [Op.operands])]; exact hy)
  | @bneq t yt ty x y m n ht hx hy => exact .bneq ht (by rw [one x (by simp [Op.operands])]; exact hx) (by rw [one y (by simp [Op.operands])]; exact hy)
  | @conc op t yt ty x y ca cb res ha hb h => exact .conc (by rw [one x (by simp [Op.operands])]; exact ha) (by rw [one y (by simp [Op.operands])]; exact hb) h
  | @eqNil t e yt ty x nil cap es ht hx => exact .eqNil ht (by rw [one x (by simp [Op.operands])]; exact hx)
  | @neNil t e yt ty x nil cap es ht hx => exact .neNil ht (by rw [one x (by simp [Op.operands])]; exact hx)
  | @eqNilP t e yt ty x id off ht hx => exact .eqNilP ht (by rw [one x (by simp [Op.operands])]; exact hx)
  | @neNilP t e yt ty x id off ht hx => exact .neNilP ht (by rw [one x (by simp [Op.operands])]; exact hx)
  | @nilRef ty x id off hx => exact .nilRef (by rw [one x (by simp [Op.operands])]; exact hx)
  | @nilPt ty x cs hx => exact .nilPt (by rw [one x (by simp [Op.operands])]; exact hx)
  | @loadPtAgg t ty x cs hx hn ht hl => exact .loadPtAgg (by rw [one x (by simp [Op.operands])]; exact hx) hn ht hl
  | @loadPtOne t ty x cs hx hn ht hl => exact .loadPtOne (by rw [one x (by simp [Op.operands])]; exact hx) hn ht hl
  | @loadRefAgg t ty x id off cs hx hh hn ht hl => exact .loadRefAgg (by rw [one x (by simp [Op.operands])]; exact hx) (hH _ _ hh) hn ht hl
  | @loadRefOne t ty x id off cs hx hh hn ht hl => exact .loadRefOne (by rw [one x (by simp [Op.operands])]; exact hx) (hH _ _ hh) hn ht hl
  | @fieldAgg st ty ft off i x cs fs hx hst hi hn ht hl => exact .fieldAgg (by rw [one x (by simp [Op.operands])]; exact hx) hst hi hn ht hl
  | @fieldOne st ty ft off i x cs fs hx hst hi hn ht hl => exact .fieldOne (by rw [one x (by simp [Op.operands])]; exact hx) hst hi hn ht hl
  | @fieldPt st ty ft off i x cs fs hx hst hi hn hz => exact .fieldPt (by rw [one x (by simp [Op.operands])]; exact hx) hst hi hn hz
  | @fieldRef st ty ft off i id o x fs hx hst hi hn hz => exact .fieldRef (by rw [one x (by simp [Op.operands])]; exact hx) hst hi hn hz
  | @indexOne t ty n e x ix cs i hx hi ht hn he h0 h1 hl => exact .indexOne (by rw [one x (by simp [Op.operands])]; exact hx) (by rw [one ix (by simp [Op.operands])]; exact hi) ht hn he h0 h1 hl
  | @indexAgg t ty n e x ix cs i hx hi ht hn he h0 h1 hl => exact .indexAgg (by rw [one x (by simp [Op.operands])]; exact hx) (by rw [one ix (by simp [Op.operands])]; exact hi) ht hn he h0 h1 hl
  | @elem t ty e x ix nil cap es i hx hi ht hn cs h0 hc hl => exact .elem (by rw [one x (by simp [Op.operands])]; exact hx) (by rw [one ix (by simp [Op.operands])]; exact hi) ht hn h0 hc hl
  | @elemPt t ty n e x ix cs i hx hi ht hn h0 h1 => exact .elemPt (by rw [one x (by simp [Op.operands])]; exact hx) (by rw [one ix (by simp [Op.operands])]; exact hi) ht hn h0 h1
  | @elemRef t ty n e id off x ix i hx hi ht hn h0 h1 => exact .elemRef (by rw [one x (by simp [Op.operands])]; exact hx) (by rw [one ix (by simp [Op.operands])]; exact hi) ht hn h0 h1
  | @elemMs t ty n e id off x ix i hx hi ht hn h0 h1 => exact .elemMs (by rw [one x (by simp [Op.operands])]; exact hx) (by rw [one ix (by simp [Op.operands])]; exact hi) ht hn h0 h1
  | @lenSl t ty e x nil cap es ht hx => exact .lenSl ht (by rw [one x (by simp [Op.operands, Call.operands])]; exact hx)
  | @lenMs t ty e id off n x ht hx => exact .lenMs ht (by rw [one x (by simp [Op.operands, Call.operands])]; exact hx)
  | @lenArr t ty n e x ht => exact .lenArr ht
  | @extract ty i x vs v hx hi => exact .extract (by rw [one x (by simp [Op.operands])]; exact hx) hi
  | makeFunc f fst cap =>
    rw [← many fst.toList (fun x hx => by simp [Op.operands] at hx ⊢; exact .inl hx), ← many cap.toList (fun x hx => by simp [Op.operands] at hx ⊢; exact .inr hx)]
    exact .makeFunc f fst cap
  | @box t ty x hp =>
    rw [← one x (by simp [Op.operands])] at hp ⊢; exact .box hp
  | @build t ty parts fs cs ht hf h => exact .build ht hf (by rw [parts_congr fun x hx => one x (by simpa [Op.operands] using hx)]; exact h)
  | @buildArr t ty n e parts cs ht he h => exact .buildArr ht he (by rw [parts_congr fun x hx => one x (by simpa [Op.operands] using hx)]; exact h)
  | @lit t ty e n parts vs ht he h0 h1 h2 h3 hb =>
    refine .lit ht he h0 h1 ?_ h3 hb
    rw [h2]
    refine List.map_congr_left fun q hq => (one q.2 ?_).symm
    simp only [Op.operands, Array.toList_map, List.mem_map]
    exact ⟨q, hq, rfl⟩
  | @app t ty e x y nil nil2 cap cap2 es ys ht he h0 hx hy hc hs hb hm => exact .app ht he h0 (by rw [one x (by simp [Op.operands, Call.operands])]; exact hx) (by rw [one y (by simp [Op.operands, Call.operands])]; exact hy) hc hs hb hm
  | @min ty args at' m l h =>
    exact .min (by rw [← h]; exact List.map_congr_left fun x hx => one x (by simpa [Op.operands, Call.operands] using hx))
  | @max ty args at' m l h =>
    exact .max (by rw [← h]; exact List.map_congr_left fun x hx => one x (by simpa [Op.operands, Call.operands] using hx))
  | @slice3 t ty e x h m nil cap es n ht hx hh hm he h0 h1 => exact .slice3 ht (by rw [one x (by simp [Op.operands])]; exact hx) (by rw [one h (by simp [Op.operands])]; exact hh) (by rw [one m (by simp [Op.operands])]; exact hm) he h0 h1
  | @sliceHi t ty e x h nil cap es n ht hx hh he h0 h1 => exact .sliceHi ht (by rw [one x (by simp [Op.operands])]; exact hx) (by rw [one h (by simp [Op.operands])]; exact hh) he h0 h1
  | @sliceMs t ty e id off m x h n ht hx hh he h0 h1 => exact .sliceMs ht (by rw [one x (by simp [Op.operands])]; exact hx) (by rw [one h (by simp [Op.operands])]; exact hh) he h0 h1
  | @sliceLo t ty e x lo nil cap es n ht hx hl he h0 h1 hs => exact .sliceLo ht (by rw [one x (by simp [Op.operands])]; exact hx) (by rw [one lo (by simp [Op.operands])]; exact hl) he h0 h1 hs
  | @slicePt t ty n e x cs ht he h1 hm hx hl h0 => exact .slicePt ht he h1 hm (by rw [one x (by simp [Op.operands])]; exact hx) hl h0
  | @sliceArr t ty n e id off x ht he hm hx => exact .sliceArr ht he hm (by rw [one x (by simp [Op.operands])]; exact hx)
  | @call ty g f args at' fst cap v hf he h =>
    refine .call (by rw [one f (by simp [Op.operands, Call.operands])]; exact hf) he ?_
    rw [many args.toList (fun x hx => by simp [Op.operands, Call.operands] at hx ⊢; exact .inr hx)]
    exact h
def guardOf : A → Bool
  | .cnd g _ => g
  | _ => true
def unG : A → A
  | .cnd _ a => a
  | a => a
section
variable {X : Ctx} {T : Tab} {r : Option Nat} {s : St} {ops : Array Oper} {o : Oper} {K : St → Prop}
theorem NewSpare.ok {φ : Names} {Z Z' : Still} {a : Act} {w w' : World} {v : A} {u : Value} (hr : Rel X φ Z s a w) (h : NewSpare X.P w w' Z' v u) (d : Nat) :
    ∀ b e, spareOf v u = some (b, e) → SpareOk X.P s φ Z' w' u b e ∧ (X.M0 b ∨ X.w0.heap.size ≤ b) ∧ ∀ l e', l ≠ Loc.slot d → spareOf (absAt s l) (conAt φ a w l) ≠ some (b, e') :=
  hr.own_new (fun b e hs => by
    obtain ⟨h1, n, c, i, cur, h2, h3, h4, h5, h6⟩ := h b e hs
    exact ⟨h1, fun id hi hb => by have := hr.box_lt hi hb; omega, n, c, i, cur, h2, h3, h4, h5, h6⟩) d
theorem wanted_none (h : o.guard = none) (y : Nat → Option Bool) : Region.wanted o y = true := by simp [Region.wanted, h]
theorem does_val (hT : T.Ok X.P) {d : Nat} {v : A} (hg : o.guard = none) (hd : o.dst = some d) (h : OpV X.P T s.S s.H o.op o.type v) (k : K { s with S := upd s.S d v }) : Does X r ops o s K := by
  intro hdn φ Z a w hr next Q hn
  unfold StepW
  rw [if_pos (wanted_none hg _)]
  refine OpV.sound hT hr.sees h next Q fun u w' Z' m hv hs => ?_
  rw [hd]
  exact hn _ φ Z' _ w' k (hr.put m (hdn d hd) hv (hs.ok hr d))
theorem yielded_of {φ : Names} {Z : Still} {a : Act} {w : World} (hr : Rel X φ Z s a w) {j t : Nat} {g : Bool} (hj : (ops[j]?).bind (·.dst) = some t) (ht : s.S t = .bool g) : yielded ops a.tmps j = some g := by
  have h1 := hr.slots t
  rw [ht] at h1
  have h2 := inv_s h1
  have h3 : a.tmps[t]? = some (.bool g) := by
    cases h : a.tmps[t]? with
    | none => rw [Array.getD_eq_getD_getElem?, h] at h2; cases h2
    | some v => rw [Array.getD_eq_getD_getElem?, h] at h2; simpa using h2
  simp [yielded, hj, h3]
theorem does_valg (hT : T.Ok X.P) {d j t : Nat} {want g : Bool} {v : A} (hg : o.guard = some (j, want)) (hj : (ops[j]?).bind (·.dst) = some t) (ht : s.S t = .bool g) (hd : o.dst = some d)
    (hs : gq g want = true → ∀ t', t' ∈ opTmps o.op → guardOf (s.S t') = true) (h : gq g want = true → OpV X.P T (fun t => unG (s.S t)) s.H o.op o.type v)
    (k : K { s with S := upd s.S d (.cnd (gq g want) v) }) : Does X r ops o s K := by
  intro hdn φ Z a w hr next Q hn
  have hy := yielded_of (ops := ops) hr hj ht
  have hw : Region.wanted o (yielded ops a.tmps) = gq g want := by
    simp only [Region.wanted, hg, hy]
    rw [← gq_eq]
    cases g <;> cases want <;> rfl
  unfold StepW
  rw [hw]
  cases hq : gq g want with
  | true =>
    simp only [if_true]
    have h1 : OpV X.P T (fun t => if t ∈ opTmps o.op then unG (s.S t) else s.S t) s.H o.op o.type v :=
      (h hq).congr (fun t ht => by simp [ht]) (fun _ _ h => h)
    have hsees : Sees φ Z (fun t => if t ∈ opTmps o.op then unG (s.S t) else s.S t) s.H a w := ⟨fun t => by
      show VR φ Z w (if t ∈ opTmps o.op then unG (s.S t) else s.S t) _
      split
      · rename_i hm
        have h2 := hs hq t hm
        have h3 := hr.slots t
        cases hst : s.S t with
        | cnd g' a' =>
          rw [hst] at h2 h3
          cases h3 with
          | cnd _ _ _ h4 _ => exact h4 h2
        | _ => rw [hst] at h3; exact h3
      · exact hr.slots t, hr.boxes, hr.zok⟩
    refine OpV.sound hT hsees h1 next Q fun u w' Z' m hv hsp => ?_
    rw [hd]
    rw [hq] at k
    exact hn _ φ Z' _ w' k (hr.put m (hdn d hd) (.cnd _ _ _ (fun _ => hv) (fun h => by cases h)) (fun b e he => by simp [spareOf] at he))
  | false =>
    simp only [Bool.false_eq_true, if_false]
    rw [hd]
    rw [hq] at k
    exact hn _ φ Z _ w k (hr.put hr.more_refl (hdn d hd) (.cnd _ _ _ (fun h => by cases h) fun _ => rfl) (fun b e he => by simp [spareOf] at he))
end
def forceK {α : Type} : A → (A → α) → α
  | .un, k => k .un
  | .s v, k => k (.s v)
  | .sl n c es, k => k (.sl n c es)
  | .pt cs, k => k (.pt cs)
  | .fn f a b, k => k (.fn f a b)
  | .ref a b, k => k (.ref a b)
  | .ms a b c, k => k (.ms a b c)
  | .gs a b c, k => k (.gs a b c)
  | .mp a, k => k (.mp a)
  | .yl a, k => k (.yl a)
  | .agg cs, k => k (.agg cs)
  | .tup cs, k => k (.tup cs)
  | .cnd g a, k => k (.cnd g a)
theorem forceK_eq {α : Type} (a : A) (k : A → α) : forceK a k = k a := by cases a <;> rfl
structure Ob where
  p : Prop
  chk : Bool
  ok : chk = true → p
def Ob.of (p : Prop) [Decidable p] : Ob := ⟨p, decide p, of_decide_eq_true⟩
instance {n : Int} : Decidable (inR n) := inferInstanceAs (Decidable (_ ∧ _))
def arithL : BinOp → Int → Int → Option (A × List Ob)
  | .add, a, b => some (.int (a + b), [.of (inR (a + b))])
  | .sub, a, b => some (.int (a - b), [.of (inR (a - b))])
  | .mul, a, b => some (.int (a * b), [.of (inR (a * b))])
  | .quo, a, b => some (.int (a.tdiv b), [.of (b ≠ 0 ∧ inR (a.tdiv b))])
  | .rem, a, b => some (.int (a.tmod b), [.of (b ≠ 0)])
  | .and, a, b => some (.int (iand a b), [])
  | .or, a, b => some (.int (ior a b), [])
  | .shl, a, b => some (.int (IntKind.i64.wrap (a * 2 ^ (min b.toNat 64))), [.of (0 ≤ b)])
  | .shr, a, b => some (.int (a.fdiv (2 ^ (min b.toNat 64))), [.of (0 ≤ b)])
  | .eql, a, b => some (.bool (a == b), [])
  | .neq, a, b => some (.bool (a != b), [])
  | .lss, a, b => some (.bool (decide (a < b)), [])
  | .leq, a, b => some (.bool (decide (a ≤ b)), [])
  | .gtr, a, b => some (.bool (decide (a > b)), [])
  | .geq, a, b => some (.bool (decide (a ≥ b)), [])
  | _, _, _ => none
def AllP : List Ob → Prop
  | [] => True
  | p :: l => p.p ∧ AllP l
def allChk : List Ob → Bool
  | [] => true
  | p :: l => p.chk && allChk l
theorem AllP.append {l k : List Ob} : AllP (l ++ k) ↔ AllP l ∧ AllP k := by
  induction l with
  | nil => simp [AllP]
  | cons p l ih => simp [AllP, ih, and_assoc]
theorem arithL_eq {op : BinOp} {a b : Int} {v : A} {l : List Ob} (h : arithL op a b = some (v, l)) : ∃ ob, arithR op a b = some (v, ob) ∧ (AllP l → ob) := by
  cases op <;> simp only [arithL, Option.some.injEq, Prod.mk.injEq, reduceCtorEq] at h <;> obtain ⟨rfl, rfl⟩ := h <;> exact ⟨_, rfl, fun h => by first | exact h.1 | trivial⟩
def sameN : List Nat → List Nat → Bool
  | [], [] => true
  | a :: l, b :: k => Nat.beq a b && sameN l k
  | _, _ => false
theorem sameN_eq : ∀ {l k : List Nat}, sameN l k = true → l = k
  | [], [], _ => rfl
  | [], _ :: _, h => by cases h
  | _ :: _, [], h => by cases h
  | a :: l, b :: k, h => by
    simp only [sameN, Bool.and_eq_true] at h
    rw [Nat.eq_of_beq_eq_true h.1, sameN_eq h.2]
def asInts : List A → Option (List Int)
  | [] => some []
  | .s (.int .i64 n) :: l => match asInts l with | some k => some (n :: k) | none => none
  | _ :: _ => none
theorem asInts_eq : ∀ {l : List A} {k : List Int}, asInts l = some k → l = k.map A.int
  | [], k, h => by simp only [asInts, Option.some.injEq] at h; subst h; rfl
  | v :: l, k, h => by
    unfold asInts at h
    split at h
    · rename_i e; cases e
    · rename_i n l' e
      cases e
      split at h
      · rename_i k' e'; simp only [Option.some.injEq] at h; subst h; rw [asInts_eq e']; rfl
      · cases h
    · cases h
def evV (T : Tab) (S : Slots) (H : Hp) (ht : Option (List A)) : Op → TypeId → Option (A × List Ob)
  | .move x, _ => forceK (rd S x).down fun v => some (v, [])
  | .assign x, _ => forceK (rd S x).down fun v => some (v, [])
  | .pick c a b, _ => match rd S c with
    | .s (.bool g) => match asB (rd S a), asB (rd S b) with
      | some (ga, x), some (gb, y) => some (.bool (cond g x y), [.of (g = true → ga = true), .of (g = false → gb = true)])
      | _, _ => match g with
        | true => forceK (rd S a).down fun v => some (v, [])
        | false => forceK (rd S b).down fun v => some (v, [])
    | _ => none
  | .nilCheck x, _ => match rd S x with
    | .ref id off => some (.ref id off, [])
    | .pt cs => some (.pt cs, [])
    | _ => none
  | .unOp .not _ x, _ => match rd S x with | .s (.bool b) => some (.bool (!b), []) | _ => none
  | .unOp .neg _ x, _ => match rd S x with | .s (.int .i64 n) => some (.int (-n), [.of (inR (-n))]) | _ => none
  | .binOp op t x y _, _ => match rd S x, rd S y with
    | .s (.int .i64 a), .s (.int .i64 b) => arithL op a b
    | .s (.bool a), .s (.bool b) => match op, T.ty t with
      | .eql, .bool => some (.bool (a == b), [])
      | .neq, .bool => some (.bool (!(a == b)), [])
      | _, _ => none
    | .sl nil _ _, _ => match y, T.ty t, op with
      | .const (.slice none 0 0), .slice _, .eql => some (.bool nil, [])
      | .const (.slice none 0 0), .slice _, .neq => some (.bool (!nil), [])
      | _, _, _ => none
    | .ref _ _, _ => match y, T.ty t, op with
      | .const (.pointer none), .ptr _, .eql => some (.bool false, [])
      | .const (.pointer none), .ptr _, .neq => some (.bool true, [])
      | _, _, _ => none
    | a, b => match concA a, concA b with
      | some a, some b => match T.eqv op t x y a b with
        | some (.bool r) => some (.bool r, [])
        | _ => none
      | _, _ => none
  | .load t x, _ => match rd S x, T.ty t with
    | _, .none => none
    | .pt cs, .arr _ _ => some (.agg (cs.take (T.sz t)), [.of (T.sz t ≤ cs.length)])
    | .pt cs, .struct _ => some (.agg (cs.take (T.sz t)), [.of (T.sz t ≤ cs.length)])
    | .pt cs, _ => forceK (cs.getD 0 .un).down fun v => some (v, [.of (0 < cs.length)])
    | .ref id off, ty => match H id with
      | some (.cells cs) => match ty with
        | .arr _ _ => some (.agg (((cs.drop off).take (T.sz t)).map A.down), [.of (off + T.sz t ≤ cs.length)])
        | .struct _ => some (.agg (((cs.drop off).take (T.sz t)).map A.down), [.of (off + T.sz t ≤ cs.length)])
        | _ => forceK (cs.getD off .un).down fun v => some (v, [.of (off < cs.length)])
      | _ => none
    | _, _ => none
  | .field st x i, _ => match rd S x, T.ty st with
    | .agg cs, .struct fs => match fs[i]? with
      | some (ft, off) => match T.ty ft with
        | .none => none
        | .arr _ _ => some (.agg ((cs.drop off).take (T.sz ft)), [.of (off + T.sz ft ≤ cs.length)])
        | .struct _ => some (.agg ((cs.drop off).take (T.sz ft)), [.of (off + T.sz ft ≤ cs.length)])
        | _ => forceK (cs.getD off .un).down fun v => some (v, [.of (off < cs.length)])
      | none => none
    | _, _ => none
  | .fieldAddr st x i, _ => match rd S x, T.ty st with
    | .pt cs, .struct fs => match fs[i]? with
      | some (ft, off) => match T.ty ft, T.sz ft with
        | .none, _ => none
        | _, 0 => none
        | _, _ => some (.pt (cs.drop off), [])
      | none => none
    | .ref id o, .struct fs => match fs[i]? with
      | some (ft, off) => match T.ty ft, T.sz ft with
        | .none, _ => none
        | _, 0 => none
        | _, _ => some (.ref id (o + off), [])
      | none => none
    | _, _ => none
  | .index t x ix, _ => match rd S x, rd S ix, T.ty t with
    | .agg cs, .s (.int .i64 i), .arr n e => match T.ty e with
      | .none => none
      | .arr _ _ => some (.agg ((cs.drop (i.toNat * T.sz e)).take (T.sz e)), [.of (0 ≤ i), .of (i < n), .of (i.toNat * T.sz e + T.sz e ≤ cs.length)])
      | .struct _ => some (.agg ((cs.drop (i.toNat * T.sz e)).take (T.sz e)), [.of (0 ≤ i), .of (i < n), .of (i.toNat * T.sz e + T.sz e ≤ cs.length)])
      | _ => forceK (cs.getD (i.toNat * T.sz e) .un).down fun v => some (v, [.of (0 ≤ i), .of (i < n), .of (i.toNat * T.sz e < cs.length)])
    | _, _, _ => none
  | .indexAddr t x ix, _ => match rd S x, rd S ix, T.ty t with
    | .sl _ _ es, .s (.int .i64 i), .slice e => match T.ty e with
      | .none => none
      | _ => match ht with
        | some cs => some (.pt cs, [.of (0 ≤ i), ⟨es[i.toNat]? = some cs, false, fun h => by cases h⟩, .of (cs.length = T.sz e)])
        | none => match es[i.toNat]? with
          | some cs => some (.pt cs, [.of (0 ≤ i), .of (cs.length = T.sz e)])
          | none => none
    | .pt cs, .s (.int .i64 i), .arr n e => match T.ty e with
      | .none => none
      | _ => some (.pt (cs.drop (i.toNat * T.sz e)), [.of (0 ≤ i), .of (i < n)])
    | .ref id off, .s (.int .i64 i), .arr n e => match T.ty e with
      | .none => none
      | _ => some (.ref id (off + i.toNat * T.sz e), [.of (0 ≤ i), .of (i < n)])
    | .ms id off n, .s (.int .i64 i), .slice e => match T.ty e with
      | .none => none
      | _ => some (.ref id (off + i.toNat * T.sz e), [.of (0 ≤ i), .of (i < n)])
    | _, _, _ => none
  | .call { callee := .builtin b, args, argTypes }, _ => match b with
    | .len => match args.toList, argTypes.toList with
      | [x], [t] => match T.ty t, rd S x with
        | .slice _, .sl _ _ es => some (.int es.length, [])
        | .slice _, .ms _ _ n => some (.int n, [])
        | .arr n _, _ => some (.int n, [])
        | _, _ => none
      | _, _ => none
    | .append => match args.toList, argTypes.toList with
      | [x, y], [t, t'] => match Nat.beq t t', T.ty t with
        | true, .slice e => match T.ty e, T.sz e, rd S x, rd S y with
          | .none, _, _, _ => none
          | _, 0, _, _ => none
          | _, _, .sl nil .exact es, .sl _ _ ys =>
            some (.sl (nil && ys.isEmpty) (.own e) (es ++ ys), [.of (∀ z ∈ es ++ ys, z.length = T.sz e), .of ((es.length + ys.length) * T.by' e ≤ 140737488355328), .of (es.length + ys.length ≤ maxLen)])
          | _, _, .sl true _ es, .sl _ _ ys =>
            some (.sl ys.isEmpty (.own e) (es ++ ys), [.of (∀ z ∈ es ++ ys, z.length = T.sz e), .of ((es.length + ys.length) * T.by' e ≤ 140737488355328), .of (es.length + ys.length ≤ maxLen)])
          | _, _, _, _ => none
        | _, _ => none
      | _, _ => none
    | .min => match asInts (args.toList.map (rd S)) with
      | some (a :: l) => some (.int (l.foldl (fun x y => if y < x then y else x) a), [])
      | _ => none
    | .max => match asInts (args.toList.map (rd S)) with
      | some (a :: l) => some (.int (l.foldl (fun x y => if y > x then y else x) a), [])
      | _ => none
    | _ => none
  | .extract x i, _ => match rd S x with
    | .tup vs => match vs[i]? with | some v => forceK v.down fun v => some (v, []) | none => none
    | _ => none
  | .makeFunc f fst cap, _ => some (.fn f (rds S fst.toList) (rds S cap.toList), [])
  | .box _ x, _ => match okPart (rd S x) with
    | true => some (.pt (cellsA (rd S x)), [])
    | false => none
  | .build t parts, _ => match T.ty t with
    | .struct fs => match fs.all fun x => !decide (T.ty x.1 = .none), fillA (placeS T fs) (T.zr t) (parts.toList.map fun p => (p.1, rd S p.2)) with
      | true, some cs => some (.agg cs, [])
      | _, _ => none
    | .arr _ e => match T.ty e, fillA (fun i => some (i * T.sz e, T.sz e)) (T.zr t) (parts.toList.map fun p => (p.1, rd S p.2)) with
      | .none, _ => none
      | _, some cs => some (.agg cs, [])
      | _, none => none
    | _ => none
  | .buildSlice t n parts, _ => match T.ty t with
    | .slice e => match T.ty e, T.sz e with
      | .none, _ => none
      | _, 0 => none
      | _, _ => match sameN (parts.toList.map (·.1)) (List.range' 0 n), (parts.toList.map fun p => rd S p.2).all fun v => Nat.beq (cellsA v).length (T.sz e) && okPart v with
        | true, true => some (.sl false .exact ((parts.toList.map fun p => rd S p.2).map cellsA), [.of (n * T.sz e ≤ 16777216)])
        | _, _ => none
    | _ => none
  | .slice t x none (some h) (some m), _ => match rd S x, rd S h, rd S m, T.ty t with
    | .sl nil _ es, .s (.int .i64 a), .s (.int .i64 b), .slice e => match T.ty e with
      | .none => none
      | _ => some (.sl nil .exact (es.take a.toNat), [.of (b = a), .of (0 ≤ a), .of (a ≤ es.length)])
    | _, _, _, _ => none
  | .slice t x none (some h) none, _ => match rd S x, rd S h, T.ty t with
    | .sl nil _ es, .s (.int .i64 a), .slice e => match T.ty e with
      | .none => none
      | _ => some (.sl nil .any (es.take a.toNat), [.of (0 ≤ a), .of (a ≤ es.length)])
    | .ms id off m, .s (.int .i64 a), .slice e => match T.ty e with
      | .none => none
      | _ => some (.ms id off a.toNat, [.of (0 ≤ a), .of (a ≤ m)])
    | _, _, _ => none
  | .slice t x (some l) none none, _ => match rd S x, rd S l, T.ty t with
    | .sl nil _ es, .s (.int .i64 a), .slice e => match T.ty e with
      | .none => none
      | _ => some (.sl nil .any (es.drop a.toNat), [.of (0 ≤ a), .of (a ≤ es.length), .of (∀ z ∈ es, z.length = T.sz e)])
    | _, _, _ => none
  | .slice t x none none none, _ => match rd S x, T.ty t with
    | .ref id off, .arr n e => match T.ty e with
      | .none => none
      | _ => some (.ms id off n, [.of (n ≤ maxLen)])
    | .pt cs, .arr n e => match T.ty e, T.sz e with
      | .none, _ => none
      | _, 1 => some (.sl false .exact ((cs.take n).map fun c => [c]), [.of (n ≤ maxLen), .of (n ≤ cs.length), .of (0 < n)])
      | _, _ => none
    | _, _ => none
  | _, _ => none
theorem agg_of {t : Ty} (h1 : ∀ a b, t ≠ .arr a b) (h2 : ∀ a, t ≠ .struct a) : t.isAgg = false := by
  cases t <;> first | rfl | exact absurd rfl (h1 _ _) | exact absurd rfl (h2 _)
theorem one_arg {α : Type} {a : Array α} {x : α} (h : a.toList = [x]) : a = #[x] := by apply Array.ext'; simpa using h
theorem two_arg {α : Type} {a : Array α} {x y : α} (h : a.toList = [x, y]) : a = #[x, y] := by apply Array.ext'; simpa using h
set_option maxHeartbeats 4000000 in
theorem evV_sound {P : Program} {T : Tab} {S : Slots} {H : Hp} {ht : Option (List A)} {op : Op} {ty : TypeId} {v : A} {l : List Ob} (h : evV T S H ht op ty = some (v, l)) (ho : AllP l) : OpV P T S H op ty v := by
  cases op with
  | move x => simp only [evV, forceK_eq, Option.some.injEq, Prod.mk.injEq] at h; obtain ⟨rfl, rfl⟩ := h; exact .move x ty
  | assign x => simp only [evV, forceK_eq, Option.some.injEq, Prod.mk.injEq] at h; obtain ⟨rfl, rfl⟩ := h; exact .assign x ty
  | pick c a b =>
    simp only [evV, forceK_eq] at h
    split at h
    · rename_i h1
      split at h
      · rename_i h2 h3
        simp only [Option.some.injEq, Prod.mk.injEq] at h; obtain ⟨rfl, rfl⟩ := h
        exact .pick h1 h2 h3 ho.1 ho.2.1
      · split at h
        · simp only [Option.some.injEq, Prod.mk.injEq] at h; obtain ⟨rfl, rfl⟩ := h; exact .pickT h1
        · simp only [Option.some.injEq, Prod.mk.injEq] at h; obtain ⟨rfl, rfl⟩ := h; exact .pickF h1
    · cases h
  | unOp op t x =>
    cases op with
    | not =>
      simp only [evV] at h
      split at h
      · rename_i h1; simp only [Option.some.injEq, Prod.mk.injEq] at h; obtain ⟨rfl, rfl⟩ := h; exact .not h1
      · cases h
    | neg =>
      simp only [evV] at h
      split at h
      · rename_i h1; simp only [Option.some.injEq, Prod.mk.injEq] at h; obtain ⟨rfl, rfl⟩ := h; exact .neg h1 ho.1
      · cases h
    | _ => simp [evV] at h
  | binOp op t x y yt =>
    simp only [evV] at h
    split at h
    · rename_i h1 h2
      obtain ⟨ob, h3, h4⟩ := arithL_eq h
      exact .arith h1 h2 h3 (h4 ho)
    · rename_i h1 h2
      split at h
      · rename_i h3; simp only [Option.some.injEq, Prod.mk.injEq] at h; obtain ⟨rfl, rfl⟩ := h; exact .beql h3 h1 h2
      · rename_i h3; simp only [Option.some.injEq, Prod.mk.injEq] at h; obtain ⟨rfl, rfl⟩ := h; exact .bneq h3 h1 h2
      · cases h
    · rename_i h1
      split at h
      · rename_i h3; simp only [Option.some.injEq, Prod.mk.injEq] at h; obtain ⟨rfl, rfl⟩ := h; exact .eqNil h3 h1
      · rename_i h3; simp only [Option.some.injEq, Prod.mk.injEq] at h; obtain ⟨rfl, rfl⟩ := h; exact .neNil h3 h1
      · cases h
    · rename_i h1
      split at h
      · rename_i h3; simp only [Option.some.injEq, Prod.mk.injEq] at h; obtain ⟨rfl, rfl⟩ := h; exact .eqNilP h3 h1
      · rename_i h3; simp only [Option.some.injEq, Prod.mk.injEq] at h; obtain ⟨rfl, rfl⟩ := h; exact .neNilP h3 h1
      · cases h
    · split at h
      · rename_i h1 h2
        split at h
        · rename_i h3; simp only [Option.some.injEq, Prod.mk.injEq] at h; obtain ⟨rfl, rfl⟩ := h; exact .conc h1 h2 h3
        · cases h
      · cases h
  | nilCheck x =>
    simp only [evV] at h
    split at h
    · rename_i h1; simp only [Option.some.injEq, Prod.mk.injEq] at h; obtain ⟨rfl, rfl⟩ := h; exact .nilRef h1
    · rename_i h1; simp only [Option.some.injEq, Prod.mk.injEq] at h; obtain ⟨rfl, rfl⟩ := h; exact .nilPt h1
    · cases h
  | load t x =>
    simp only [evV, forceK_eq] at h
    split at h
    · cases h
    · rename_i h1 h2; simp only [Option.some.injEq, Prod.mk.injEq] at h; obtain ⟨rfl, rfl⟩ := h; exact .loadPtAgg h1 (by simp [h2]) (by simp [h2, Ty.isAgg]) ho.1
    · rename_i h1 h2; simp only [Option.some.injEq, Prod.mk.injEq] at h; obtain ⟨rfl, rfl⟩ := h; exact .loadPtAgg h1 (by simp [h2]) (by simp [h2, Ty.isAgg]) ho.1
    · rename_i h1 h2 h3 h4
      simp only [Option.some.injEq, Prod.mk.injEq] at h; obtain ⟨rfl, rfl⟩ := h
      exact .loadPtOne h1 h2 (agg_of (fun a b e => h3 a b e) (fun a e => h4 a e)) ho.1
    · rename_i h1 h2
      split at h
      · rename_i h3
        split at h
        · rename_i h4; simp only [Option.some.injEq, Prod.mk.injEq] at h; obtain ⟨rfl, rfl⟩ := h; exact .loadRefAgg h1 h3 (by simp [h4]) (by simp [h4, Ty.isAgg]) ho.1
        · rename_i h4; simp only [Option.some.injEq, Prod.mk.injEq] at h; obtain ⟨rfl, rfl⟩ := h; exact .loadRefAgg h1 h3 (by simp [h4]) (by simp [h4, Ty.isAgg]) ho.1
        · rename_i h4 h5
          simp only [Option.some.injEq, Prod.mk.injEq] at h; obtain ⟨rfl, rfl⟩ := h
          exact .loadRefOne h1 h3 h2 (agg_of (fun a b e => h4 a b e) (fun a e => h5 a e)) ho.1
      · cases h
    · cases h
  | field st x i =>
    simp only [evV, forceK_eq] at h
    split at h
    · rename_i h1 h2
      split at h
      · rename_i h3
        split at h
        · cases h
        · rename_i h4; simp only [Option.some.injEq, Prod.mk.injEq] at h; obtain ⟨rfl, rfl⟩ := h; exact .fieldAgg h1 h2 h3 (by simp [h4]) (by simp [h4, Ty.isAgg]) ho.1
        · rename_i h4; simp only [Option.some.injEq, Prod.mk.injEq] at h; obtain ⟨rfl, rfl⟩ := h; exact .fieldAgg h1 h2 h3 (by simp [h4]) (by simp [h4, Ty.isAgg]) ho.1
        · rename_i h4 h5 h6
          simp only [Option.some.injEq, Prod.mk.injEq] at h; obtain ⟨rfl, rfl⟩ := h
          exact .fieldOne h1 h2 h3 h4 (agg_of (fun a b e => h5 a b e) (fun a e => h6 a e)) ho.1
      · cases h
    · cases h
  | fieldAddr st x i =>
    simp only [evV] at h
    split at h
    · rename_i h1 h2
      split at h
      · rename_i h3
        split at h
        · cases h
        · cases h
        · rename_i h4 h5; simp only [Option.some.injEq, Prod.mk.injEq] at h; obtain ⟨rfl, rfl⟩ := h; exact .fieldPt h1 h2 h3 h4 h5
      · cases h
    · rename_i h1 h2
      split at h
      · rename_i h3
        split at h
        · cases h
        · cases h
        · rename_i h4 h5; simp only [Option.some.injEq, Prod.mk.injEq] at h; obtain ⟨rfl, rfl⟩ := h; exact .fieldRef h1 h2 h3 h4 h5
      · cases h
    · cases h
  | index t x ix =>
    simp only [evV, forceK_eq] at h
    split at h
    · rename_i h1 h2 h3
      split at h
      · cases h
      · rename_i h4; simp only [Option.some.injEq, Prod.mk.injEq] at h; obtain ⟨rfl, rfl⟩ := h; exact .indexAgg h1 h2 h3 (by simp [h4]) (by simp [h4, Ty.isAgg]) ho.1 ho.2.1 ho.2.2.1
      · rename_i h4; simp only [Option.some.injEq, Prod.mk.injEq] at h; obtain ⟨rfl, rfl⟩ := h; exact .indexAgg h1 h2 h3 (by simp [h4]) (by simp [h4, Ty.isAgg]) ho.1 ho.2.1 ho.2.2.1
      · rename_i h4 h5 h6
        simp only [Option.some.injEq, Prod.mk.injEq] at h; obtain ⟨rfl, rfl⟩ := h
        exact .indexOne h1 h2 h3 h4 (agg_of (fun a b e => h5 a b e) (fun a e => h6 a e)) ho.1 ho.2.1 ho.2.2.1
    · cases h
  | indexAddr t x ix =>
    simp only [evV] at h
    split at h
    · rename_i h1 h2 h3
      split at h
      · cases h
      · rename_i h4
        split at h
        · simp only [Option.some.injEq, Prod.mk.injEq] at h; obtain ⟨rfl, rfl⟩ := h; exact .elem h1 h2 h3 h4 ho.1 ho.2.1 ho.2.2.1
        · split at h
          · rename_i h5; simp only [Option.some.injEq, Prod.mk.injEq] at h; obtain ⟨rfl, rfl⟩ := h; exact .elem h1 h2 h3 h4 ho.1 h5 ho.2.1
          · cases h
    · rename_i h1 h2 h3
      split at h
      · cases h
      · rename_i h4; simp only [Option.some.injEq, Prod.mk.injEq] at h; obtain ⟨rfl, rfl⟩ := h; exact .elemPt h1 h2 h3 h4 ho.1 ho.2.1
    · rename_i h1 h2 h3
      split at h
      · cases h
      · rename_i h4; simp only [Option.some.injEq, Prod.mk.injEq] at h; obtain ⟨rfl, rfl⟩ := h; exact .elemRef h1 h2 h3 h4 ho.1 ho.2.1
    · rename_i h1 h2 h3
      split at h
      · cases h
      · rename_i h4; simp only [Option.some.injEq, Prod.mk.injEq] at h; obtain ⟨rfl, rfl⟩ := h; exact .elemMs h1 h2 h3 h4 ho.1 ho.2.1
    · cases h
  | call c =>
    obtain ⟨callee, args, at'⟩ := c
    cases callee with
    | builtin b =>
      cases b with
      | len =>
        simp only [evV] at h
        split at h
        · rename_i x t ha ht
          obtain rfl := one_arg ha
          obtain rfl := one_arg ht
          split at h
          · rename_i h1 h2; simp only [Option.some.injEq, Prod.mk.injEq] at h; obtain ⟨rfl, rfl⟩ := h; exact .lenSl h1 h2
          · rename_i h1 h2; simp only [Option.some.injEq, Prod.mk.injEq] at h; obtain ⟨rfl, rfl⟩ := h; exact .lenMs h1 h2
          · rename_i h1; simp only [Option.some.injEq, Prod.mk.injEq] at h; obtain ⟨rfl, rfl⟩ := h; exact .lenArr h1
          · cases h
        · cases h
      | append =>
        simp only [evV] at h
        split at h
        · rename_i x y t t' ha ht
          obtain rfl := two_arg ha
          obtain rfl := two_arg ht
          split at h
          · rename_i h1 h2
            obtain rfl := Nat.eq_of_beq_eq_true h1
            split at h
            · cases h
            · cases h
            · simp only [Option.some.injEq, Prod.mk.injEq] at h; obtain ⟨rfl, rfl⟩ := h
              refine .app h2 (by assumption) (Nat.pos_of_ne_zero (by assumption)) (by assumption) (by assumption) (.inl rfl) ho.1 ho.2.1 ho.2.2.1
            · simp only [Option.some.injEq, Prod.mk.injEq] at h; obtain ⟨rfl, rfl⟩ := h
              have := OpV.app (P := P) (H := H) (ty := ty) (x := x) (y := y) (S := S) (nil := true) h2 (by assumption) (Nat.pos_of_ne_zero (by assumption)) (by assumption) (by assumption) (.inr rfl) ho.1 ho.2.1 ho.2.2.1
              rwa [Bool.true_and] at this
            · cases h
          · cases h
        · cases h
      | min =>
        simp only [evV] at h
        split at h
        · rename_i h1; simp only [Option.some.injEq, Prod.mk.injEq] at h; obtain ⟨rfl, rfl⟩ := h; exact .min (asInts_eq h1)
        · cases h
      | max =>
        simp only [evV] at h
        split at h
        · rename_i h1; simp only [Option.some.injEq, Prod.mk.injEq] at h; obtain ⟨rfl, rfl⟩ := h; exact .max (asInts_eq h1)
        · cases h
      | _ => simp [evV] at h
    | _ => simp [evV] at h
  | extract x i =>
    simp only [evV, forceK_eq] at h
    split at h
    · rename_i h1
      split at h
      · rename_i h2; simp only [Option.some.injEq, Prod.mk.injEq] at h; obtain ⟨rfl, rfl⟩ := h; exact .extract h1 h2
      · cases h
    · cases h
  | makeFunc f fst cap => simp only [evV, Option.some.injEq, Prod.mk.injEq] at h; obtain ⟨rfl, rfl⟩ := h; exact .makeFunc f fst cap
  | box t x =>
    simp only [evV] at h
    split at h
    · rename_i h1; simp only [Option.some.injEq, Prod.mk.injEq] at h; obtain ⟨rfl, rfl⟩ := h; exact .box h1
    · cases h
  | build t parts =>
    simp only [evV] at h
    split at h
    · rename_i h1
      split at h
      · rename_i h2 h3; simp only [Option.some.injEq, Prod.mk.injEq] at h; obtain ⟨rfl, rfl⟩ := h; exact .build h1 h2 h3
      · cases h
    · rename_i h1
      split at h
      · cases h
      · simp only [Option.some.injEq, Prod.mk.injEq] at h; obtain ⟨rfl, rfl⟩ := h; exact .buildArr h1 (by assumption) (by assumption)
      · cases h
    · cases h
  | buildSlice t n parts =>
    simp only [evV] at h
    split at h
    · rename_i h1
      split at h
      · cases h
      · cases h
      · rename_i h2 h3
        split at h
        · rename_i h4 h5
          simp only [Option.some.injEq, Prod.mk.injEq] at h; obtain ⟨rfl, rfl⟩ := h
          exact .lit h1 h2 (Nat.pos_of_ne_zero h3) (sameN_eq h4) rfl h5 ho.1
        · cases h
    · cases h
  | slice t x lo hi mx =>
    cases lo with
    | none =>
      cases hi with
      | none =>
        cases mx with
        | some mx => simp [evV] at h
        | none =>
          simp only [evV] at h
          split at h
          · rename_i h1 h2
            split at h
            · cases h
            · rename_i h3; simp only [Option.some.injEq, Prod.mk.injEq] at h; obtain ⟨rfl, rfl⟩ := h; exact .sliceArr h2 h3 ho.1 h1
          · rename_i h1 h2
            split at h
            · cases h
            · rename_i h4 h3; simp only [Option.some.injEq, Prod.mk.injEq] at h; obtain ⟨rfl, rfl⟩ := h; exact .slicePt h2 h3 h4 ho.1 h1 ho.2.1 ho.2.2.1
            · cases h
          · cases h
      | some hi =>
        cases mx with
        | none =>
          simp only [evV] at h
          split at h
          · rename_i h1 h2 h3
            split at h
            · cases h
            · rename_i h4; simp only [Option.some.injEq, Prod.mk.injEq] at h; obtain ⟨rfl, rfl⟩ := h; exact .sliceHi h3 h1 h2 h4 ho.1 ho.2.1
          · rename_i h1 h2 h3
            split at h
            · cases h
            · rename_i h4; simp only [Option.some.injEq, Prod.mk.injEq] at h; obtain ⟨rfl, rfl⟩ := h; exact .sliceMs h3 h1 h2 h4 ho.1 ho.2.1
          · cases h
        | some mx =>
          simp only [evV] at h
          split at h
          · rename_i h1 h2 h3 h4
            split at h
            · cases h
            · rename_i h5; simp only [Option.some.injEq, Prod.mk.injEq] at h; obtain ⟨rfl, rfl⟩ := h
              have e : _ = _ := ho.1
              subst e
              exact .slice3 h4 h1 h2 h3 h5 ho.2.1 ho.2.2.1
          · cases h
    | some lo =>
      cases hi with
      | some hi => simp [evV] at h
      | none =>
        cases mx with
        | some mx => simp [evV] at h
        | none =>
          simp only [evV] at h
          split at h
          · rename_i h1 h2 h3
            split at h
            · cases h
            · rename_i h4; simp only [Option.some.injEq, Prod.mk.injEq] at h; obtain ⟨rfl, rfl⟩ := h; exact .sliceLo h3 h1 h2 h4 ho.1 ho.2.1 ho.2.2.1
          · cases h
  | _ => simp [evV] at h
def owed (S : Slots) : List Tmp → List Ob
  | [] => []
  | t :: l => match S t with
    | .cnd g _ => .of (g = true) :: owed S l
    | _ => owed S l
theorem owed_ok {S : Slots} : ∀ {l : List Tmp}, AllP (owed S l) → ∀ t, t ∈ l → guardOf (S t) = true
  | [], _, t, ht => by simp at ht
  | t' :: l, h, t, ht => by
    unfold owed at h
    split at h
    · rename_i g a e
      rcases List.mem_cons.1 ht with rfl | ht
      · rw [e]; exact h.1
      · exact owed_ok h.2 t ht
    · rename_i e
      rcases List.mem_cons.1 ht with rfl | ht
      · cases h1 : S t with
        | cnd g a => exact absurd h1 (e g a)
        | _ => rfl
      · exact owed_ok h t ht
def under (g : Bool) : List Ob → List Ob
  | [] => []
  | p :: l => ⟨g = true → p.p, !g || p.chk, fun h hg => p.ok (by subst hg; simpa using h)⟩ :: under g l
theorem under_ok {g : Bool} : ∀ {l : List Ob}, AllP (under g l) → g = true → AllP l
  | [], _, _ => trivial
  | _ :: l, h, hg => ⟨h.1 hg, under_ok h.2 hg⟩
def asks (S : Slots) : Op → Bool
  | .indexAddr _ x _ => match rd S x with | .sl .. => true | .cnd _ (.sl ..) => true | _ => false
  | _ => false
def runS (T : Tab) (ops : Array Oper) (H : Hp) : Nat → List Oper → Slots → List (List A) → List Ob → List Oper × Slots × List Ob
  | 0, l, S, hs, ob => (l, S, ob)
  | _, [], S, hs, ob => ([], S, ob)
  | n + 1, o :: l, S, hs, ob => match o.guard, o.dst with
    | none, some d => match evV T S H hs.head? o.op o.type with
      | some (v, p) => runS T ops H n l (upd S d v) (cond (asks S o.op) hs.tail hs) (p ++ ob)
      | none => (o :: l, S, ob)
    | some (j, want), some d => match (ops[j]?).bind (·.dst) with
      | some t => match S t with
        | .s (.bool g) => match evV T (fun t => unG (S t)) H hs.head? o.op o.type with
          | some (v, p) => runS T ops H n l (upd S d (.cnd (gq g want) v)) (cond (asks S o.op) hs.tail hs) (under (gq g want) (owed S (opTmps o.op)) ++ (under (gq g want) p ++ ob))
          | none => (o :: l, S, ob)
        | _ => (o :: l, S, ob)
      | none => (o :: l, S, ob)
    | _, none => (o :: l, S, ob)
theorem RegL.run {X : Ctx} {T : Tab} {r : Option Nat} {ops : Array Oper} {K : St → Prop} (hT : T.Ok X.P) : ∀ (n : Nat) {l l' : List Oper} {S S' : Slots} {H : Hp} {c : Nat} {hs : List (List A)} {ob ob' : List Ob},
    runS T ops H n l S hs ob = (l', S', ob') → AllP ob' → (AllP ob ∧ (RegL X r ops l' ⟨S', H, c⟩ K → RegL X r ops l ⟨S, H, c⟩ K)) := by
  intro n
  induction n with
  | zero => intro l l' S S' H c hs ob ob' h ho; simp only [runS, Prod.mk.injEq] at h; obtain ⟨rfl, rfl, rfl⟩ := h; exact ⟨ho, id⟩
  | succ n ih =>
    intro l l' S S' H c hs ob ob' h ho
    cases l with
    | nil => simp only [runS, Prod.mk.injEq] at h; obtain ⟨rfl, rfl, rfl⟩ := h; exact ⟨ho, id⟩
    | cons o l =>
      have stay : (o :: l, S, ob) = (l', S', ob') → AllP ob ∧ (RegL X r ops l' ⟨S', H, c⟩ K → RegL X r ops (o :: l) ⟨S, H, c⟩ K) := fun e => by
        simp only [Prod.mk.injEq] at e; obtain ⟨rfl, rfl, rfl⟩ := e; exact ⟨ho, id⟩
      simp only [runS] at h
      split at h
      · rename_i d hg hd
        split at h
        · rename_i v p hev
          obtain ⟨h1, h2⟩ := ih (c := c) h ho
          rw [AllP.append] at h1
          exact ⟨h1.2, fun k => does_val hT hg hd (evV_sound hev h1.1) (h2 k)⟩
        · exact stay h
      · rename_i j want d hg hd
        split at h
        · rename_i t hj
          split at h
          · rename_i g hS
            split at h
            · rename_i v p hev
              obtain ⟨h1, h2⟩ := ih (c := c) h ho
              rw [AllP.append, AllP.append] at h1
              exact ⟨h1.2.2, fun k => does_valg hT hg hj hS hd (fun hq => owed_ok (under_ok h1.1 hq)) (fun hq => evV_sound hev (under_ok h1.2.1 hq)) (h2 k)⟩
            · exact stay h
          · exact stay h
        · exact stay h
      · exact stay h
theorem RegL.go {X : Ctx} {T : Tab} {r : Option Nat} {ops : Array Oper} {K : St → Prop} (hT : T.Ok X.P) (n : Nat) {l l' : List Oper} {S S' : Slots} {H : Hp} {c : Nat} (hs : List (List A)) {ob' : List Ob}
    (h : runS T ops H n l S hs [] = (l', S', ob')) (ho : AllP ob') (k : RegL X r ops l' ⟨S', H, c⟩ K) : RegL X r ops l ⟨S, H, c⟩ K := (RegL.run hT n h ho).2 k
end Go.AL

namespace Go.AL
open Go Go.RowKit
def valSame : Value → Value → Bool
  | .int j a, .int k b => j == k && a == b
  | .bool a, .bool b => a == b
  | .pointer none, .pointer none => true
  | .map none, .map none => true
  | .nilFunc, .nilFunc => true
  | .string a, .string b => decide (a = b)
  | _, _ => false
theorem valSame_eq {a b : Value} (h : valSame a b = true) : a = b ∧ b.oneCell' = true := by
  unfold valSame at h
  split at h
  · simp only [Bool.and_eq_true, beq_iff_eq] at h; obtain ⟨rfl, rfl⟩ := h; exact ⟨rfl, rfl⟩
  · simp only [beq_iff_eq] at h; subst h; exact ⟨rfl, rfl⟩
  · exact ⟨rfl, rfl⟩
  · exact ⟨rfl, rfl⟩
  · exact ⟨rfl, rfl⟩
  · exact ⟨by rw [of_decide_eq_true h], rfl⟩
  · cases h
def cellSame : A → Value → Bool
  | .s a, b => valSame a b
  | .sl true .exact [], .slice none 0 0 => true
  | _, _ => false
theorem cellSame_ok {a : A} {v : Value} (h : cellSame a v = true) : v.oneCell' = true ∧ (∀ φ Z w, VR φ Z w a v) ∧ ∀ u, spareOf a u = none := by
  unfold cellSame at h
  split at h
  · obtain ⟨rfl, h2⟩ := valSame_eq h; exact ⟨h2, fun _ _ _ => .s _, fun u => by simp [spareOf]⟩
  · exact ⟨rfl, fun _ _ _ => .nil _, fun u => by simp [spareOf]⟩
  · cases h
def Ty.chk : Ty → Option TypeDesc → Bool
  | .none, _ => true
  | .int, some (.int .i64) => true
  | .bool, some .bool => true
  | .slice e, some (.slice e') => e == e'
  | .arr n e, some (.array n' e') => n == n' && e == e'
  | .struct fs, some (.struct F) => F.size == fs.length && (List.range fs.length).all fun i => match fs[i]?, F[i]? with
    | some x, some f => f.type == x.1 && f.offset == x.2 && f.name != "_"
    | _, _ => false
  | .map k e, some (.map k' e') => k == k' && e == e'
  | .ptr e, some (.pointer e') => e == e'
  | .func, some (.func _ _ _) => true
  | .str, some .string => true
  | .num k, some (.int k') => decide (k = k')
  | _, _ => false
theorem Ty.chk_ok {P : Program} {t : Ty} {d : Option TypeDesc} (h : t.chk d = true) : t.fits P d := by
  unfold Ty.chk at h
  split at h <;> simp only [Ty.fits] <;> first
    | trivial
    | (cases h; done)
    | (simp only [Bool.and_eq_true, beq_iff_eq] at h; obtain ⟨rfl, rfl⟩ := h; rfl)
    | (simp only [beq_iff_eq] at h; subst h; rfl)
    | rfl
    | (have h := of_decide_eq_true h; subst h; rfl)
    | exact ⟨_, _, _, rfl⟩
    | skip
  · rename_i fs F
    simp only [Bool.and_eq_true, beq_iff_eq] at h
    refine ⟨F, rfl, h.1, fun i ft off hi => ?_⟩
    have hlt := (List.getElem?_eq_some_iff.1 hi).1
    have := List.all_eq_true.1 h.2 i (by simpa using hlt)
    rw [hi] at this
    cases hF : F[i]? with
    | none => rw [hF] at this; cases this
    | some f =>
      rw [hF] at this
      simp only [Bool.and_eq_true, beq_iff_eq, bne_iff_ne] at this
      exact ⟨f, rfl, this.1.1, this.1.2, this.2⟩
def zeroChk (t : Ty) (n : Nat) (cs : List A) (z : Value) : Bool :=
  z.cells.size == n && cs.length == n && (match t.isAgg, z with | true, .agg _ => true | false, .agg _ => false | false, .tuple _ => false | false, _ => true | _, _ => false) &&
  (List.range n).all fun j => cellSame (cs.getD j .un) (z.cells.getD j undef)
theorem zeroChk_ok {t : Ty} {n : Nat} {cs : List A} {z : Value} (h : zeroChk t n cs z = true) : zeroFits t n cs z := by
  simp only [zeroChk, Bool.and_eq_true, beq_iff_eq] at h
  obtain ⟨⟨⟨h1, h2⟩, h3⟩, h4⟩ := h
  refine ⟨h1, h2, fun ha => ?_, fun ha => ?_, fun j hj => cellSame_ok (List.all_eq_true.1 h4 j (by simpa using hj))⟩
  · rw [ha] at h3
    split at h3 <;> first | exact ⟨_, rfl⟩ | cases h3 | (rename_i e; cases e)
    all_goals first | exact ⟨_, rfl⟩ | simp_all
  · rw [ha] at h3
    cases z <;> first | rfl | (simp at h3)
def Tab.chkAt (T : Tab) (P : Program) (t : Nat) : Bool :=
  match T.ty t with
  | .none => true
  | ty => ty.chk (P.underlying t) && match P.info? t with
    | some i => i.size == T.sz t && i.bytes == T.by' t && match i.zero with
      | some z => zeroChk ty (T.sz t) (T.zr t) z
      | none => false
    | none => false
theorem Tab.ok_of {T : Tab} {P : Program} {N : Nat} (h : ((List.range N).all fun t => T.chkAt P t) = true) (hN : ∀ t, N ≤ t → T.ty t = .none) (hq : T.eqv = pureEq P) (hq2 : T.fix = findIx P) (hq3 : T.ck = keyOk P) : T.Ok P := by
  have key : ∀ t, T.chkAt P t = true := fun t => by
    by_cases ht : t < N
    · exact List.all_eq_true.1 h t (by simpa using ht)
    · simp [Tab.chkAt, hN t (by omega)]
  have spl : ∀ t, T.ty t ≠ .none → (T.ty t).chk (P.underlying t) = true ∧ ∃ i, P.info? t = some i ∧ i.size = T.sz t ∧ i.bytes = T.by' t ∧ ∃ z, i.zero = some z ∧ zeroChk (T.ty t) (T.sz t) (T.zr t) z = true := fun t ht => by
    have := key t
    unfold Tab.chkAt at this
    split at this
    · rename_i e; exact absurd e ht
    · simp only [Bool.and_eq_true] at this
      refine ⟨this.1, ?_⟩
      have h2 := this.2
      cases hi : P.info? t with
      | none => rw [hi] at h2; cases h2
      | some i =>
        rw [hi] at h2
        simp only [Bool.and_eq_true, beq_iff_eq] at h2
        refine ⟨i, rfl, h2.1.1, h2.1.2, ?_⟩
        cases hz : i.zero with
        | none => rw [hz] at h2; cases h2.2
        | some z => rw [hz] at h2; exact ⟨z, rfl, h2.2⟩
  refine ⟨hq, hq2, hq3, ?_, ?_⟩
  · intro t
    by_cases ht : T.ty t = .none
    · rw [ht]; trivial
    · exact Ty.chk_ok (spl t ht).1
  · intro t ht
    obtain ⟨_, i, h1, h2, h3, z, h4, h5⟩ := spl t ht
    exact ⟨i, h1, h2, h3, z, h4, zeroChk_ok h5⟩
end Go.AL

namespace Go.AL
open Go Go.RowKit
section
variable {X : Ctx} {T : Tab} {r : Option Nat} {s : St} {Q : Exit → St → Prop}
theorem Aw.er (hT : T.Ok X.P) {id : Nat} {ops : Array Oper} {S' : Slots} {ob : List Ob} (hs : List (List A)) (hd : dstsOk X.nt ops = true)
    (h : runS T ops s.H 999 ops.toList s.S hs [] = ([], S', ob)) (ho : AllP ob) (k : Q .normal ⟨S', s.H, s.c⟩) : Aw X r (.region id ops false) Q s :=
  Aw.region hd (RegL.go hT 999 hs h ho k)
theorem Aw.ss {id : Nat} {ops : Array Oper} {y : Code} (hd : dstsOk X.nt ops = true) (h : RegL X r ops ops.toList s (Aw X r y Q)) : Aw X r (.seq (.region id ops false) y) Q s :=
  Aw.seq (Aw.region hd (RegL.mono (fun _ h => h) _ h))
theorem Aw.es {id : Nat} {ops : Array Oper} (hd : dstsOk X.nt ops = true) (h : RegL X r ops ops.toList s (Q .normal)) : Aw X r (.region id ops false) Q s := Aw.region hd h
theorem Aw.cut {x y : Code} (R : St → Prop) (h1 : Aw X r x (thenQ R Q) s) (h2 : ∀ s', R s' → Aw X r y Q s') : Aw X r (.seq x y) Q s :=
  Aw.seq (h1.mono fun e s' h => by cases e <;> first | exact h2 _ h | exact h)
theorem RegL.val (hT : T.Ok X.P) {ops : Array Oper} {l : List Oper} {K : St → Prop} {d : Nat} {op : Op} {ty : TypeId} {p : String} {af : Array Edge} {v : A}
    (h : OpV X.P T s.S s.H op ty v) (k : RegL X r ops l ⟨upd s.S d v, s.H, s.c⟩ K) : RegL X r ops (⟨some d, op, ty, p, af, none⟩ :: l) s K := does_val hT rfl rfl h k
def ofL : List (Nat × A) → Slots
  | [] => fun _ => .un
  | (t, v) :: l => upd (ofL l) t v
def AllEq (S : Slots) : List (Nat × A) → Prop
  | [] => True
  | (t, v) :: l => S t = v ∧ AllEq S l
theorem AllEq.le {S : Slots} : ∀ {l : List (Nat × A)}, AllEq S l → ∀ t, A.Le (ofL l t) (S t)
  | [], _, t => .un _
  | (t', v) :: l, h, t => by
    simp only [ofL, upd_apply]
    split
    · rename_i e; subst e; rw [h.1]; exact .refl _
    · exact AllEq.le h.2 t
end
theorem all1 {p : A → Prop} {a : A} (h : p a) : ∀ x ∈ [a], p x := fun x hx => by simp at hx; subst hx; exact h
theorem allC {p : A → Prop} {a : A} {l : List A} (h : p a) (k : ∀ x ∈ l, p x) : ∀ x ∈ a :: l, p x := fun x hx => by
  rcases List.mem_cons.1 hx with rfl | hx
  · exact h
  · exact k x hx
theorem allN {p : A → Prop} : ∀ x ∈ ([] : List A), p x := fun x hx => by simp at hx
end Go.AL

namespace Go.AL
open Go Go.RowKit
def DoesR (X : Ctx) (r : Option Nat) (o : Oper) (s : St) (K : St → Prop) : Prop :=
  (∀ d, o.dst = some d → d < X.nt) → ∀ φ Z a w, Rel X φ Z s a w → ∀ next Q, (∀ s' φ' Z' a' w', K s' → Rel X φ' Z' s' a' w' → next a' w') → o.wpIn (fenceR r) 0 X.P a w next Q
def DoesP (X : Ctx) (r : Option Nat) (o : Oper) (s : St) (K : St → Prop) : Prop :=
  (∀ d, o.dst = some d → d < X.nt) → ∀ φ Z a w, Rel X φ Z s a w → ∀ next Q, (∀ s' Z' a' w', K s' → Rel X φ Z' s' a' w' → next a' w') → o.wpIn (fenceR r) 0 X.P a w next Q
theorem DoesP.toR {X : Ctx} {r : Option Nat} {o : Oper} {s : St} {K : St → Prop} (h : DoesP X r o s K) : DoesR X r o s K :=
  fun hd φ Z a w hr next Q hn => h hd φ Z a w hr next Q fun s' Z' a' w' => hn s' φ Z' a' w'
section
variable {X : Ctx} {T : Tab} {r : Option Nat} {s : St} {ops : Array Oper} {o : Oper} {K : St → Prop}
theorem Does.raw (hg : o.guard = none) (h : DoesR X r o s K) : Does X r ops o s K := by
  intro hdn φ Z a w hr next Q hn
  unfold StepW
  rw [if_pos (wanted_none hg _)]
  exact h hdn φ Z a w hr next Q hn
def gv : A → Bool → Option Bool
  | .s (.bool g), want => some (gq g want)
  | .cnd g1 (.s (.bool g)), want => some (cond g1 (gq g want) false)
  | _, _ => none
theorem wanted_of {φ : Names} {Z : Still} {a : Act} {w : World} (hr : Rel X φ Z s a w) {j t : Nat} {want g : Bool} (hg : o.guard = some (j, want)) (hj : (ops[j]?).bind (·.dst) = some t) (ht : s.S t = .bool g) :
    Region.wanted o (yielded ops a.tmps) = gq g want := by
  simp only [Region.wanted, hg, yielded_of (ops := ops) hr hj ht]
  rw [← gq_eq]
  cases g <;> cases want <;> rfl
theorem some_gq (g w : Bool) : (some g == some w) = gq g w := by cases g <;> cases w <;> rfl
theorem wanted_gv {φ : Names} {Z : Still} {a : Act} {w : World} (hr : Rel X φ Z s a w) {j t : Nat} {want q : Bool} (hg : o.guard = some (j, want)) (hj : (ops[j]?).bind (·.dst) = some t) (ht : gv (s.S t) want = some q) :
    Region.wanted o (yielded ops a.tmps) = q := by
  unfold gv at ht
  split at ht
  · rename_i g hst
    simp only [Option.some.injEq] at ht
    subst ht
    exact wanted_of hr hg hj hst
  · rename_i g1 g hst
    simp only [Option.some.injEq] at ht
    subst ht
    have h1 := hr.slots t
    rw [hst] at h1
    cases h1 with
    | cnd _ _ _ h2 h0 =>
      cases g1 with
      | true =>
        have h3 := inv_s (h2 rfl)
        have h4 : a.tmps[t]? = some (.bool g) := by
          cases h : a.tmps[t]? with
          | none => rw [Array.getD_eq_getD_getElem?, h] at h3; cases h3
          | some v => rw [Array.getD_eq_getD_getElem?, h] at h3; simpa using h3
        simp only [Region.wanted, hg, yielded, hj, Option.bind_some, h4]
        exact some_gq _ _
      | false =>
        have h3 := h0 rfl
        have h4 : yielded ops a.tmps j = none := by
          unfold yielded
          rw [hj, Option.bind_some]
          cases h : a.tmps[t]? with
          | none => rfl
          | some v =>
            rw [Array.getD_eq_getD_getElem?, h] at h3
            simp only [Option.getD_some] at h3
            subst h3; rfl
        simp only [Region.wanted, hg, h4]
        rfl
  · cases ht
theorem Does.rawT {j t : Nat} {want g : Bool} (hg : o.guard = some (j, want)) (hj : (ops[j]?).bind (·.dst) = some t) (ht : s.S t = .bool g) (hq : gq g want = true) (h : DoesR X r o s K) : Does X r ops o s K := by
  intro hdn φ Z a w hr next Q hn
  unfold StepW
  rw [if_pos (by rw [wanted_of hr hg hj ht, hq])]
  exact h hdn φ Z a w hr next Q hn
def putUn (S : Slots) : Option Nat → Slots
  | some d => upd S d .un
  | none => S
theorem Does.rawF {j t : Nat} {want g : Bool} (hg : o.guard = some (j, want)) (hj : (ops[j]?).bind (·.dst) = some t) (ht : s.S t = .bool g) (hq : gq g want = false) (k : K { s with S := putUn s.S o.dst }) : Does X r ops o s K := by
  intro hdn φ Z a w hr next Q hn
  unfold StepW
  rw [if_neg (by rw [wanted_of hr hg hj ht, hq]; simp)]
  cases hd : o.dst with
  | none => rw [hd] at k; exact hn _ φ Z _ w k hr
  | some d => rw [hd] at k; exact hn _ φ Z _ w k (hr.put_down hr.more_refl (hdn d hd) (.un _) (fun p => by simp [spareOf]))
theorem DoesP.val (hT : T.Ok X.P) {d : Nat} {v : A} (hd : o.dst = some d) (h : OpV X.P T s.S s.H o.op o.type v) (k : K { s with S := upd s.S d v }) : DoesP X r o s K := by
  intro hdn φ Z a w hr next Q hn
  refine OpV.sound hT hr.sees h next Q fun u w' Z' m hv hs => ?_
  rw [hd]
  exact hn _ Z' _ w' k (hr.put m (hdn d hd) hv (hs.ok hr d))
end
section
variable {X : Ctx} {φ : Names} {Z : Still} {s : St} {a : Act} {w : World}
theorem getD_map_dn {cs : List A} {j : Nat} : (cs.map A.down).getD j .un = (cs.getD j .un).down := by
  by_cases h : j < cs.length
  · exact getD_map_down h
  · simp [List.getD_eq_getElem?_getD, List.getElem?_eq_none (show cs.length ≤ j by omega), A.down]
theorem VRc.down {cs : List A} {vs : Array Value} (h : VRc φ Z w cs vs) : VRc φ Z w (cs.map A.down) vs :=
  ⟨by rw [h.1]; simp, fun i hi => ⟨(h.2 i (by simpa using hi)).1, by rw [getD_map_dn]; exact (h.2 i (by simpa using hi)).2.down⟩⟩
theorem Rel.newCells (h : Rel X φ Z s a w) {cs : List A} {vs : Array Value} {ty : TypeId} {d nm c' : Nat} (hd : d < X.nt) (hnm : φ nm = none) (hc' : s.c ≤ c') (hlt : nm < c') (hv : VRc φ Z w cs vs)
    {x : A} {u : Value} (hx : VR (fun i => cond (Nat.beq i nm) (some w.heap.size) (φ i)) Z (w.alloc (.cells vs ty)) x u) (hs : ∀ p, spareOf x u ≠ some p) :
    Rel X (fun i => cond (Nat.beq i nm) (some w.heap.size) (φ i)) Z ⟨upd s.S d x, updH s.H nm (some (.cells (cs.map A.down))), c'⟩ (a.put (some d) u) (w.alloc (.cells vs ty)) := by
  have m : More w (w.alloc (.cells vs ty)) Z Z := ⟨Quiet.alloc _ _, fun _ _ h => h, fun _ _ h _ => h, fun b o hz hb => by have := h.zlt hz; omega⟩
  have up : ∀ id b, φ id = some b → (fun i => cond (Nat.beq i nm) (some w.heap.size) (φ i)) id = some b := fun id b hid => by
    have : id ≠ nm := fun e => by rw [e, hnm] at hid; cases hid
    simp [beq_no this, hid]
  have h1 := h.newBox (bx := .cells (cs.map A.down)) (b := w.heap.size) m hnm hc' hlt (Nat.le_refl _) (fun o hz => by have := h.zlt hz; omega)
    ⟨vs, ty, heap_alloc_new w _, by rw [hv.1]; simp, fun j hj => by
      have h2 := hv.down.2 j hj
      exact ⟨h2.2.mono up (fun _ _ h => h) (fun b o hz => m.quiet.cell (h.zlt hz)), h2.1⟩⟩
    (fun j v p => by simp only [cellOf, getD_map_dn]; exact spare_dn _ _ _)
  exact h1.put_down h1.more_refl hd hx hs
theorem setRow_cell {b o : Nat} {c cs : Array Value} {ty : TypeId} (h : w.heap[b]? = some (.cells c ty (0, 0))) : (w.setRow b cs).cell? ⟨b, o, none⟩ = cs[o]? := by
  simp only [World.cell?, setRow_heap w b c cs ty _ h, Option.isSome_none, Bool.false_eq_true, if_false]
theorem Rel.setCells (h : Rel X φ Z s a w) {id b off : Nat} {cs vs : List A} {us : Array Value} (hi : s.H id = some (.cells cs)) (hb : φ id = some b) (hv : VRc φ Z w vs us) (hle : off + vs.length ≤ cs.length)
    (ho : ∀ j b1 e, j < vs.length → spareOf (vs.getD j .un) (us.getD j undef) = some (b1, e) → SpareOk X.P s φ Z w (us.getD j undef) b1 e ∧ (X.M0 b1 ∨ X.w0.heap.size ≤ b1) ∧ vs.length = 1 ∧
      ∀ l e', spareOf (absAt s l) (conAt φ a w l) ≠ some (b1, e')) :
    ∃ c ty, w.heap[b]? = some (.cells c ty (0, 0)) ∧ off + us.size ≤ c.size ∧
      Rel X φ Z { s with H := updH s.H id (some (.cells (setSeg cs off vs))) } a (w.setRow b (c.toList.take off ++ us.toList ++ c.toList.drop (off + us.toList.length)).toArray) := by
  obtain ⟨c, ty, hblk, hlen, hc⟩ := h.bl hi hb
  have hsz : off + us.size ≤ c.size := by rw [hv.1]; omega
  refine ⟨c, ty, hblk, hsz, ?_⟩
  generalize hw' : w.setRow b (c.toList.take off ++ us.toList ++ c.toList.drop (off + us.toList.length)).toArray = w'
  have hget : ∀ k, (c.toList.take off ++ us.toList ++ c.toList.drop (off + us.toList.length)).toArray[k]? = if off ≤ k ∧ k < off + us.size then us[k - off]? else c[k]? := fun k => by
    have e1 : (c.toList.take off).length = off := by simp; omega
    have e2 : (c.toList.take off ++ us.toList).length = off + us.size := by simp; omega
    rw [List.getElem?_toArray]
    by_cases h1 : k < off
    · rw [if_neg (by omega), List.getElem?_append_left (by omega), List.getElem?_append_left (by omega), List.getElem?_take, if_pos h1]; simp
    · by_cases h2 : k < off + us.size
      · rw [if_pos ⟨by omega, h2⟩, List.getElem?_append_left (by omega), List.getElem?_append_right (by omega), e1]; simp
      · rw [if_neg (by omega), List.getElem?_append_right (by omega), e2, List.getElem?_drop, Array.length_toList, show off + us.size + (k - (off + us.size)) = k by omega]; simp
  have hcell : ∀ k, w'.cell? ⟨b, k, none⟩ = if off ≤ k ∧ k < off + us.size then us[k - off]? else c[k]? := fun k => by
    rw [← hw', setRow_cell hblk, hget]
  have hold : ∀ k, w.cell? ⟨b, k, none⟩ = c[k]? := fun k => by simp only [World.cell?, hblk, Option.isSome_none, Bool.false_eq_true, if_false]
  have q : At w w' b Z := by
    subst hw'
    refine ⟨by simp, fun k hk => setRow_other w b k _ hk, rfl, rfl, rfl, fun b1 o1 hz => ?_⟩
    have hne : b1 ≠ b := fun e => h.zbox b1 o1 id hz (by simp [hi]) (e ▸ hb)
    exact World.cell?_of_block (w := w) (setRow_other w b b1 _ hne)
  have hcs : ∀ k, (setSeg cs off vs).getD k .un = if off ≤ k ∧ k < off + us.size then vs.getD (k - off) .un else cs.getD k .un := fun k => by rw [setSeg_getD hle, hv.1]
  refine h.setBox hi hb q ⟨_, ty, by rw [← hw']; exact setRow_heap w b c _ ty _ hblk, ?_, fun j hj => ?_⟩ fun j b1 e hs => ?_
  · rw [setSeg_len hle]; simp; omega
  · rw [setSeg_len hle] at hj
    have hg : ((c.toList.take off ++ us.toList ++ c.toList.drop (off + us.toList.length)).toArray).getD j undef = if off ≤ j ∧ j < off + us.size then us.getD (j - off) undef else c.getD j undef := by
      rw [Array.getD_eq_getD_getElem?, hget]
      split <;> rw [Array.getD_eq_getD_getElem?]
    rw [hg, hcs]
    have up := fun {x : A} {v : Value} (hx : VR φ Z w x v) => hx.mono (φ' := φ) (Z' := Z) (w' := w') (fun _ _ h => h) (fun _ _ h => h) (fun b o hz => q.cells b o hz)
    split
    · have := hv.2 (j - off) (by rw [← hv.1]; omega); exact ⟨up this.2, this.1⟩
    · have := hc j (by omega); exact ⟨up this.1, this.2⟩
  · simp only [cellOf] at hs ⊢
    rw [hcs, hcell] at hs
    by_cases hin : off ≤ j ∧ j < off + us.size
    · right
      rw [if_pos hin, if_pos hin] at hs
      have e1 : (us[j - off]?).getD undef = us.getD (j - off) undef := by rw [Array.getD_eq_getD_getElem?]
      rw [e1] at hs
      have hl : j - off < vs.length := by rw [← hv.1]; omega
      obtain ⟨k1, k2, k3, k4⟩ := ho _ _ _ hl hs
      refine ⟨by rw [hcell, if_pos hin, e1]; exact k1, k2, fun j' e' hne hs' => ?_, fun l e' _ => k4 l e'⟩
      rw [hcs, hcell] at hs'
      have hout : ¬ (off ≤ j' ∧ j' < off + us.size) := by have := hv.1; omega
      rw [if_neg hout, if_neg hout] at hs'
      refine k4 (.box id j') e' ?_
      simp only [absAt, hi, conAt, hb, hold]
      exact hs'
    · left
      rw [if_neg hin, if_neg hin] at hs
      exact ⟨by rw [hold]; exact hs, by rw [hcell, if_neg hin, hold]⟩
end
section
variable {X : Ctx} {T : Tab} {r : Option Nat} {s : St} {o : Oper} {K : St → Prop}
section
variable (ρ : Operand → Value) (d : Option Tmp) (ty : TypeId) (p : String) (af : Array Edge) (g : Option (Nat × Bool))
theorem ex_alloc (t : TypeId) : execOp ρ ⟨d, .alloc t, ty, p, af, g⟩ = (do pure (.value (← Instr.alloc t true (.tuple #[])))) := rfl
theorem ex_store (t : TypeId) (x v : Operand) : execOp ρ ⟨d, .store t x v, ty, p, af, g⟩ = (do Instr.storeAt t (ρ x) (ρ v); pure .skip) := rfl
theorem ex_makeSlice (t : TypeId) (x v : Operand) : execOp ρ ⟨d, .makeSlice t x v, ty, p, af, g⟩ = (do pure (.value (← Instr.makeSlice t (ρ x) (ρ v)))) := rfl
end
theorem run_alloc {P : Program} {w : World} {t : TypeId} {z : Value} (h : (zeroValue t).run P w = .ok z w) :
    (Instr.alloc t true (.tuple #[])).run P w = .ok (.pointer (some ⟨w.heap.size, 0, none⟩)) (w.alloc (.cells z.cells t)) := by
  simp [Instr.alloc, h, newVar, newRow]
theorem wp_skip {P : Program} {o : Oper} {a : Act} {w w' : World} {next : Act → World → Prop} {Q : Exit → Act → World → Prop}
    (hd : ∀ c, o.op ≠ .defer c) (h : (execOp a.eval o).run P w = .ok .skip w') (hn : next (a.put o.dst undef) w') : o.wpIn (fenceR r) 0 P a w next Q := by
  refine ⟨fun f _ => trivial, ?_⟩
  rw [Oper.semAt_eq _ _ _ hd, h]
  exact hn
theorem DoesR.alloc (hT : T.Ok X.P) {d e : Nat} (ho : o.op = .alloc e) (hd : o.dst = some d) (he : T.ty e ≠ .none)
    (k : K ⟨upd s.S d (.ref s.c 0), updH s.H s.c (some (.cells ((T.zr e).map A.down))), s.c + 1⟩) : DoesR X r o s K := by
  intro hdn φ Z a w hr next Q hn
  obtain ⟨dst, op, ty, pos, aft, gd⟩ := o
  simp only at ho hd
  subst ho; subst hd
  obtain ⟨z, hz1, hz2⟩ := run_zero hT (w := w) he
  refine wp_run (fun c => by simp) (by rw [ex_alloc, Sem.run_bind, run_alloc hz1]; rfl) (hn _ _ Z _ _ k (hr.newCells (ty := e) (hdn d rfl) (hr.fresh _ (Nat.le_refl _)) (Nat.le_succ _) (Nat.lt_succ_self _) (zero_vrc hz2) ?_ (fun p => by simp [spareOf])))
  exact .ref _ _ _ (by simp)
theorem DoesR.boxm (hT : T.Ok X.P) {d t : Nat} {x : Operand} (ho : o.op = .box t x) (hd : o.dst = some d) (hp : okPart (rd s.S x) = true)
    (k : K ⟨upd s.S d (.ref s.c 0), updH s.H s.c (some (.cells ((cellsA (rd s.S x)).map A.down))), s.c + 1⟩) : DoesR X r o s K := by
  intro hdn φ Z a w hr next Q hn
  obtain ⟨dst, op, ty, pos, aft, gd⟩ := o
  simp only at ho hd
  subst ho; subst hd
  refine wp_run (w' := w.alloc (.cells (a.eval x).cells t)) (v := .pointer (some ⟨w.heap.size, 0, none⟩)) (fun c => by simp) (by simp [ex_box, Instr.box, newVar, newRow])
    (hn _ _ Z _ _ k (hr.newCells (ty := t) (hdn d rfl) (hr.fresh _ (Nat.le_refl _)) (Nat.le_succ _) (Nat.lt_succ_self _) (cells_vr (hr.sees.rd x) hp) (.ref _ _ _ (by simp)) (fun p => by simp [spareOf])))
theorem run_storeAt {P : Program} (hT : T.Ok P) {w : World} {t b off : Nat} {v : Value} {c : Array Value} {ty : TypeId} (ht : T.ty t ≠ .none) (hs : v.cells.size = T.sz t) (hblk : w.heap[b]? = some (.cells c ty (0, 0)))
    (hle : off + v.cells.size ≤ c.size) (h1 : ∀ x ∈ v.cells.toList, x.oneCell' = true) :
    (Instr.storeAt t (.pointer (some ⟨b, off, none⟩)) v).run P w = .ok () (w.setRow b (c.toList.take off ++ v.cells.toList ++ c.toList.drop (off + v.cells.toList.length)).toArray) := by
  have := run_storeCells_at P b off ty v.cells.toList 0 c w hblk (by simpa using hle) h1
  simp only [Nat.add_zero] at this
  simp [Instr.storeAt, Instr.sureAddr, storeVar, run_size hT ht, hs, this]
theorem VRc.ones {φ : Names} {Z : Still} {w : World} {cs : List A} {vs : Array Value} (h : VRc φ Z w cs vs) : ∀ x ∈ vs.toList, x.oneCell' = true := fun x hx => by
  obtain ⟨i, hi, rfl⟩ := List.getElem_of_mem hx
  have := (h.2 i (by have := h.1; simp at hi; omega)).1
  have hi' : i < vs.size := by simpa using hi
  simpa [Array.getD, hi'] using this
theorem DoesP.store (hT : T.Ok X.P) {t id off : Nat} {x v : Operand} {cs : List A} (ho : o.op = .store t x v) (hd : o.dst = none) (hx : rd s.S x = .ref id off) (hi : s.H id = some (.cells cs)) (ht : T.ty t ≠ .none)
    (hp : okPart (rd s.S v) = true) (hl : (cellsA (rd s.S v)).length = T.sz t) (hle : off + T.sz t ≤ cs.length)
    (k : K ⟨s.S, updH s.H id (some (.cells (setSeg cs off ((cellsA (rd s.S v)).map A.down)))), s.c⟩) : DoesP X r o s K := by
  intro hdn φ Z a w hr next Q hn
  obtain ⟨dst, op, ty, pos, aft, gd⟩ := o
  simp only at ho hd
  subst ho; subst hd
  obtain ⟨b, e0, hb⟩ := inv_ref (hx ▸ hr.sees.rd x)
  have hv := (cells_vr (hr.sees.rd v) hp).down
  obtain ⟨c, ty', hblk, hsz, hrel⟩ := hr.setCells hi hb hv (off := off) (by simp only [List.length_map, hl]; exact hle) (fun j b1 e hj hs => by rw [getD_map_dn, spare_down] at hs; cases hs)
  refine wp_skip (fun c => by simp) ?_ (hn _ Z _ _ k hrel)
  rw [ex_store, Sem.run_bind, e0, run_storeAt hT ht (by rw [hv.1]; simpa using hl) hblk hsz hv.ones]
  rfl
theorem DoesP.storeOwn (hT : T.Ok X.P) {t id off tv : Nat} {x : Operand} {cs : List A} (ho : o.op = .store t x (.tmp tv)) (hd : o.dst = none) (hx : rd s.S x = .ref id off) (hi : s.H id = some (.cells cs)) (ht : T.ty t ≠ .none)
    (hp : (s.S tv).one = true) (hl : T.sz t = 1) (hle : off < cs.length)
    (k : K ⟨upd s.S tv (s.S tv).down, updH s.H id (some (.cells (setSeg cs off [s.S tv]))), s.c⟩) : DoesP X r o s K := by
  intro hdn φ Z a w hr next Q hn
  obtain ⟨dst, op, ty, pos, aft, gd⟩ := o
  simp only at ho hd
  subst ho; subst hd
  obtain ⟨b, e0, hb⟩ := inv_ref (hx ▸ hr.sees.rd x)
  have h0 := hr.slots tv
  have hone := h0.one hp
  have hr1 : Rel X φ Z { s with S := upd s.S tv (s.S tv).down } a w := hr.weaken (S' := upd s.S tv (s.S tv).down) (H' := s.H) (c' := s.c) (fun t' => by
      rw [upd_apply]
      split
      · rename_i e; subst e; exact .down _
      · exact .refl _) (fun id bx hb => ⟨bx, hb, .refl _⟩) (Nat.le_refl _)
  have hcells : (a.eval (.tmp tv)).cells = #[a.tmps.getD tv undef] := by
    show (a.tmps.getD tv undef).cells = _
    generalize a.tmps.getD tv undef = u at *
    cases u <;> first | rfl | (simp [Value.oneCell'] at hone)
  have hv : VRc φ Z w [s.S tv] #[a.tmps.getD tv undef] := ⟨rfl, fun i hi => by
    have : i = 0 := by simpa using hi
    subst this
    exact ⟨hone, h0⟩⟩
  obtain ⟨c, ty', hblk, hsz, hrel⟩ := hr1.setCells hi hb hv (off := off) (by simp; omega) (fun j b1 e hj hs => by
    have : j = 0 := by simpa using hj
    subst this
    have hs' : spareOf (absAt s (.slot tv)) (conAt φ a w (.slot tv)) = some (b1, e) := hs
    refine ⟨hr.own1 _ _ _ hs', hr.mut2 _ _ _ hs', rfl, fun l e' hl' => ?_⟩
    have hl2 : spareOf (absAt s l) (conAt φ a w l) = some (b1, e') ∧ l ≠ .slot tv := by
      cases l with
      | slot t' =>
        simp only [absAt, upd_apply] at hl'
        by_cases e1 : t' = tv
        · rw [if_pos e1, spare_down] at hl'; cases hl'
        · rw [if_neg e1] at hl'; exact ⟨hl', fun e2 => e1 (by cases e2; rfl)⟩
      | box id j => exact ⟨hl', fun e2 => by cases e2⟩
    exact hl2.2 (hr.own2 _ _ b1 e' e hl2.1 hs'))
  refine wp_skip (fun c => by simp) ?_ (hn _ Z _ _ k hrel)
  rw [ex_store, Sem.run_bind, e0, run_storeAt hT ht (by rw [hcells, hl]; rfl) hblk (by rw [hcells]; exact hsz) (by rw [hcells]; exact hv.ones), hcells]
  rfl
theorem DoesP.take {d t : Nat} (ho : o.op = .move (.tmp t) ∨ o.op = .assign (.tmp t)) (hd : o.dst = some d) (hne : t ≠ d) (k : K ⟨upd (upd s.S t (s.S t).down) d (s.S t), s.H, s.c⟩) : DoesP X r o s K := by
  intro hdn φ Z a w hr next Q hn
  obtain ⟨dst, op, ty, pos, aft, gd⟩ := o
  simp only at ho hd
  subst hd
  refine wp_run (v := a.tmps.getD t undef) (w' := w) (fun c => by rcases ho with e | e <;> simp [e]) (by rcases ho with e | e <;> subst e <;> rfl) (hn _ Z _ _ k (hr.take (hdn d rfl) hne))
end
end Go.AL

