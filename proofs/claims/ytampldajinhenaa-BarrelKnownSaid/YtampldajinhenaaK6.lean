/- What the proof leans on, part 6: B18 B19 B20 BX. -/
import Derived.Test.YtampldajinhenaaK5
import Derived.Test.YtampldajinhenaaRows
set_option linter.all false
namespace Go.Proofs.Ytampldajinhenaa
open Go Go.AL Go.AL.Q Go.AL.Br
theorem at0 {cs : List Int} {g : FuncId} {args : List A} {v : A} (h : RCall Try.prog g args (ofH [(0, iB cs)]) v) {H : Hp} (hH : H 0 = some (iB cs)) : RCall Try.prog g args (onlyL H (idsOf [.mp 0])) v :=
  h.le rfl (fun _ _ => .refl _) fun id bx hb => by
    simp only [ofH, updH_apply] at hb
    split at hb
    · rename_i e
      cases hb; subst e; exact hH
    · cases hb
end Go.Proofs.Ytampldajinhenaa

namespace Go.Proofs.Ytampldajinhenaa
open Go Go.AL Go.AL.Q Go.AL.Br
end Go.Proofs.Ytampldajinhenaa

namespace Go.Proofs.Ytampldajinhenaa
open Go Go.AL Go.AL.Q Go.AL.Br
theorem Ans_out {f : FuncId} {args : List A} {v v' : A} (h : Ans Try.prog f args v) (hl : A.Le v' v) : Ans Try.prog f args v' := ⟨h.ent, fun φ Z w vs hz hvs => (h.pure φ Z w vs hz hvs).mono fun e w' ⟨u, Z', h1, h2, h3, h4⟩ =>
  ⟨u, Z', h1, h2, hl.vr _ _ _ _ h3, fun u' => by
    cases hs : spareOf v' u' with
    | none => rfl
    | some p => have := hl.own _ _ hs; rw [h4 u'] at this; cases this⟩⟩
theorem AnsL {f : FuncId} {az bs : List A} {v : A} (h : Ans Try.prog f az v) (k : LeL az bs) : Ans Try.prog f bs v := h.le k.len fun i _ => k.get i
def outW (l : List Int) : A := .sl l.isEmpty .any (ints l)
theorem outA_le (l : List Int) : A.Le (outW l) (outA l) := by cases l; exact .any _ _ _; exact .refl _
theorem leTup {l m : List A} (h : LeL l m) : A.Le (.tup l) (.tup m) := ⟨fun φ Z w v hv => by
  obtain ⟨vs, e0, e1, e3⟩ := inv_tup hv
  subst e0
  exact .tup _ _ (by rw [e1, h.len]) fun i hi => (h.get i).vr _ _ _ _ (e3 i (by rw [← h.len]; exact hi)), fun v p e => by simp [spareOf] at e⟩
theorem leT2 {a b a' b' : A} (h : A.Le a a') (k : A.Le b b') : A.Le (.tup [a, b]) (.tup [a', b']) := leTup (.cons h (.cons k .nil))
theorem leT3 {a b c a' b' c' : A} (h : A.Le a a') (k : A.Le b b') (m : A.Le c c') : A.Le (.tup [a, b, c]) (.tup [a', b', c']) := leTup (.cons h (.cons k (.cons m .nil)))
theorem exA_le (l : List Int) : A.Le (outW l) (exA l) := by cases l <;> exact .any _ _ _
def setW (L : List (List Int)) : A := .sl L.isEmpty .any (L.map yS)
theorem setX_le (L : List (List Int)) : A.Le (setW L) (setX L) := by cases L <;> exact .any _ _ _
structure YardFit (y : List Cask) : Prop where
  l : (y.length : Int) ≤ 9223372036854775806
theorem Set_w (p : Pile) (hpl : (p.st.length : Int) ≤ 9223372036854775806) : Ans Try.prog 20 [.agg p.c] (.tup [setW (SetR p).1, .int (SetR p).2]) := Ans_out (set_t p hpl) (leT2 (setX_le _) (.refl _))
theorem Run_w (y : List Cask) (b : Bool) (hy : (y.length : Int) ≤ 9223372036854775806) (pb : Bool) (plan : List Int) (hp : (plan.length : Int) ≤ 9223372036854775806) (lb : Bool) (leaks : List NL) :
    Ans Try.prog 23 [.sl b .any (y.map Cask.c), .sl pb .any (ints plan), .sl lb .any (leaks.map NL.c)] (.tup [outW (RunR y plan leaks).1, .int (RunR y plan leaks).2.1, .int (RunR y plan leaks).2.2]) := Ans_out (run_t y b hy pb plan hp lb leaks) (leT3 (outA_le _) (.refl _) (.refl _))
theorem Keep_w (y : List Cask) (b : Bool) (hy : (y.length : Int) ≤ 9223372036854775806) (months : Int) : Ans Try.prog 30 [.sl b .any (y.map Cask.c), .int months] (.tup [outW (KeepR y months).1, .int (KeepR y months).2]) := Ans_out (keep_t y b hy months) (leT2 (exA_le _) (.refl _))
def pile0 : Pile := ⟨false, [30, 40, 50, 35, 45, 60, 25], 100, 10⟩
def yard0 : List Cask := [⟨50, 60, 20, 5, 10⟩, ⟨40, 60, 30, 2, 8⟩]
theorem w1 : AreR pile0 [⟨false, [1, 2]⟩, ⟨false, [3, 5]⟩] = (true, 0) := by decide +kernel
theorem w2 : SetR pile0 = ([[0, 1, 6], [2, 4], [3, 5]], 0) := by decide +kernel
theorem w3 : RunR yard0 [1, 0] [⟨false, [10, 8]⟩, ⟨false, [5, 2]⟩] = ([60, 58], -1, 0) := by decide +kernel
end Go.Proofs.Ytampldajinhenaa

set_option maxRecDepth 100000
namespace Go.Proofs.Ytampldajinhenaa
open Go Go.AL Go.AL.Q Go.AL.Br Go.ChangeShapes Go.WideShapes Go.ChangeAt Go.RowKit
theorem own : ownKnob Try.prog.godebug = none := by kernel_rfl
theorem u3 : Try.prog.underlying 3 = some (.int .i64) := by kernel_rfl
theorem c3 : Try.prog.cellsOf 3 = 1 := by kernel_rfl
section
variable {H : Type} {enc : TypeId × Value → H} {w : World} {base : Nat} {held : Bool} {φ : Names}
theorem r3 : Reads enc Try.prog w base held φ 3 1 (fun n : Int => [A.int n]) fun n => inR n := fun n cs y h _ => by
  obtain ⟨z, rfl, _, hw⟩ := DataW.trod_int u3 h
  exact ⟨z, by simpa [Lit.wf, inR, IntKind.min, IntKind.max, IntKind.signed, IntKind.bits] using hw, rfl, .one (.s _) rfl⟩
variable {v : Value} {d : DataW H} {p : List MemPlace} {r : Reach} {b0 : Nat}
end
end Go.Proofs.Ytampldajinhenaa

