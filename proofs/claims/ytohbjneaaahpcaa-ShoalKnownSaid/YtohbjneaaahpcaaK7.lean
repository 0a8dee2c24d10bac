/- What the proof leans on, part 7: HX H25 H26 H27 H28 Y5 H29. -/
import Derived.Test.YtohbjneaaahpcaaK6
import Derived.Test.YtohbjneaaahpcaaRows
set_option linter.all false
set_option maxRecDepth 100000
namespace Go.Proofs.Ytohbjneaaahpcaa
open Go Go.AL Go.AL.Q Go.AL.Sh Go.ChangeShapes Go.WideShapes Go.ChangeAt Go.RowKit
theorem own : ownKnob Try.prog.godebug = none := by kernel_rfl
theorem laidOut : laidOutB Try.prog = true := by kernel_rfl
theorem ty_ok {t : TypeId} (h : Try.prog.readableRec t = true) (h2 : decide (t < Try.prog.types.size) = true) : Try.prog.readableRec t = true ∧ t < Try.prog.types.size := ⟨h, of_decide_eq_true h2⟩
theorem uBool : Try.prog.underlying 4 = some .bool := by kernel_rfl
def fld (n : String) (t o b : Nat) : Field := ⟨n, t, o, false, "", "", b⟩
theorem t3 : Try.prog.readableRec 3 = true ∧ 3 < Try.prog.types.size := ty_ok (by kernel_rfl) (by kernel_rfl)
theorem t22 : Try.prog.readableRec 22 = true ∧ 22 < Try.prog.types.size := ty_ok (by kernel_rfl) (by kernel_rfl)
theorem t28 : Try.prog.readableRec 28 = true ∧ 28 < Try.prog.types.size := ty_ok (by kernel_rfl) (by kernel_rfl)
theorem t38 : Try.prog.readableRec 38 = true ∧ 38 < Try.prog.types.size := ty_ok (by kernel_rfl) (by kernel_rfl)
theorem t44 : Try.prog.readableRec 44 = true ∧ 44 < Try.prog.types.size := ty_ok (by kernel_rfl) (by kernel_rfl)
theorem t52 : Try.prog.readableRec 52 = true ∧ 52 < Try.prog.types.size := ty_ok (by kernel_rfl) (by kernel_rfl)
theorem t55 : Try.prog.readableRec 55 = true ∧ 55 < Try.prog.types.size := ty_ok (by kernel_rfl) (by kernel_rfl)
theorem u3 : Try.prog.underlying 3 = some (.int .i64) := by kernel_rfl
theorem u22 : Try.prog.underlying 22 = some (.slice 3) := by kernel_rfl
theorem u23 : Try.prog.underlying 23 = some (.slice 70) := by kernel_rfl
theorem u25 : Try.prog.underlying 25 = some (.struct #[fld "Wide" 3 0 0, fld "High" 3 1 8, fld "Land" 22 2 16, fld "Hours" 3 3 40, fld "Drift" 23 4 48, fld "Speed" 3 5 72]) := by kernel_rfl
theorem u26 : Try.prog.underlying 26 = some (.slice 52) := by kernel_rfl
theorem u28 : Try.prog.underlying 28 = some (.struct #[fld "S" 25 0 0, fld "L" 26 6 80]) := by kernel_rfl
theorem u38 : Try.prog.underlying 38 = some (.array 2 3) := by kernel_rfl
theorem u44 : Try.prog.underlying 44 = some (.slice 64) := by kernel_rfl
theorem u52 : Try.prog.underlying 52 = some (.struct #[fld "Hour" 3 0 0, fld "Cell" 3 1 8, fld "Far" 3 2 16, fld "There" 4 3 24]) := by kernel_rfl
theorem u55 : Try.prog.underlying 55 = some (.array 3 3) := by kernel_rfl
theorem u64 : Try.prog.underlying 64 = some (.struct #[fld "Cell" 3 0 0, fld "Far" 3 1 8]) := by kernel_rfl
theorem u70 : Try.prog.underlying 70 = some (.struct #[fld "East" 3 0 0, fld "North" 3 1 8]) := by kernel_rfl
theorem c3 : Try.prog.cellsOf 3 = 1 := by kernel_rfl
theorem c4 : Try.prog.cellsOf 4 = 1 := by kernel_rfl
theorem c22 : Try.prog.cellsOf 22 = 1 := by kernel_rfl
theorem c23 : Try.prog.cellsOf 23 = 1 := by kernel_rfl
theorem c25 : Try.prog.cellsOf 25 = 6 := by kernel_rfl
theorem c26 : Try.prog.cellsOf 26 = 1 := by kernel_rfl
theorem c28 : Try.prog.cellsOf 28 = 7 := by kernel_rfl
theorem c38 : Try.prog.cellsOf 38 = 2 := by kernel_rfl
theorem c52 : Try.prog.cellsOf 52 = 4 := by kernel_rfl
theorem c55 : Try.prog.cellsOf 55 = 3 := by kernel_rfl
theorem c64 : Try.prog.cellsOf 64 = 2 := by kernel_rfl
theorem c70 : Try.prog.cellsOf 70 = 2 := by kernel_rfl
theorem by3 : Try.prog.bytesOf 3 = 8 := by kernel_rfl
theorem by52 : Try.prog.bytesOf 52 = 32 := by kernel_rfl
theorem by64 : Try.prog.bytesOf 64 = 16 := by kernel_rfl
theorem by70 : Try.prog.bytesOf 70 = 16 := by kernel_rfl
theorem fit_len {n k : Nat} (h : n * k ≤ reachBytes) (hk : 1 ≤ k) : (n : Int) ≤ 9223372036854775806 := by
  have h3 : n ≤ n * k := Nat.le_mul_of_pos_right _ hk
  have h5 : reachBytes = 140737488351232 := by decide
  omega
section
variable {H : Type} {enc : TypeId × Value → H} {w : World} {base : Nat} {held : Bool} {φ : Names}
theorem r3 : Reads enc Try.prog w base held φ 3 1 (fun n : Int => [A.int n]) fun n => inR n := fun n cs y h _ => by
  obtain ⟨z, rfl, _, hw⟩ := DataW.trod_int u3 h
  exact ⟨z, by simpa [Lit.wf, inR, IntKind.min, IntKind.max, IntKind.signed, IntKind.bits] using hw, rfl, .one (.s _) rfl⟩
theorem r4 : Reads enc Try.prog w base held φ 4 1 (fun b : Bool => [A.bool b]) fun _ => True := fun n cs y h _ => by
  obtain ⟨z, rfl, _⟩ := DataW.trod_bool uBool h
  exact ⟨z, trivial, rfl, .one (.s _) rfl⟩
theorem rdInts : Reads enc Try.prog w base held φ 22 1 (fun x : Bool × List Int => [A.sl x.1 .any (ints x.2)]) (fun x => (x.2.length : Int) ≤ 9223372036854775806) := by
  have key := Reads.slice (enc := enc) (w := w) (base := base) (held := held) (φ := φ) u22 c3 (by decide) r3
  exact key.imp fun x h => ⟨x, fit_len h.2 (by rw [by3]; decide), rfl⟩
theorem rdStep : Reads enc Try.prog w base held φ 70 2 Sp.c (fun _ => True) := by
  have key := Reads.struct (enc := enc) (w := w) (base := base) (held := held) (φ := φ) u70 c70 (Flds.cons (f := fld "East" 3 0 0) rfl c3 r3 (Flds.cons (f := fld "North" 3 1 8) rfl c3 r3 (Flds.nil _))) rfl rfl
  exact key.imp fun x _ => ⟨⟨x.1, x.2.1⟩, trivial, rfl⟩
theorem rdCast : Reads enc Try.prog w base held φ 64 2 Sp.c (fun c => inR c.lo ∧ inR c.hi) := by
  have key := Reads.struct (enc := enc) (w := w) (base := base) (held := held) (φ := φ) u64 c64 (Flds.cons (f := fld "Cell" 3 0 0) rfl c3 r3 (Flds.cons (f := fld "Far" 3 1 8) rfl c3 r3 (Flds.nil _))) rfl rfl
  exact key.imp fun x h => ⟨⟨x.1, x.2.1⟩, ⟨h.1, h.2.1⟩, rfl⟩
theorem rdRep : Reads enc Try.prog w base held φ 52 4 Rep.c (fun _ => True) := by
  have key := Reads.struct (enc := enc) (w := w) (base := base) (held := held) (φ := φ) u52 c52 (Flds.cons (f := fld "Hour" 3 0 0) rfl c3 r3 (Flds.cons (f := fld "Cell" 3 1 8) rfl c3 r3 (Flds.cons (f := fld "Far" 3 2 16) rfl c3 r3 (Flds.cons (f := fld "There" 4 3 24) rfl c4 r4 (Flds.nil _))))) rfl rfl
  exact key.imp fun x _ => ⟨⟨x.1, x.2.1, x.2.2.1, x.2.2.2.1⟩, trivial, rfl⟩
theorem rdSteps : Reads enc Try.prog w base held φ 23 1 (fun x : Bool × List Sp => [A.sl x.1 .any (x.2.map Sp.c)]) (fun x => (x.2.length : Int) ≤ 9223372036854775806) := by
  have key := Reads.slice (enc := enc) (w := w) (base := base) (held := held) (φ := φ) u23 c70 (by decide) rdStep
  exact key.imp fun x h => ⟨x, fit_len h.2 (by rw [by70]; decide), rfl⟩
theorem rdReps : Reads enc Try.prog w base held φ 26 1 (fun x : Bool × List Rep => [A.sl x.1 .any (x.2.map Rep.c)]) (fun x => x.2.length * 32 ≤ 140737488351232) := by
  have key := Reads.slice (enc := enc) (w := w) (base := base) (held := held) (φ := φ) u26 c52 (by decide) rdRep
  exact key.imp fun x h => ⟨x, by
    have h2 := h.2
    rw [by52] at h2
    have h5 : reachBytes = 140737488351232 := by decide
    omega, rfl⟩
theorem rdSea : Reads enc Try.prog w base held φ 25 6 Sea.c SeaFit := by
  have key := Reads.struct (enc := enc) (w := w) (base := base) (held := held) (φ := φ) u25 c25 (Flds.cons (f := fld "Wide" 3 0 0) rfl c3 r3 (Flds.cons (f := fld "High" 3 1 8) rfl c3 r3 (Flds.cons (f := fld "Land" 22 2 16) rfl c22 rdInts (Flds.cons (f := fld "Hours" 3 3 40) rfl c3 r3 (Flds.cons (f := fld "Drift" 23 4 48) rfl c23 rdSteps (Flds.cons (f := fld "Speed" 3 5 72) rfl c3 r3 (Flds.nil _))))))) rfl rfl
  exact key.imp fun x h => ⟨⟨x.1, x.2.1, x.2.2.1.1, x.2.2.1.2, x.2.2.2.1, x.2.2.2.2.1.1, x.2.2.2.2.1.2, x.2.2.2.2.2.1⟩, ⟨h.2.2.1, h.2.2.2.2.1⟩, rfl⟩
structure SrFit2 (x : Srch) : Prop where
  fit : SrFit x
  l : x.l.length * 32 ≤ 140737488351232
theorem rdSrch : Reads enc Try.prog w base held φ 28 7 Srch.c SrFit2 := by
  have key := Reads.struct (enc := enc) (w := w) (base := base) (held := held) (φ := φ) u28 c28 (Flds.cons (f := fld "S" 25 0 0) rfl c25 rdSea (Flds.cons (f := fld "L" 26 6 80) rfl c26 rdReps (Flds.nil _))) rfl rfl
  exact key.imp fun x h => ⟨⟨x.1, x.2.1.1, x.2.1.2⟩, ⟨⟨h.1, by have := h.2.1; show (x.2.1.2.length : Int) ≤ _; omega⟩, h.2.1⟩, rfl⟩
variable {v : Value} {d : DataW H} {p : List MemPlace} {r : Reach} {b0 : Nat}
theorem arg_srch (hok : Value.okWide Try.prog w r b0 28 v) (h : DataW.Trod enc Try.prog w base (fun _ => true) held 28 v d p) (hw : ∀ k ∈ d.weights Try.prog 28, k ≤ reachBytes) :
    ∃ y : Srch, VR φ (allZ w) w (.agg y.c) v ∧ SrFit2 y := by
  obtain ⟨x, q, e⟩ := (rdSrch (φ := φ)).arg_agg (agg_struct u28 hok) h hw
  exact ⟨x, e, q⟩
theorem arg_ints (hok : Value.okWide Try.prog w r b0 22 v) (h : DataW.Trod enc Try.prog w base (fun _ => true) held 22 v d p) (hw : ∀ k ∈ d.weights Try.prog 22, k ≤ reachBytes) :
    ∃ (b : Bool) (l : List Int), VR φ (allZ w) w (.sl b .any (ints l)) v ∧ (l.length : Int) ≤ 9223372036854775806 := by
  obtain ⟨x, q, e⟩ := (rdInts (φ := φ)).arg_slice u22 hok h hw
  exact ⟨x.1, x.2, e, q⟩
theorem arg_casts (hok : Value.okWide Try.prog w r b0 44 v) (h : DataW.Trod enc Try.prog w base (fun _ => true) held 44 v d p) (hw : ∀ k ∈ d.weights Try.prog 44, k ≤ reachBytes) :
    ∃ (b : Bool) (l : List Sp), VR φ (allZ w) w (.sl b .any (l.map Sp.c)) v ∧ CstFit l := by
  obtain ⟨x, q, e⟩ := (Reads.slice (φ := φ) u44 c64 (by decide) rdCast).arg_slice u44 hok h hw
  exact ⟨x.1, x.2, e, ⟨by
    have h2 := q.2
    rw [by64] at h2
    have h5 : reachBytes = 140737488351232 := by decide
    omega, q.1⟩⟩
theorem arg_rep (hok : Value.okWide Try.prog w r b0 52 v) (h : DataW.Trod enc Try.prog w base (fun _ => true) held 52 v d p) (hw : ∀ k ∈ d.weights Try.prog 52, k ≤ reachBytes) : ∃ y : Rep, VR φ (allZ w) w (.agg y.c) v := by
  obtain ⟨x, q, e⟩ := (rdRep (φ := φ)).arg_agg (agg_struct u52 hok) h hw
  exact ⟨x, e⟩
theorem arg_2 (hok : Value.okWide Try.prog w r b0 38 v) (h : DataW.Trod enc Try.prog w base (fun _ => true) held 38 v d p) (hw : ∀ k ∈ d.weights Try.prog 38, k ≤ reachBytes) : ∃ y : Int × Int, VR φ (allZ w) w (.agg [.int y.1, .int y.2]) v := by
  obtain ⟨x, q, e⟩ := (Reads.ints (φ := φ) u38 c38 u3 c3).arg_agg (agg_array u38 hok) h hw
  match x, q with
  | [a, b], _ => exact ⟨(a, b), e⟩
theorem arg_3 (hok : Value.okWide Try.prog w r b0 55 v) (h : DataW.Trod enc Try.prog w base (fun _ => true) held 55 v d p) (hw : ∀ k ∈ d.weights Try.prog 55, k ≤ reachBytes) : ∃ y : Int × Int × Int, VR φ (allZ w) w (.agg [.int y.1, .int y.2.1, .int y.2.2]) v := by
  obtain ⟨x, q, e⟩ := (Reads.ints (φ := φ) u55 c55 u3 c3).arg_agg (agg_array u55 hok) h hw
  match x, q with
  | [a, b, c], _ => exact ⟨(a, b, c), e⟩
theorem arg_int (hok : Value.okWide Try.prog w r b0 3 v) (h : DataW.Trod enc Try.prog w base (fun _ => true) held 3 v d p) (hw : ∀ k ∈ d.weights Try.prog 3, k ≤ reachBytes) : ∃ n : Int, VR φ (allZ w) w (.int n) v := arg_nat u3 hok h
end
end Go.Proofs.Ytohbjneaaahpcaa

namespace Go.Proofs.Ytohbjneaaahpcaa
open Go Go.AL Go.AL.Q Go.AL.Sh
theorem place_inj {w a b : Int} (hw : 1 ≤ w) (h : placeP w a = placeP w b) : a = b := by
  unfold placeP at h
  simp only [Sp.mk.injEq] at h
  have e1 := Int.mul_tdiv_add_tmod a w
  have e2 := Int.mul_tdiv_add_tmod b w
  rw [h.1, h.2] at e1; omega
theorem isLand_iff {w : Int} (hw : 1 ≤ w) (l : List Int) (c : Int) : isLand w l (placeP w c) = true ↔ c ∈ l := by
  unfold isLand
  rw [List.any_eq_true]
  constructor
  · rintro ⟨x, h1, h2⟩; rw [place_inj hw (eq_of_beq h2)] at h1; exact h1
  · intro h; exact ⟨c, h, by simp⟩
theorem placeF_neg {c : Int} : ∀ (l : List Int) (k : Nat), placeF c k l < 0 ↔ c ∉ l
  | [], k => by simp [placeF]
  | x :: l, k => by
    rw [placeF]
    by_cases h : x = c
    · subst h; simp
    · rw [if_neg (by simpa using h), placeF_neg l (k + 1)]; simp [Ne.symm h]
def watB (s : Sea) (c : Int) : Bool := cond (wi c 0 (s.many - 1)) (!isLand s.wide s.land (placeP s.wide c)) false
theorem water_eq {s : Sea} (ho : s.Ok) (c : Int) : cond (wi c 0 (s.many - 1)) (decide (placeF c 0 s.land < 0)) false = watB s c := by
  unfold watB
  congr 1
  rw [Bool.eq_iff_iff, decide_eq_true_eq, placeF_neg s.land 0, Bool.not_eq_true', ← Bool.not_eq_true, isLand_iff ho.w.1]
theorem watB_nat {s : Sea} (ho : s.Ok) (c : Nat) : watB s c = true ↔ c ∈ cellsL s := by
  have hm := ho.many
  unfold watB cellsL
  rw [List.mem_filter, List.mem_range]
  constructor
  · intro h; have h1 := wi_iff.1 (ac1 h); exact ⟨by omega, ac2 h⟩
  · rintro ⟨h1, h2⟩; rw [wi_iff.2 (show 0 ≤ (c : Int) ∧ (c : Int) ≤ s.many - 1 by omega)]; exact h2
theorem dist_eq (w a b : Int) : (if absI (a.tdiv w - b.tdiv w) > absI (a.tmod w - b.tmod w) then absI (a.tdiv w - b.tdiv w) else absI (a.tmod w - b.tmod w)) = farF (placeP w a) (placeP w b) := by
  rw [farF_eq, absI_eq, absI_eq]
  show _ = max (max (a.tmod w - b.tmod w) (b.tmod w - a.tmod w)) (max (a.tdiv w - b.tdiv w) (b.tdiv w - a.tdiv w))
  split <;> omega
theorem step_plain (a1 a2 b1 b2 d1 d2 sp : Int) (hs : 0 ≤ sp) :
    cond (wi (b1 - a1 - d1) (-sp) sp) (wi (b2 - a2 - d2) (-sp) sp) false = cond ((⟨a1 + d1, a2 + d2⟩ : Sp) == ⟨b1, b2⟩) true (decide (farF ⟨a1 + d1, a2 + d2⟩ ⟨b1, b2⟩ ≤ sp)) := by
  have ef := farF_eq ⟨a1 + d1, a2 + d2⟩ ⟨b1, b2⟩
  simp only at ef
  rw [Bool.eq_iff_iff]
  constructor
  · intro h
    have h1 := wi_iff.1 (ac1 h)
    have h2 := wi_iff.1 (ac2 h)
    cases he : ((⟨a1 + d1, a2 + d2⟩ : Sp) == ⟨b1, b2⟩) with
    | true => rfl
    | false => exact decide_eq_true (by omega)
  · intro h
    have h3 : max (max (a1 + d1 - b1) (b1 - (a1 + d1))) (max (a2 + d2 - b2) (b2 - (a2 + d2))) ≤ sp := by
      cases he : ((⟨a1 + d1, a2 + d2⟩ : Sp) == ⟨b1, b2⟩) with
      | true =>
        have := eq_of_beq he
        simp only [Sp.mk.injEq] at this
        omega
      | false => rw [he] at h; have := of_decide_eq_true h; omega
    rw [wi_iff.2 (show -sp ≤ b1 - a1 - d1 ∧ b1 - a1 - d1 ≤ sp by omega), wi_iff.2 (show -sp ≤ b2 - a2 - d2 ∧ b2 - a2 - d2 ≤ sp by omega)]; rfl
theorem step_eq {s : Sea} (ho : s.Ok) (hour a b : Int) :
    cond (wi (b.tmod s.wide - a.tmod s.wide - (s.step hour).lo) (-s.speed) s.speed) (wi (b.tdiv s.wide - a.tdiv s.wide - (s.step hour).hi) (-s.speed) s.speed) false = s.steps hour (placeP s.wide a) (placeP s.wide b) :=
  step_plain _ _ _ _ _ _ _ ho.sp.1
theorem absI_bd {n : Int} : 0 ≤ absI n ∧ (absI n = n ∨ absI n = -n) := by unfold absI; split <;> omega
theorem dist_t (s : Sea) (h : s.Ok) (a b : Int) (ha : -1000 ≤ a ∧ a ≤ 1000) (hb : -1000 ≤ b ∧ b ≤ 1000) : Ans Try.prog 85 [.agg s.c, .int a, .int b] (.int (farF (placeP s.wide a) (placeP s.wide b))) := by
  have hw := h.w
  have p1 := placeP_bd hw ha
  have p2 := placeP_bd hw hb
  simp only [placeP] at p1 p2
  have ed := dist_eq s.wide a b
  refine told Try.func85 rfl rfl (Pure.of tab_ok Try.func85 rfl Try.ntmps85 rfl (allC (.agg _ s.free) (allC (.s _) (all1 (.s _)))) (allC (fun _ => rfl) (allC (fun _ => rfl) (all1 (fun _ => rfl)))) (by first | exact .s _ | assumption | exact .tup _ (by intro x hx; simp only [List.mem_cons, List.not_mem_nil, or_false] at hx; rcases hx with rfl | rfl | rfl | rfl <;> first | exact .s _ | (simp_all; done))) fun E hE => ?_)
  refine Aw.sm tab_ok mb0 [] rfl rfl ?zo ?zk
  case zo =>
    repeat' apply AllP.cons
    all_goals first | exact trivial
  case zk =>
  refine Aw.sd tab_ok mixed mb0 [(9, [.int (absI (a.tmod s.wide - b.tmod s.wide))]), (19, [.int (absI (a.tdiv s.wide - b.tdiv s.wide))])] rfl (by kernel_rfl) rfl rfl ?zo ?zk
  case zo =>
    repeat' apply AllP.cons
    all_goals first | exact trivial | exact Nat.le_of_ble_eq_true rfl | exact (show s.wide ≠ 0 by omega) | exact (show s.wide ≠ 0 ∧ inR (a.tdiv s.wide) from ⟨by omega, by simp only [inR]; omega⟩) | exact (show s.wide ≠ 0 ∧ inR (b.tdiv s.wide) from ⟨by omega, by simp only [inR]; omega⟩) | exact abs_t _ (by simp only [inR]; omega) | exact (by simp only [Ob.of, inR]; omega)
  case zk =>
  exact Aw.ret ⟨_, .cons (.tmp _) .nil, congrArg A.int ed⟩
theorem apart_t (s : Sea) (h : s.Ok) (a b : Int) (ha : -1000 ≤ a ∧ a ≤ 1000) (hb : -1000 ≤ b ∧ b ≤ 1000) : Ans Try.prog 41 [.agg s.c, .int a, .int b] (.int (farF (placeP s.wide a) (placeP s.wide b))) := by
  have hw := h.w
  have p1 := placeP_bd hw ha
  have p2 := placeP_bd hw hb
  simp only [placeP] at p1 p2
  have ed := dist_eq s.wide a b
  refine told Try.func41 rfl rfl (Pure.of tab_ok Try.func41 rfl Try.ntmps41 rfl (allC (.agg _ s.free) (allC (.s _) (all1 (.s _)))) (allC (fun _ => rfl) (allC (fun _ => rfl) (all1 (fun _ => rfl)))) (by first | exact .s _ | assumption | exact .tup _ (by intro x hx; simp only [List.mem_cons, List.not_mem_nil, or_false] at hx; rcases hx with rfl | rfl | rfl | rfl <;> first | exact .s _ | (simp_all; done))) fun E hE => ?_)
  refine Aw.sm tab_ok mb0 [] rfl rfl ?zo ?zk
  case zo =>
    repeat' apply AllP.cons
    all_goals first | exact trivial
  case zk =>
  refine Aw.sd tab_ok mixed mb0 [(9, [.int (absI (a.tmod s.wide - b.tmod s.wide))]), (19, [.int (absI (a.tdiv s.wide - b.tdiv s.wide))])] rfl (by kernel_rfl) rfl rfl ?zo ?zk
  case zo =>
    repeat' apply AllP.cons
    all_goals first | exact trivial | exact Nat.le_of_ble_eq_true rfl | exact (show s.wide ≠ 0 by omega) | exact (show s.wide ≠ 0 ∧ inR (a.tdiv s.wide) from ⟨by omega, by simp only [inR]; omega⟩) | exact (show s.wide ≠ 0 ∧ inR (b.tdiv s.wide) from ⟨by omega, by simp only [inR]; omega⟩) | exact abs_t _ (by simp only [inR]; omega) | exact (by simp only [Ob.of, inR]; omega)
  case zk =>
  exact Aw.ret ⟨_, .cons (.tmp _) .nil, congrArg A.int ed⟩
theorem water_t (s : Sea) (hf : SeaFit s) (h : s.Ok) (c : Int) : Ans Try.prog 54 [.agg s.c, .int c] (.bool (watB s c)) := by
  have hm := h.many
  unfold Sea.many at hm
  have hl := hf.l
  have ew := water_eq h c
  unfold Sea.many at ew
  refine told Try.func54 rfl rfl (Pure.of tab_ok Try.func54 rfl Try.ntmps54 rfl (allC (.agg _ s.free) (all1 (.s _))) (allC (fun _ => rfl) (all1 (fun _ => rfl))) (by first | exact .s _ | assumption | exact .tup _ (by intro x hx; simp only [List.mem_cons, List.not_mem_nil, or_false] at hx; rcases hx with rfl | rfl | rfl | rfl <;> first | exact .s _ | (simp_all; done))) fun E hE => ?_)
  refine Aw.sm tab_ok mb0 [] rfl rfl ?zo ?zk
  case zo =>
    repeat' apply AllP.cons
    all_goals first | exact trivial
  case zk =>
  refine Aw.sm tab_ok mb0 [(7, [.bool (wi c 0 (s.wide * s.high - 1))]), (12, [.int (placeF c 0 s.land)])] rfl rfl ?zo ?zk
  case zo =>
    repeat' apply AllP.cons
    all_goals first | exact trivial | exact id | exact fun _ => rfl | exact Nat.le_of_ble_eq_true rfl | exact fun _ => Nat.le_of_ble_eq_true rfl | exact in_t _ _ _ | exact fun _ => place_t s.land s.ln c hl | exact (by simp only [Ob.of, inR]; omega)
  case zk =>
  exact Aw.ret ⟨_, .cons (.tmp _) .nil, congrArg A.bool ew⟩
theorem step_t (s : Sea) (h : s.Ok) (hour a b : Int) (h0 : 0 ≤ hour) (h1 : hour < s.drift.length) (ha : -1000 ≤ a ∧ a ≤ 1000) (hb : -1000 ≤ b ∧ b ≤ 1000) : Ans Try.prog 55 [.agg s.c, .int hour, .int a, .int b] (.bool (s.steps hour (placeP s.wide a) (placeP s.wide b))) := by
  have hw := h.w
  have hsp := h.sp
  have p1 := placeP_bd hw ha
  have p2 := placeP_bd hw hb
  simp only [placeP] at p1 p2
  have es := step_eq h hour a b
  have hlt : hour.toNat < s.drift.length := by omega
  have hget : (s.drift.map Sp.c)[hour.toNat]? = some (s.step hour).c := by
    unfold Sea.step; rw [get_map hlt]; simp [List.getD_eq_getElem?_getD, hlt]
  have hst := h.st (s.step hour) (by unfold Sea.step; simp [List.getD_eq_getElem?_getD, hlt])
  refine told Try.func55 rfl rfl (Pure.of tab_ok Try.func55 rfl Try.ntmps55 rfl (allC (.agg _ s.free) (allC (.s _) (allC (.s _) (all1 (.s _))))) (allC (fun _ => rfl) (allC (fun _ => rfl) (allC (fun _ => rfl) (all1 (fun _ => rfl))))) (by first | exact .s _ | assumption | exact .tup _ (by intro x hx; simp only [List.mem_cons, List.not_mem_nil, or_false] at hx; rcases hx with rfl | rfl | rfl | rfl <;> first | exact .s _ | (simp_all; done))) fun E hE => ?_)
  refine Aw.sm tab_ok mb0 [] rfl rfl ?zo ?zk
  case zo =>
    repeat' apply AllP.cons
    all_goals first | exact trivial
  case zk =>
  generalize s.step hour = d at *
  generalize s.steps hour (placeP s.wide a) (placeP s.wide b) = r at *
  refine Aw.sd tab_ok mixed mb0 [(12, d.c)] rfl (by kernel_rfl) rfl rfl ?zo ?zk
  case zo =>
    repeat' apply AllP.cons
    all_goals first | exact trivial | exact rfl | exact Nat.le_of_ble_eq_true rfl | exact hget | exact h0 | exact (show s.wide ≠ 0 by omega) | exact (by simp only [Ob.of, inR]; omega)
  case zk =>
  refine Aw.sd tab_ok mixed mb0 [(12, d.c)] rfl (by kernel_rfl) rfl rfl ?zo ?zk
  case zo =>
    repeat' apply AllP.cons
    all_goals first | exact trivial | exact rfl | exact Nat.le_of_ble_eq_true rfl | exact hget | exact h0 | exact (show s.wide ≠ 0 ∧ inR (a.tdiv s.wide) from ⟨by omega, by simp only [inR]; omega⟩) | exact (show s.wide ≠ 0 ∧ inR (b.tdiv s.wide) from ⟨by omega, by simp only [inR]; omega⟩) | exact (by simp only [Ob.of, inR]; omega)
  case zk =>
  refine Aw.sm tab_ok mb0 [(6, [.bool (wi (b.tmod s.wide - a.tmod s.wide - d.lo) (-s.speed) s.speed)]), (14, [.bool (wi (b.tdiv s.wide - a.tdiv s.wide - d.hi) (-s.speed) s.speed)])] rfl rfl ?zo ?zk
  case zo =>
    repeat' apply AllP.cons
    all_goals first | exact trivial | exact id | exact fun _ => rfl | exact Nat.le_of_ble_eq_true rfl | exact fun _ => Nat.le_of_ble_eq_true rfl | exact in_t _ _ _ | exact (in_t _ _ _).un | exact (by simp only [Ob.of, inR]; omega)
  case zk =>
  exact Aw.ret ⟨_, .cons (.tmp _) .nil, congrArg A.bool es⟩
theorem runtrue_t (s : Sea) (h : s.Ok) (r : Rep) (hr : 0 ≤ r.cell ∧ r.cell ≤ 1000) (c : Int) (hc : -1000 ≤ c ∧ c ≤ 1000) : Ans Try.prog 66 [.agg s.c, .agg r.c, .int c] (.bool (!isTrueF s.wide r (placeP s.wide c))) := by
  have hd := dist_t s h r.cell c (by omega) hc
  refine told Try.func66 rfl rfl (Pure.of tab_ok Try.func66 rfl Try.ntmps66 rfl (allC (.agg _ s.free) (allC (.agg _ r.free) (all1 (.s _)))) (allC (fun _ => rfl) (allC (fun _ => rfl) (all1 (fun _ => rfl)))) (by first | exact .s _ | assumption | exact .tup _ (by intro x hx; simp only [List.mem_cons, List.not_mem_nil, or_false] at hx; rcases hx with rfl | rfl | rfl | rfl <;> first | exact .s _ | (simp_all; done))) fun E hE => ?_)
  refine Aw.sm tab_ok mb0 [] rfl rfl ?zo ?zk
  case zo =>
    repeat' apply AllP.cons
    all_goals first | exact trivial
  case zk =>
  refine Aw.sd tab_ok mixed mb0 [(4, [.int (farF (placeP s.wide r.cell) (placeP s.wide c))])] rfl (by kernel_rfl) rfl rfl ?zo ?zk
  case zo =>
    repeat' apply AllP.cons
    all_goals first | exact trivial | exact Nat.le_of_ble_eq_true rfl | exact hd
  case zk =>
  exact Aw.ret ⟨_, .cons (.tmp _) .nil, by unfold isTrueF; cases r.there <;> cases decide (farF (placeP s.wide r.cell) (placeP s.wide c) ≤ r.far) <;> rfl⟩
theorem rcov_t (s : Sea) (h : s.Ok) (c : Sp) (hr : 0 ≤ c.lo ∧ c.lo ≤ 1000) (p : Int) (hc : -1000 ≤ p ∧ p ≤ 1000) : Ans Try.prog 70 [.agg s.c, .agg c.c, .int p] (.bool (covB s.wide c p)) := by
  have hd := dist_t s h c.lo p (by omega) hc
  refine told Try.func70 rfl rfl (Pure.of tab_ok Try.func70 rfl Try.ntmps70 rfl (allC (.agg _ s.free) (allC (.agg _ c.free) (all1 (.s _)))) (allC (fun _ => rfl) (allC (fun _ => rfl) (all1 (fun _ => rfl)))) (by first | exact .s _ | assumption | exact .tup _ (by intro x hx; simp only [List.mem_cons, List.not_mem_nil, or_false] at hx; rcases hx with rfl | rfl | rfl | rfl <;> first | exact .s _ | (simp_all; done))) fun E hE => ?_)
  refine Aw.sm tab_ok mb0 [] rfl rfl ?zo ?zk
  case zo =>
    repeat' apply AllP.cons
    all_goals first | exact trivial
  case zk =>
  refine Aw.sd tab_ok mixed mb0 [(4, [.int (farF (placeP s.wide c.lo) (placeP s.wide p))])] rfl (by kernel_rfl) rfl rfl ?zo ?zk
  case zo =>
    repeat' apply AllP.cons
    all_goals first | exact trivial | exact Nat.le_of_ble_eq_true rfl | exact hd
  case zk =>
  exact Aw.ret ⟨_, .cons (.tmp _) .nil, rfl⟩
theorem lies_t (s : Sea) (h : s.Ok) (x : Bool) (l : List Rep) (hl : RepFit s l) (hour c : Int) (hc : -1000 ≤ c ∧ c ≤ 1000) : Ans Try.prog 56 [.agg s.c, .sl x .any (l.map Rep.c), .int hour, .int c] (.int (untrueF s.wide l hour (placeP s.wide c))) := by
  have hm := h.many
  have ll : ((l.map Rep.c).length : Int) = l.length := by simp
  have hlen := hl.len
  have fl : Free (.sl x .any (l.map Rep.c)) := free_map Rep.free _ _ _
  have us : Under 0 (A.pt s.c) := (Free.pt _ s.free).under
  have ul : Under 0 (.sl x .any (l.map Rep.c)) := fl.under
  refine told Try.func56 rfl rfl (Pure.of tab_ok Try.func56 rfl Try.ntmps56 rfl (allC (.agg _ s.free) (allC (fl) (allC (.s _) (all1 (.s _))))) (allC (fun _ => rfl) (allC (fun _ => rfl) (allC (fun _ => rfl) (all1 (fun _ => rfl))))) (by first | exact .s _ | assumption | exact .tup _ (by intro x hx; simp only [List.mem_cons, List.not_mem_nil, or_false] at hx; rcases hx with rfl | rfl | rfl | rfl <;> first | exact .s _ | (simp_all; done))) fun E hE => ?_)
  refine Aw.sm tab_ok mb0 [] rfl rfl ?zo ?zk
  case zo =>
    repeat' apply AllP.cons
    all_goals first | exact trivial
  case zk =>
  refine Aw.sm tab_ok mb0 [] rfl rfl ?zo ?zk
  case zo =>
    repeat' apply AllP.cons
    all_goals first | exact trivial
  case zk =>
  refine Aw.seq ?_
  refine Aw.sm tab_ok mb0 [] rfl rfl ?zo ?zk
  case zo =>
    repeat' apply AllP.cons
    all_goals first | exact trivial
  case zk =>
  refine Aw.block (Aw.rounds 0 hE [(1, .sl x .any (l.map Rep.c)), (2, .int hour), (3, .int c), (4, .pt s.c)] (fun k : Nat => [(9, .int ((l.take k).countP (falseAt s.wide hour (placeP s.wide c)) : Nat)), (10, .int k)]) (fun k => []) (fun k => k ≤ l.length) (fun k => l.length - k) 0 ?zg ⟨?zc, ?zv, ?zh, Nat.le_of_ble_eq_true rfl⟩ ?zu (fun k zhk => ?zw) (fun k zhk => ?zx) fun k hk => ?zr)
  case zg =>
    (repeat' (first | exact Nat.zero_le _ | exact Nat.le_refl _ | exact trivial | exact us | exact ul | (refine And.intro ?_ ?_)))
  case zc =>
    (repeat' (first | (refine And.intro ?_ ?_) | exact trivial | exact A.Le.refl _ | exact rfl | exact us | exact ul))
  case zv =>
    (repeat' (first | (refine And.intro ?_ ?_) | exact trivial | exact A.Le.refl _ | exact rfl | exact us | exact ul))
  case zh =>
    (repeat' (first | (refine And.intro ?_ ?_) | exact trivial | exact A.Le.refl _ | exact rfl | exact us | exact ul))
  case zu =>
    (repeat' (first | exact trivial | exact Under.s _ | exact Under.un | assumption | exact (free_ints _ _ _).under | exact Under.ref _ _ (by decide) | exact Under.ms _ _ _ (by decide) | exact Under.mp _ (by decide) | exact (Free.agg _ (by assumption)).under | exact (Free.pt _ (by assumption)).under | exact grL_under _ | exact outA_under _ | exact Nat.le_of_ble_eq_true rfl | exact (fun _ _ => rfl) | exact us | exact ul | (refine And.intro ?_ ?_)))
  case zw =>
    (repeat' (first | exact trivial | exact Under.s _ | exact Under.un | assumption | exact (free_ints _ _ _).under | exact Under.ref _ _ (by decide) | exact Under.ms _ _ _ (by decide) | exact Under.mp _ (by decide) | exact (Free.agg _ (by assumption)).under | exact (Free.pt _ (by assumption)).under | exact grL_under _ | exact outA_under _ | exact Nat.le_of_ble_eq_true rfl | exact (fun _ _ => rfl) | exact us | exact ul | (refine And.intro ?_ ?_)))
  case zx =>
    (repeat' (first | exact trivial | exact Under.s _ | exact Under.un | assumption | exact (free_ints _ _ _).under | exact Under.ref _ _ (by decide) | exact Under.ms _ _ _ (by decide) | exact Under.mp _ (by decide) | exact (Free.agg _ (by assumption)).under | exact (Free.pt _ (by assumption)).under | exact grL_under _ | exact outA_under _ | exact Nat.le_of_ble_eq_true rfl | exact (fun _ _ => rfl) | exact us | exact ul | (refine And.intro ?_ ?_)))
  case zr =>
  refine Aw.seq ?_
  refine Aw.sm tab_ok mb0 [] rfl rfl ?zo ?zk
  case zo =>
    repeat' apply AllP.cons
    all_goals first | exact trivial
  case zk =>
  refine Aw.cond rfl (fun h1 => Aw.skip ?_) (fun h1 => ?_)
  · have hlt : k < l.length := by have := of_decide_eq_true h1; omega
    have hget := get_map (f := Rep.c) hlt
    have hin := hl.at' l[k] (List.getElem_mem hlt)
    have hst := cnt_take (p := falseAt s.wide hour (placeP s.wide c)) hlt
    have hbd : ((l.take k).countP (falseAt s.wide hour (placeP s.wide c)) : Nat) ≤ k := Nat.le_trans List.countP_le_length (by simp; omega)
    have hfa : falseAt s.wide hour (placeP s.wide c) l[k] = cond (l[k].hour == hour) (!isTrueF s.wide l[k] (placeP s.wide c)) false := rfl
    generalize l[k] = r at *
    have hru := runtrue_t s h r (by omega) c hc
    generalize isTrueF s.wide r (placeP s.wide c) = tv at *
    generalize ((l.take k).countP (falseAt s.wide hour (placeP s.wide c)) : Nat) = n at *
    refine Aw.seq (Aw.block ?_)
    refine Aw.sd tab_ok mixed mb0 [(2, r.c), (11, r.c), (14, [.bool (!tv)])] rfl (by kernel_rfl) rfl rfl ?zo ?zk
    case zo =>
      repeat' apply AllP.cons
      all_goals first | exact trivial | exact id | exact rfl | exact fun _ => rfl | exact Nat.le_of_ble_eq_true rfl | exact fun _ => Nat.le_of_ble_eq_true rfl | exact Int.natCast_nonneg _ | exact fun _ => Int.natCast_nonneg _ | exact hget | exact fun _ => hget | exact fun _ => hru
    case zk =>
    refine Aw.cond rfl (fun h2 => ?_) (fun h2 => Aw.skip ?_)
    · have h2 : cond (r.hour == hour) (!tv) false = true := h2
      rw [hfa, h2, if_pos rfl] at hst
      refine Aw.em tab_ok mb0 [] rfl rfl ?zo ?zk
      case zo =>
        repeat' apply AllP.cons
        all_goals first | exact trivial | exact (by simp only [Ob.of, inR]; omega)
      case zk =>
      refine Aw.em tab_ok mb0 [] rfl rfl ?zo ?zk
      case zo =>
        repeat' apply AllP.cons
        all_goals first | exact trivial | exact inrk k (by omega)
      case zk =>
      refine ⟨k + 1, ?zg, ?zm, ⟨?zc, ?zv, ?zh, Nat.le_of_ble_eq_true rfl⟩⟩
      case zg =>
        (repeat' (first | assumption | omega | exact .of_eq (congrArg A.int hst) | (refine And.intro ?_ ?_)))
      case zm =>
        (repeat' (first | omega | exact .of_eq (congrArg A.int hst) | (refine And.intro ?_ ?_)))
      case zc =>
        (repeat' (first | (refine And.intro ?_ ?_) | exact trivial | exact A.Le.refl _ | exact rfl | exact .of_eq (congrArg A.int hst)))
      case zv =>
        (repeat' (first | (refine And.intro ?_ ?_) | exact trivial | exact A.Le.refl _ | exact rfl | exact .of_eq (congrArg A.int hst)))
      case zh =>
        (repeat' (first | (refine And.intro ?_ ?_) | exact trivial | exact A.Le.refl _ | exact rfl | exact .of_eq (congrArg A.int hst)))
    · have h2 : cond (r.hour == hour) (!tv) false = false := h2
      rw [hfa, h2, if_neg (by decide), Int.add_zero] at hst
      refine Aw.em tab_ok mb0 [] rfl rfl ?zo ?zk
      case zo =>
        repeat' apply AllP.cons
        all_goals first | exact trivial | exact inrk k (by omega)
      case zk =>
      refine ⟨k + 1, ?zg, ?zm, ⟨?zc, ?zv, ?zh, Nat.le_of_ble_eq_true rfl⟩⟩
      case zg =>
        (repeat' (first | assumption | omega | exact .of_eq (congrArg A.int hst) | (refine And.intro ?_ ?_)))
      case zm =>
        (repeat' (first | omega | exact .of_eq (congrArg A.int hst) | (refine And.intro ?_ ?_)))
      case zc =>
        (repeat' (first | (refine And.intro ?_ ?_) | exact trivial | exact A.Le.refl _ | exact rfl | exact .of_eq (congrArg A.int hst)))
      case zv =>
        (repeat' (first | (refine And.intro ?_ ?_) | exact trivial | exact A.Le.refl _ | exact rfl | exact .of_eq (congrArg A.int hst)))
      case zh =>
        (repeat' (first | (refine And.intro ?_ ?_) | exact trivial | exact A.Le.refl _ | exact rfl | exact .of_eq (congrArg A.int hst)))
  have hle : k = l.length := by have := of_decide_eq_false h1; omega
  subst hle
  refine Aw.exit2 ?_
  rw [List.take_length]
  refine Aw.sm tab_ok mb0 [] rfl rfl ?zo ?zk
  case zo =>
    repeat' apply AllP.cons
    all_goals first | exact trivial
  case zk =>
  exact Aw.ret ⟨_, .cons (.tmp _) .nil, rfl⟩
end Go.Proofs.Ytohbjneaaahpcaa

namespace Go.Proofs.Ytohbjneaaahpcaa
open Go Go.AL Go.AL.Q Go.AL.Sh
def soundB (x : Srch) : Bool := x.s.ok && x.s.repsOk x.l
theorem track_nil (x : Srch) : TrackR x.s x.l [] = if x.s.ok then if x.s.repsOk x.l then (0, false, 0) else (0, false, 11) else (0, false, 10) := by
  unfold TrackR
  cases h : x.s.ok with
  | false => rfl
  | true =>
    have := (Sea.ok_of h).hr
    cases h2 : x.s.repsOk x.l with
    | false => rfl
    | true => simp only [if_true]; rw [if_neg (fun h => by have := h.1; simp at this; omega)]
set_option maxRecDepth 20000 in
theorem sound_t (x : Srch) (hx : SrFit x) : Ans Try.prog 32 [.agg x.c] (.bool (soundB x)) := by
  have hit := AnsL (IsTrack_w x hx true [] (by decide)) (bs := [.agg x.s.c, x.rA, .sl true .exact []]) (.cons (.refl _) (.cons (.refl _) (.cons (.any _ _ _) .nil)))
  rw [track_nil] at hit
  have hd := hx.s.d
  have ld : ((x.s.drift.map Sp.c).length : Int) = x.s.drift.length := by simp
  have ll : ((x.l.map Rep.c).length : Int) = x.l.length := by simp
  have uc : Under 0 (A.pt x.c) := (Free.pt _ x.free).under
  refine told Try.func32 rfl rfl (Pure.of tab_ok Try.func32 rfl Try.ntmps32 rfl (all1 (.agg _ x.free)) (all1 (fun _ => rfl)) (by first | exact .s _ | assumption | exact .tup _ (by intro x hx; simp only [List.mem_cons, List.not_mem_nil, or_false] at hx; rcases hx with rfl | rfl | rfl | rfl <;> first | exact .s _ | (simp_all; done))) fun E hE => ?_)
  refine Aw.sm tab_ok mb0 [] rfl rfl ?zo ?zk
  case zo =>
    repeat' apply AllP.cons
    all_goals first | exact trivial
  case zk =>
  cases hok : x.s.ok with
  | false =>
    have e : soundB x = false := by simp [soundB, hok]
    rw [e]
    rw [hok] at hit
    refine Aw.sm tab_ok mb0 [(4, [.tup [.int 0, .bool false, .int 10]])] rfl rfl ?zo ?zk
    case zo =>
      repeat' apply AllP.cons
      all_goals first | exact trivial | exact Nat.le_of_ble_eq_true rfl | exact hit
    case zk =>
    refine Aw.sm tab_ok mb0 [(6, [.bool true]), (12, [.bool true]), (18, [.bool true]), (41, [.bool true])] rfl rfl ?zo ?zk
    case zo =>
      repeat' apply AllP.cons
      all_goals first | exact trivial | exact id | exact fun _ => rfl | exact fun _ => Nat.le_of_ble_eq_true rfl | exact fun h => nomatch h
    case zk =>
    refine Aw.seq ?_
    refine Aw.sm tab_ok mb0 [] rfl rfl ?zo ?zk
    case zo =>
      repeat' apply AllP.cons
      all_goals first | exact trivial
    case zk =>
    refine Aw.block (Aw.rounds 0 hE [(1, .pt x.c)] (fun k : Unit => [(6, .bool false), (7, .int 0)]) (fun k => []) (fun k => True) (fun k => 0) () ?zg ⟨?zc, ?zv, ?zh, Nat.le_of_ble_eq_true rfl⟩ ?zu (fun k zhk => ?zw) (fun k zhk => ?zx) fun k hk => ?zr)
    case zg =>
      (repeat' (first | exact Nat.zero_le _ | exact Nat.le_refl _ | exact trivial | exact uc | (refine And.intro ?_ ?_)))
    case zc =>
      (repeat' (first | (refine And.intro ?_ ?_) | exact trivial | exact A.Le.refl _ | exact rfl | exact uc))
    case zv =>
      (repeat' (first | (refine And.intro ?_ ?_) | exact trivial | exact A.Le.refl _ | exact rfl | exact uc))
    case zh =>
      (repeat' (first | (refine And.intro ?_ ?_) | exact trivial | exact A.Le.refl _ | exact rfl | exact uc))
    case zu =>
      (repeat' (first | exact trivial | exact Under.s _ | exact Under.un | assumption | exact (free_ints _ _ _).under | exact Under.ref _ _ (by decide) | exact Under.ms _ _ _ (by decide) | exact Under.mp _ (by decide) | exact (Free.agg _ (by assumption)).under | exact (Free.pt _ (by assumption)).under | exact grL_under _ | exact outA_under _ | exact Nat.le_of_ble_eq_true rfl | exact (fun _ _ => rfl) | exact uc | (refine And.intro ?_ ?_)))
    case zw =>
      (repeat' (first | exact trivial | exact Under.s _ | exact Under.un | assumption | exact (free_ints _ _ _).under | exact Under.ref _ _ (by decide) | exact Under.ms _ _ _ (by decide) | exact Under.mp _ (by decide) | exact (Free.agg _ (by assumption)).under | exact (Free.pt _ (by assumption)).under | exact grL_under _ | exact outA_under _ | exact Nat.le_of_ble_eq_true rfl | exact (fun _ _ => rfl) | exact uc | (refine And.intro ?_ ?_)))
    case zx =>
      (repeat' (first | exact trivial | exact Under.s _ | exact Under.un | assumption | exact (free_ints _ _ _).under | exact Under.ref _ _ (by decide) | exact Under.ms _ _ _ (by decide) | exact Under.mp _ (by decide) | exact (Free.agg _ (by assumption)).under | exact (Free.pt _ (by assumption)).under | exact grL_under _ | exact outA_under _ | exact Nat.le_of_ble_eq_true rfl | exact (fun _ _ => rfl) | exact uc | (refine And.intro ?_ ?_)))
    case zr =>
    refine Aw.seq ?_
    refine Aw.sm tab_ok mb0 [] rfl rfl ?zo ?zk
    case zo =>
      repeat' apply AllP.cons
      all_goals first | exact trivial | exact id | exact fun _ => rfl | exact fun _ => Nat.le_of_ble_eq_true rfl
    case zk =>
    refine Aw.cond rfl (fun h => nomatch h) (fun h => ?_)
    refine Aw.exit2 ?_
    refine Aw.sm tab_ok mb0 [] rfl rfl ?zo ?zk
    case zo =>
      repeat' apply AllP.cons
      all_goals first | exact trivial
    case zk =>
    exact Aw.ret ⟨_, .cons (.tmp _) .nil, rfl⟩
  | true =>
  cases hr : x.s.repsOk x.l with
  | false =>
    have e : soundB x = false := by simp [soundB, hok, hr]
    rw [e]
    rw [hok, hr] at hit
    refine Aw.sm tab_ok mb0 [(4, [.tup [.int 0, .bool false, .int 11]])] rfl rfl ?zo ?zk
    case zo =>
      repeat' apply AllP.cons
      all_goals first | exact trivial | exact Nat.le_of_ble_eq_true rfl | exact hit
    case zk =>
    refine Aw.sm tab_ok mb0 [(6, [.bool true]), (12, [.bool true]), (18, [.bool true]), (41, [.bool true])] rfl rfl ?zo ?zk
    case zo =>
      repeat' apply AllP.cons
      all_goals first | exact trivial | exact id | exact fun _ => rfl | exact fun _ => Nat.le_of_ble_eq_true rfl | exact fun h => nomatch h
    case zk =>
    refine Aw.seq ?_
    refine Aw.sm tab_ok mb0 [] rfl rfl ?zo ?zk
    case zo =>
      repeat' apply AllP.cons
      all_goals first | exact trivial
    case zk =>
    refine Aw.block (Aw.rounds 0 hE [(1, .pt x.c)] (fun k : Unit => [(6, .bool false), (7, .int 0)]) (fun k => []) (fun k => True) (fun k => 0) () ?zg ⟨?zc, ?zv, ?zh, Nat.le_of_ble_eq_true rfl⟩ ?zu (fun k zhk => ?zw) (fun k zhk => ?zx) fun k hk => ?zr)
    case zg =>
      (repeat' (first | exact Nat.zero_le _ | exact Nat.le_refl _ | exact trivial | exact uc | (refine And.intro ?_ ?_)))
    case zc =>
      (repeat' (first | (refine And.intro ?_ ?_) | exact trivial | exact A.Le.refl _ | exact rfl | exact uc))
    case zv =>
      (repeat' (first | (refine And.intro ?_ ?_) | exact trivial | exact A.Le.refl _ | exact rfl | exact uc))
    case zh =>
      (repeat' (first | (refine And.intro ?_ ?_) | exact trivial | exact A.Le.refl _ | exact rfl | exact uc))
    case zu =>
      (repeat' (first | exact trivial | exact Under.s _ | exact Under.un | assumption | exact (free_ints _ _ _).under | exact Under.ref _ _ (by decide) | exact Under.ms _ _ _ (by decide) | exact Under.mp _ (by decide) | exact (Free.agg _ (by assumption)).under | exact (Free.pt _ (by assumption)).under | exact grL_under _ | exact outA_under _ | exact Nat.le_of_ble_eq_true rfl | exact (fun _ _ => rfl) | exact uc | (refine And.intro ?_ ?_)))
    case zw =>
      (repeat' (first | exact trivial | exact Under.s _ | exact Under.un | assumption | exact (free_ints _ _ _).under | exact Under.ref _ _ (by decide) | exact Under.ms _ _ _ (by decide) | exact Under.mp _ (by decide) | exact (Free.agg _ (by assumption)).under | exact (Free.pt _ (by assumption)).under | exact grL_under _ | exact outA_under _ | exact Nat.le_of_ble_eq_true rfl | exact (fun _ _ => rfl) | exact uc | (refine And.intro ?_ ?_)))
    case zx =>
      (repeat' (first | exact trivial | exact Under.s _ | exact Under.un | assumption | exact (free_ints _ _ _).under | exact Under.ref _ _ (by decide) | exact Under.ms _ _ _ (by decide) | exact Under.mp _ (by decide) | exact (Free.agg _ (by assumption)).under | exact (Free.pt _ (by assumption)).under | exact grL_under _ | exact outA_under _ | exact Nat.le_of_ble_eq_true rfl | exact (fun _ _ => rfl) | exact uc | (refine And.intro ?_ ?_)))
    case zr =>
    refine Aw.seq ?_
    refine Aw.sm tab_ok mb0 [] rfl rfl ?zo ?zk
    case zo =>
      repeat' apply AllP.cons
      all_goals first | exact trivial | exact id | exact fun _ => rfl | exact fun _ => Nat.le_of_ble_eq_true rfl
    case zk =>
    refine Aw.cond rfl (fun h => nomatch h) (fun h => ?_)
    refine Aw.exit2 ?_
    refine Aw.sm tab_ok mb0 [] rfl rfl ?zo ?zk
    case zo =>
      repeat' apply AllP.cons
      all_goals first | exact trivial
    case zk =>
    exact Aw.ret ⟨_, .cons (.tmp _) .nil, rfl⟩
  | true =>
  have e : soundB x = true := by simp [soundB, hok, hr]
  rw [e]
  rw [hok, hr] at hit
  have ho := Sea.ok_of hok
  have hrf := reps_fit hr
  have hm := ho.many
  unfold Sea.many at hm
  have hdl := ho.dl
  have hhr := ho.hr
  have hlen := hrf.len
  have w1 : wi x.s.wide 1 10 = true := wi_iff.2 ho.w
  have w2 : wi x.s.high 1 8 = true := wi_iff.2 ho.h
  have w3 : wi x.s.hours 1 12 = true := wi_iff.2 ho.hr
  have w4 : wi x.s.speed 0 2 = true := wi_iff.2 ho.sp
  refine Aw.sm tab_ok mb0 [(4, [.tup [.int 0, .bool false, .int 0]])] rfl rfl ?zo ?zk
  case zo =>
    repeat' apply AllP.cons
    all_goals first | exact trivial | exact Nat.le_of_ble_eq_true rfl | exact hit
  case zk =>
  refine Aw.sm tab_ok mb0 [(6, [.bool true]), (12, [.bool true]), (18, [.bool true]), (41, [.bool true])] rfl rfl ?zo ?zk
  case zo =>
    repeat' apply AllP.cons
    all_goals first | exact trivial | exact id | exact fun _ => rfl | exact fun _ => Nat.le_of_ble_eq_true rfl | exact fun _ => w1 ▸ in_t _ _ _ | exact fun _ => w2 ▸ in_t _ _ _ | exact fun _ => w3 ▸ in_t _ _ _ | exact fun _ => w4 ▸ in_t _ _ _ | exact fun _ => (by simp only [Ob.of, inR]; omega)
  case zk =>
  have hfin : true = cond (cond (cond true (((x.s.drift.map Sp.c).length : Int) == x.s.hours - 1) false) (decide (((x.l.map Rep.c).length : Int) ≤ 24)) false) true false := by
    rw [ld, ll, hdl, decide_eq_true hlen]; simp
  refine Aw.seq ?_
  refine Aw.sm tab_ok mb0 [] rfl rfl ?zo ?zk
  case zo =>
    repeat' apply AllP.cons
    all_goals first | exact trivial
  case zk =>
  refine Aw.block (Aw.rounds 0 hE [(1, .pt x.c)] (fun k : Nat => [(6, .bool true), (7, .int k)]) (fun k => []) (fun k => k ≤ x.l.length) (fun k => x.l.length - k) 0 ?zg ⟨?zc, ?zv, ?zh, Nat.le_of_ble_eq_true rfl⟩ ?zu (fun k zhk => ?zw) (fun k zhk => ?zx) fun k hk => ?zr)
  case zg =>
    (repeat' (first | exact Nat.zero_le _ | exact Nat.le_refl _ | exact trivial | exact uc | exact .of_eq (congrArg A.bool hfin) | (refine And.intro ?_ ?_)))
  case zc =>
    (repeat' (first | (refine And.intro ?_ ?_) | exact trivial | exact A.Le.refl _ | exact rfl | exact uc | exact .of_eq (congrArg A.bool hfin)))
  case zv =>
    (repeat' (first | (refine And.intro ?_ ?_) | exact trivial | exact A.Le.refl _ | exact rfl | exact uc | exact .of_eq (congrArg A.bool hfin)))
  case zh =>
    (repeat' (first | (refine And.intro ?_ ?_) | exact trivial | exact A.Le.refl _ | exact rfl | exact uc | exact .of_eq (congrArg A.bool hfin)))
  case zu =>
    (repeat' (first | exact trivial | exact Under.s _ | exact Under.un | assumption | exact (free_ints _ _ _).under | exact Under.ref _ _ (by decide) | exact Under.ms _ _ _ (by decide) | exact Under.mp _ (by decide) | exact (Free.agg _ (by assumption)).under | exact (Free.pt _ (by assumption)).under | exact grL_under _ | exact outA_under _ | exact Nat.le_of_ble_eq_true rfl | exact (fun _ _ => rfl) | exact uc | exact .of_eq (congrArg A.bool hfin) | (refine And.intro ?_ ?_)))
  case zw =>
    (repeat' (first | exact trivial | exact Under.s _ | exact Under.un | assumption | exact (free_ints _ _ _).under | exact Under.ref _ _ (by decide) | exact Under.ms _ _ _ (by decide) | exact Under.mp _ (by decide) | exact (Free.agg _ (by assumption)).under | exact (Free.pt _ (by assumption)).under | exact grL_under _ | exact outA_under _ | exact Nat.le_of_ble_eq_true rfl | exact (fun _ _ => rfl) | exact uc | exact .of_eq (congrArg A.bool hfin) | (refine And.intro ?_ ?_)))
  case zx =>
    (repeat' (first | exact trivial | exact Under.s _ | exact Under.un | assumption | exact (free_ints _ _ _).under | exact Under.ref _ _ (by decide) | exact Under.ms _ _ _ (by decide) | exact Under.mp _ (by decide) | exact (Free.agg _ (by assumption)).under | exact (Free.pt _ (by assumption)).under | exact grL_under _ | exact outA_under _ | exact Nat.le_of_ble_eq_true rfl | exact (fun _ _ => rfl) | exact uc | exact .of_eq (congrArg A.bool hfin) | (refine And.intro ?_ ?_)))
  case zr =>
  refine Aw.seq ?_
  refine Aw.sm tab_ok mb0 [] rfl rfl ?zo ?zk
  case zo =>
    repeat' apply AllP.cons
    all_goals first | exact trivial | exact id | exact fun _ => rfl | exact fun _ => Nat.le_of_ble_eq_true rfl
  case zk =>
  refine Aw.cond rfl (fun h1 => Aw.skip ?_) (fun h1 => ?_)
  · have hlt : k < x.l.length := by have := of_decide_eq_true (show decide ((k : Int) < ((x.l.map Rep.c).length : Int)) = true from h1); omega
    have hget := get_map (f := Rep.c) hlt
    have hin := hrf.at' x.l[k] (List.getElem_mem hlt)
    have v1 : wi x.l[k].hour 0 (x.s.hours - 1) = true := wi_iff.2 hin.1
    have v2 : wi x.l[k].cell 0 (x.s.wide * x.s.high - 1) = true := wi_iff.2 (by have := hin.2.1; unfold Sea.many at this; exact this)
    generalize x.l[k] = r at *
    refine Aw.seq (Aw.block ?_)
    refine Aw.ed tab_ok mixed mb0 [(3, r.c), (10, [.bool true]), (15, r.c), (26, [.bool true])] rfl (by kernel_rfl) rfl rfl ?zo ?zk
    case zo =>
      repeat' apply AllP.cons
      all_goals first | exact trivial | exact id | exact rfl | exact fun _ => rfl | exact Nat.le_of_ble_eq_true rfl | exact fun _ => Nat.le_of_ble_eq_true rfl | exact Int.natCast_nonneg _ | exact fun _ => Int.natCast_nonneg _ | exact hget | exact fun _ => hget | exact v1 ▸ in_t _ _ _ | exact fun _ => v2 ▸ in_t _ _ _ | exact (by simp only [Ob.of, inR]; omega)
    case zk =>
    refine Aw.em tab_ok mb0 [] rfl rfl ?zo ?zk
    case zo =>
      repeat' apply AllP.cons
      all_goals first | exact trivial | exact inrk k (by omega)
    case zk =>
    refine ⟨k + 1, ?zg, ?zm, ⟨?zc, ?zv, ?zh, Nat.le_of_ble_eq_true rfl⟩⟩
    case zg =>
      (repeat' (first | assumption | omega | (refine And.intro ?_ ?_)))
    case zm =>
      (repeat' (first | omega | (refine And.intro ?_ ?_)))
    case zc =>
      (repeat' (first | (refine And.intro ?_ ?_) | exact trivial | exact A.Le.refl _ | exact rfl))
    case zv =>
      (repeat' (first | (refine And.intro ?_ ?_) | exact trivial | exact A.Le.refl _ | exact rfl))
    case zh =>
      (repeat' (first | (refine And.intro ?_ ?_) | exact trivial | exact A.Le.refl _ | exact rfl))
  refine Aw.exit2 ?_
  refine Aw.sm tab_ok mb0 [] rfl rfl ?zo ?zk
  case zo =>
    repeat' apply AllP.cons
    all_goals first | exact trivial
  case zk =>
  exact Aw.ret ⟨_, .cons (.tmp _) .nil, rfl⟩
theorem told_t (s : Sea) (h : s.Ok) (r : Rep) (b : Bool) (t : List Int) (hr : 0 ≤ r.hour ∧ r.hour < t.length) (hc : 0 ≤ r.cell ∧ r.cell ≤ 1000) (ht : ∀ c ∈ t, 0 ≤ c ∧ c ≤ 1000) : Ans Try.prog 34 [.agg s.c, .agg r.c, .sl b .any (ints t)] (.bool (isTrueF s.wide r (placeP s.wide (t.getD r.hour.toNat 0)))) := by
  have hlt : r.hour.toNat < t.length := by omega
  have hget := ints_get hlt
  have hm := ht _ (List.getElem_mem hlt)
  rw [show t.getD r.hour.toNat 0 = t[r.hour.toNat] by simp [List.getD_eq_getElem?_getD, hlt]]
  generalize t[r.hour.toNat] = c at *
  have hd := apart_t s h r.cell c (by omega) (by omega)
  refine told Try.func34 rfl rfl (Pure.of tab_ok Try.func34 rfl Try.ntmps34 rfl (allC (.agg _ s.free) (allC (.agg _ r.free) (all1 (free_ints _ _ _)))) (allC (fun _ => rfl) (allC (fun _ => rfl) (all1 (fun _ => rfl)))) (by first | exact .s _ | assumption | exact .tup _ (by intro x hx; simp only [List.mem_cons, List.not_mem_nil, or_false] at hx; rcases hx with rfl | rfl | rfl | rfl <;> first | exact .s _ | (simp_all; done))) fun E hE => ?_)
  refine Aw.sm tab_ok mb0 [] rfl rfl ?zo ?zk
  case zo =>
    repeat' apply AllP.cons
    all_goals first | exact trivial
  case zk =>
  refine Aw.sd tab_ok mixed mb0 [(6, [.int c]), (8, [.int (farF (placeP s.wide r.cell) (placeP s.wide c))])] rfl (by kernel_rfl) rfl rfl ?zo ?zk
  case zo =>
    repeat' apply AllP.cons
    all_goals first | exact trivial | exact rfl | exact Nat.le_of_ble_eq_true rfl | exact hget | exact hr.1 | exact hd
  case zk =>
  exact Aw.ret ⟨_, .cons (.tmp _) .nil, by unfold isTrueF; cases r.there <;> cases decide (farF (placeP s.wide r.cell) (placeP s.wide c) ≤ r.far) <;> rfl⟩
theorem subset_t (p q : Bool) (a b : List Int) (ha : (a.length : Int) ≤ 9223372036854775806) (hb : (b.length : Int) ≤ 9223372036854775806) (hs : ∀ c ∈ a, c ∈ b) : Ans Try.prog 39 [.sl p .any (ints a), .sl q .any (ints b)] (.bool true) := by
  have li : ((ints a).length : Int) = a.length := by simp [ints]
  have ua : Under 0 (.sl p .any (ints a)) := (free_ints _ _ _).under
  have ub : Under 0 (.sl q .any (ints b)) := (free_ints _ _ _).under
  refine told Try.func39 rfl rfl (Pure.of tab_ok Try.func39 rfl Try.ntmps39 rfl (allC (free_ints _ _ _) (all1 (free_ints _ _ _))) (allC (fun _ => rfl) (all1 (fun _ => rfl))) (by first | exact .s _ | assumption | exact .tup _ (by intro x hx; simp only [List.mem_cons, List.not_mem_nil, or_false] at hx; rcases hx with rfl | rfl | rfl | rfl <;> first | exact .s _ | (simp_all; done))) fun E hE => ?_)
  refine Aw.sm tab_ok mb0 [] rfl rfl ?zo ?zk
  case zo =>
    repeat' apply AllP.cons
    all_goals first | exact trivial
  case zk =>
  refine Aw.seq ?_
  refine Aw.sm tab_ok mb0 [] rfl rfl ?zo ?zk
  case zo =>
    repeat' apply AllP.cons
    all_goals first | exact trivial
  case zk =>
  refine Aw.block (Aw.rounds 0 hE [(0, .sl p .any (ints a)), (1, .sl q .any (ints b))] (fun k : Nat => [(5, .int k)]) (fun k => []) (fun k => k ≤ a.length) (fun k => a.length - k) 0 ?zg ⟨?zc, ?zv, ?zh, Nat.le_of_ble_eq_true rfl⟩ ?zu (fun k zhk => ?zw) (fun k zhk => ?zx) fun k hk => ?zr)
  case zg =>
    (repeat' (first | exact Nat.zero_le _ | exact Nat.le_refl _ | exact trivial | exact ua | exact ub | (refine And.intro ?_ ?_)))
  case zc =>
    (repeat' (first | (refine And.intro ?_ ?_) | exact trivial | exact A.Le.refl _ | exact rfl | exact ua | exact ub))
  case zv =>
    (repeat' (first | (refine And.intro ?_ ?_) | exact trivial | exact A.Le.refl _ | exact rfl | exact ua | exact ub))
  case zh =>
    (repeat' (first | (refine And.intro ?_ ?_) | exact trivial | exact A.Le.refl _ | exact rfl | exact ua | exact ub))
  case zu =>
    (repeat' (first | exact trivial | exact Under.s _ | exact Under.un | assumption | exact (free_ints _ _ _).under | exact Under.ref _ _ (by decide) | exact Under.ms _ _ _ (by decide) | exact Under.mp _ (by decide) | exact (Free.agg _ (by assumption)).under | exact (Free.pt _ (by assumption)).under | exact grL_under _ | exact outA_under _ | exact Nat.le_of_ble_eq_true rfl | exact (fun _ _ => rfl) | exact ua | exact ub | (refine And.intro ?_ ?_)))
  case zw =>
    (repeat' (first | exact trivial | exact Under.s _ | exact Under.un | assumption | exact (free_ints _ _ _).under | exact Under.ref _ _ (by decide) | exact Under.ms _ _ _ (by decide) | exact Under.mp _ (by decide) | exact (Free.agg _ (by assumption)).under | exact (Free.pt _ (by assumption)).under | exact grL_under _ | exact outA_under _ | exact Nat.le_of_ble_eq_true rfl | exact (fun _ _ => rfl) | exact ua | exact ub | (refine And.intro ?_ ?_)))
  case zx =>
    (repeat' (first | exact trivial | exact Under.s _ | exact Under.un | assumption | exact (free_ints _ _ _).under | exact Under.ref _ _ (by decide) | exact Under.ms _ _ _ (by decide) | exact Under.mp _ (by decide) | exact (Free.agg _ (by assumption)).under | exact (Free.pt _ (by assumption)).under | exact grL_under _ | exact outA_under _ | exact Nat.le_of_ble_eq_true rfl | exact (fun _ _ => rfl) | exact ua | exact ub | (refine And.intro ?_ ?_)))
  case zr =>
  refine Aw.seq ?_
  refine Aw.sm tab_ok mb0 [] rfl rfl ?zo ?zk
  case zo =>
    repeat' apply AllP.cons
    all_goals first | exact trivial
  case zk =>
  refine Aw.cond rfl (fun h1 => Aw.skip ?_) (fun h1 => ?_)
  · have hlt : k < a.length := by have := of_decide_eq_true h1; omega
    have hget := ints_get hlt
    have hm := hs _ (List.getElem_mem hlt)
    generalize a[k] = c at *
    have hpn : ¬ placeF c 0 b < 0 := fun h => (placeF_neg b 0).1 h hm
    have hpl := place_t b q c hb
    generalize placeF c 0 b = pv at *
    refine Aw.seq (Aw.block ?_)
    refine Aw.sm tab_ok mb0 [(3, [.int c]), (5, [.int pv])] rfl rfl ?zo ?zk
    case zo =>
      repeat' apply AllP.cons
      all_goals first | exact trivial | exact rfl | exact Nat.le_of_ble_eq_true rfl | exact Int.natCast_nonneg _ | exact hget | exact hpl
    case zk =>
    refine Aw.cond rfl (fun h2 => absurd (of_decide_eq_true h2) hpn) (fun h2 => Aw.skip ?_)
    refine Aw.em tab_ok mb0 [] rfl rfl ?zo ?zk
    case zo =>
      repeat' apply AllP.cons
      all_goals first | exact trivial | exact (by simp only [Ob.of, inR]; omega)
    case zk =>
    refine ⟨k + 1, ?zg, ?zm, ⟨?zc, ?zv, ?zh, Nat.le_of_ble_eq_true rfl⟩⟩
    case zg =>
      (repeat' (first | assumption | omega | (refine And.intro ?_ ?_)))
    case zm =>
      (repeat' (first | omega | (refine And.intro ?_ ?_)))
    case zc =>
      (repeat' (first | (refine And.intro ?_ ?_) | exact trivial | exact A.Le.refl _ | exact rfl))
    case zv =>
      (repeat' (first | (refine And.intro ?_ ?_) | exact trivial | exact A.Le.refl _ | exact rfl))
    case zh =>
      (repeat' (first | (refine And.intro ?_ ?_) | exact trivial | exact A.Le.refl _ | exact rfl))
  refine Aw.exit2 ?_
  refine Aw.sm tab_ok mb0 [] rfl rfl ?zo ?zk
  case zo =>
    repeat' apply AllP.cons
    all_goals first | exact trivial
  case zk =>
  exact Aw.ret ⟨_, .cons (.tmp _) .nil, rfl⟩
def turnF (w c : Int) : Int := c - c.tmod w + w - 1 - c.tmod w
theorem turned_t (s : Sea) (h : s.Ok) (c : Int) (hc : -1000 ≤ c ∧ c ≤ 1000) : Ans Try.prog 44 [.agg s.c, .int c] (.int (turnF s.wide c)) := by
  have hw := h.w
  have p1 := placeP_bd hw hc
  simp only [placeP] at p1
  refine told Try.func44 rfl rfl (Pure.of tab_ok Try.func44 rfl Try.ntmps44 rfl (allC (.agg _ s.free) (all1 (.s _))) (allC (fun _ => rfl) (all1 (fun _ => rfl))) (by first | exact .s _ | assumption | exact .tup _ (by intro x hx; simp only [List.mem_cons, List.not_mem_nil, or_false] at hx; rcases hx with rfl | rfl | rfl | rfl <;> first | exact .s _ | (simp_all; done))) fun E hE => ?_)
  refine Aw.sm tab_ok mb0 [] rfl rfl ?zo ?zk
  case zo =>
    repeat' apply AllP.cons
    all_goals first | exact trivial
  case zk =>
  refine Aw.sd tab_ok mixed mb0 [] rfl (by kernel_rfl) rfl rfl ?zo ?zk
  case zo =>
    repeat' apply AllP.cons
    all_goals first | exact trivial | exact Nat.le_of_ble_eq_true rfl | exact (show s.wide ≠ 0 by omega) | exact (by simp only [Ob.of, inR]; omega)
  case zk =>
  exact Aw.ret ⟨_, .cons (.tmp _) .nil, rfl⟩
end Go.Proofs.Ytohbjneaaahpcaa

namespace Go.Proofs.Ytohbjneaaahpcaa
open Go Go.AL Go.AL.Q Go.AL.Sh
theorem any_take {α : Type} {p : α → Bool} {l : List α} {k : Nat} (h : k < l.length) : (l.take (k + 1)).any p = cond ((l.take k).any p) true (p l[k]) := by
  rw [List.take_succ_eq_append_getElem h, List.any_append]
  cases (l.take k).any p <;> simp
set_option maxRecDepth 20000 in
theorem meets_t (s : Sea) (ho : s.Ok) (cb sb gb : Bool) (casts : List Sp) (sm G : List Int) (hc : ∀ c ∈ casts, 0 ≤ c.lo ∧ c.lo ≤ s.many - 1) (hs : ∀ i ∈ sm, 0 ≤ i ∧ i < casts.length) (hG : ∀ p ∈ G, 0 ≤ p ∧ p < 80) (hsl : sm.length ≤ 1000) (hgl : G.length ≤ 1000) :
    Ans Try.prog 43 [.agg s.c, .sl cb .any (casts.map Sp.c), .sl sb .any (ints sm), .sl gb .any (ints G)] (.bool (fndB s.wide G casts sm)) := by
  have hm := ho.many
  have lG := ints_lenI G
  have lS := ints_lenI sm
  have us : Under 0 (A.pt s.c) := (Free.pt _ s.free).under
  have uc : Under 0 (.sl cb .any (casts.map Sp.c)) := (free_map Sp.free _ _ _).under
  have u1 : Under 0 (.sl sb .any (ints sm)) := (free_ints _ _ _).under
  have u2 : Under 0 (.sl gb .any (ints G)) := (free_ints _ _ _).under
  refine told Try.func43 rfl rfl (Pure.of tab_ok Try.func43 rfl Try.ntmps43 rfl (allC (.agg _ s.free) (allC (free_map Sp.free _ _ _) (allC (free_ints _ _ _) (all1 (free_ints _ _ _))))) (allC (fun _ => rfl) (allC (fun _ => rfl) (allC (fun _ => rfl) (all1 (fun _ => rfl))))) (by first | exact .s _ | assumption | exact .tup _ (by intro x hx; simp only [List.mem_cons, List.not_mem_nil, or_false] at hx; rcases hx with rfl | rfl | rfl | rfl <;> first | exact .s _ | (simp_all; done))) fun E hE => ?_)
  refine Aw.sm tab_ok mb0 [] rfl rfl ?zo ?zk
  case zo =>
    repeat' apply AllP.cons
    all_goals first | exact trivial
  case zk =>
  refine Aw.seq ?_
  refine Aw.sm tab_ok mb0 [] rfl rfl ?zo ?zk
  case zo =>
    repeat' apply AllP.cons
    all_goals first | exact trivial
  case zk =>
  refine Aw.block (Aw.rounds 0 hE [(1, .sl cb .any (casts.map Sp.c)), (2, .sl sb .any (ints sm)), (3, .sl gb .any (ints G)), (4, .pt s.c)] (fun k : Nat => [(9, .int k)]) (fun k => []) (fun k => k ≤ G.length ∧ ∀ i, i < k → metB s.wide casts sm (G.getD i 0) = true) (fun k => G.length - k) 0 ?zg ⟨?zc, ?zv, ?zh, Nat.le_of_ble_eq_true rfl⟩ ?zu (fun k zhk => ?zw) (fun k zhk => ?zx) fun k hk => ?zr)
  case zg =>
    (repeat' (first | exact Nat.zero_le _ | exact Nat.le_refl _ | exact trivial | exact ⟨Nat.zero_le _, fun i h => absurd h (Nat.not_lt_zero _)⟩ | exact us | exact uc | exact u1 | exact u2 | (refine And.intro ?_ ?_)))
  case zc =>
    (repeat' (first | (refine And.intro ?_ ?_) | exact trivial | exact A.Le.refl _ | exact rfl | exact ⟨Nat.zero_le _, fun i h => absurd h (Nat.not_lt_zero _)⟩ | exact us | exact uc | exact u1 | exact u2))
  case zv =>
    (repeat' (first | (refine And.intro ?_ ?_) | exact trivial | exact A.Le.refl _ | exact rfl | exact ⟨Nat.zero_le _, fun i h => absurd h (Nat.not_lt_zero _)⟩ | exact us | exact uc | exact u1 | exact u2))
  case zh =>
    (repeat' (first | (refine And.intro ?_ ?_) | exact trivial | exact A.Le.refl _ | exact rfl | exact ⟨Nat.zero_le _, fun i h => absurd h (Nat.not_lt_zero _)⟩ | exact us | exact uc | exact u1 | exact u2))
  case zu =>
    (repeat' (first | exact trivial | exact Under.s _ | exact Under.un | assumption | exact (free_ints _ _ _).under | exact Under.ref _ _ (by decide) | exact Under.ms _ _ _ (by decide) | exact Under.mp _ (by decide) | exact (Free.agg _ (by assumption)).under | exact (Free.pt _ (by assumption)).under | exact grL_under _ | exact outA_under _ | exact Nat.le_of_ble_eq_true rfl | exact (fun _ _ => rfl) | exact ⟨Nat.zero_le _, fun i h => absurd h (Nat.not_lt_zero _)⟩ | exact us | exact uc | exact u1 | exact u2 | (refine And.intro ?_ ?_)))
  case zw =>
    (repeat' (first | exact trivial | exact Under.s _ | exact Under.un | assumption | exact (free_ints _ _ _).under | exact Under.ref _ _ (by decide) | exact Under.ms _ _ _ (by decide) | exact Under.mp _ (by decide) | exact (Free.agg _ (by assumption)).under | exact (Free.pt _ (by assumption)).under | exact grL_under _ | exact outA_under _ | exact Nat.le_of_ble_eq_true rfl | exact (fun _ _ => rfl) | exact ⟨Nat.zero_le _, fun i h => absurd h (Nat.not_lt_zero _)⟩ | exact us | exact uc | exact u1 | exact u2 | (refine And.intro ?_ ?_)))
  case zx =>
    (repeat' (first | exact trivial | exact Under.s _ | exact Under.un | assumption | exact (free_ints _ _ _).under | exact Under.ref _ _ (by decide) | exact Under.ms _ _ _ (by decide) | exact Under.mp _ (by decide) | exact (Free.agg _ (by assumption)).under | exact (Free.pt _ (by assumption)).under | exact grL_under _ | exact outA_under _ | exact Nat.le_of_ble_eq_true rfl | exact (fun _ _ => rfl) | exact ⟨Nat.zero_le _, fun i h => absurd h (Nat.not_lt_zero _)⟩ | exact us | exact uc | exact u1 | exact u2 | (refine And.intro ?_ ?_)))
  case zr =>
  obtain ⟨hkk, hgo⟩ := hk
  refine Aw.seq ?_
  refine Aw.sm tab_ok mb0 [] rfl rfl ?zo ?zk
  case zo =>
    repeat' apply AllP.cons
    all_goals first | exact trivial
  case zk =>
  refine Aw.cond rfl (fun h1 => Aw.skip ?_) (fun h1 => ?_)
  · have hlt : k < G.length := by have := of_decide_eq_true h1; omega
    have hget := ints_get hlt
    have hin := hG G[k] (List.getElem_mem hlt)
    have hgk : G.getD k 0 = G[k] := by simp [List.getD_eq_getElem?_getD, hlt]
    have hmem := List.getElem_mem hlt
    generalize G[k] = p at *
    have hmet : metB s.wide casts sm p = sm.any fun i => covB s.wide (casts.getD i.toNat c0) p := rfl
    refine Aw.seq (Aw.block ?_)
    refine Aw.sm tab_ok mb0 [] rfl rfl ?zo ?zk
    case zo =>
      repeat' apply AllP.cons
      all_goals first | exact trivial
    case zk =>
    refine Aw.seq ?_
    refine Aw.sm tab_ok mb0 [] rfl rfl ?zo ?zk
    case zo =>
      repeat' apply AllP.cons
      all_goals first | exact trivial
    case zk =>
    refine Aw.block (Aw.rounds 0 hE [(1, .sl cb .any (casts.map Sp.c)), (2, .sl sb .any (ints sm)), (3, .sl gb .any (ints G)), (4, .pt s.c), (9, .int k)] (fun j : Nat => [(10, .bool ((sm.take j).any fun i => covB s.wide (casts.getD i.toNat c0) p)), (11, .int j)]) (fun j => []) (fun j => j ≤ sm.length) (fun j => sm.length - j) 0 ?zg ⟨?zc, ?zv, ?zh, Nat.le_of_ble_eq_true rfl⟩ ?zu (fun j zhk => ?zw) (fun j zhk => ?zx) fun j hk => ?zr)
    case zg =>
      (repeat' (first | exact Nat.zero_le _ | exact Nat.le_refl _ | exact trivial | exact us | exact uc | exact u1 | exact u2 | (refine And.intro ?_ ?_)))
    case zc =>
      (repeat' (first | (refine And.intro ?_ ?_) | exact trivial | exact A.Le.refl _ | exact rfl | exact us | exact uc | exact u1 | exact u2))
    case zv =>
      (repeat' (first | (refine And.intro ?_ ?_) | exact trivial | exact A.Le.refl _ | exact rfl | exact us | exact uc | exact u1 | exact u2))
    case zh =>
      (repeat' (first | (refine And.intro ?_ ?_) | exact trivial | exact A.Le.refl _ | exact rfl | exact us | exact uc | exact u1 | exact u2))
    case zu =>
      (repeat' (first | exact trivial | exact Under.s _ | exact Under.un | assumption | exact (free_ints _ _ _).under | exact Under.ref _ _ (by decide) | exact Under.ms _ _ _ (by decide) | exact Under.mp _ (by decide) | exact (Free.agg _ (by assumption)).under | exact (Free.pt _ (by assumption)).under | exact grL_under _ | exact outA_under _ | exact Nat.le_of_ble_eq_true rfl | exact (fun _ _ => rfl) | exact us | exact uc | exact u1 | exact u2 | (refine And.intro ?_ ?_)))
    case zw =>
      (repeat' (first | exact trivial | exact Under.s _ | exact Under.un | assumption | exact (free_ints _ _ _).under | exact Under.ref _ _ (by decide) | exact Under.ms _ _ _ (by decide) | exact Under.mp _ (by decide) | exact (Free.agg _ (by assumption)).under | exact (Free.pt _ (by assumption)).under | exact grL_under _ | exact outA_under _ | exact Nat.le_of_ble_eq_true rfl | exact (fun _ _ => rfl) | exact us | exact uc | exact u1 | exact u2 | (refine And.intro ?_ ?_)))
    case zx =>
      (repeat' (first | exact trivial | exact Under.s _ | exact Under.un | assumption | exact (free_ints _ _ _).under | exact Under.ref _ _ (by decide) | exact Under.ms _ _ _ (by decide) | exact Under.mp _ (by decide) | exact (Free.agg _ (by assumption)).under | exact (Free.pt _ (by assumption)).under | exact grL_under _ | exact outA_under _ | exact Nat.le_of_ble_eq_true rfl | exact (fun _ _ => rfl) | exact us | exact uc | exact u1 | exact u2 | (refine And.intro ?_ ?_)))
    case zr =>
    refine Aw.seq ?_
    refine Aw.sm tab_ok mb0 [] rfl rfl ?zo ?zk
    case zo =>
      repeat' apply AllP.cons
      all_goals first | exact trivial
    case zk =>
    refine Aw.cond rfl (fun h2 => Aw.skip ?_) (fun h2 => ?_)
    · have hlt2 : j < sm.length := by have := of_decide_eq_true h2; omega
      have hget2 := ints_get hlt2
      have hin2 := hs sm[j] (List.getElem_mem hlt2)
      have hst := any_take (p := fun i : Int => covB s.wide (casts.getD i.toNat c0) p) hlt2
      generalize sm[j] = i at *
      have hlt3 : i.toNat < casts.length := by omega
      have hget3 := get_map (f := Sp.c) hlt3
      have hin3 := hc _ (List.getElem_mem hlt3)
      have hgc : casts.getD i.toNat c0 = casts[i.toNat] := by simp [List.getD_eq_getElem?_getD, hlt3]
      rw [hgc] at hst
      generalize casts[i.toNat] = c at *
      have hcv : covB s.wide c p = decide (farF (placeP s.wide c.lo) (placeP s.wide p) ≤ c.hi) := rfl
      have hap := apart_t s ho c.lo p (by omega) (by omega)
      rw [hcv] at hst
      generalize farF (placeP s.wide c.lo) (placeP s.wide p) = d at *
      generalize (sm.take j).any (fun i => covB s.wide (casts.getD i.toNat c0) p) = m at *
      refine Aw.seq (Aw.block ?_)
      refine Aw.ed tab_ok mixed mb0 [(6, [.int i]), (8, c.c), (13, [.int p]), (15, [.int d]), (19, [.int i]), (21, c.c)] rfl (by kernel_rfl) rfl rfl ?zo ?zk
      case zo =>
        repeat' apply AllP.cons
        all_goals first | exact trivial | exact id | exact fun _ => rfl | exact fun _ => Nat.le_of_ble_eq_true rfl | exact fun _ => Int.natCast_nonneg _ | exact gq_f | exact fun _ => hget2 | exact fun _ => hget3 | exact fun _ => hget | exact fun _ => hap | exact fun _ => hin2.1
      case zk =>
      refine Aw.em tab_ok mb0 [] rfl rfl ?zo ?zk
      case zo =>
        repeat' apply AllP.cons
        all_goals first | exact trivial | exact (by simp only [Ob.of, inR]; omega)
      case zk =>
      refine ⟨j + 1, ?zg, ?zm, ⟨?zc, ?zv, ?zh, Nat.le_of_ble_eq_true rfl⟩⟩
      case zg =>
        (repeat' (first | assumption | omega | exact .of_eq (congrArg A.bool hst) | (refine And.intro ?_ ?_)))
      case zm =>
        (repeat' (first | omega | exact .of_eq (congrArg A.bool hst) | (refine And.intro ?_ ?_)))
      case zc =>
        (repeat' (first | (refine And.intro ?_ ?_) | exact trivial | exact A.Le.refl _ | exact rfl | exact .of_eq (congrArg A.bool hst)))
      case zv =>
        (repeat' (first | (refine And.intro ?_ ?_) | exact trivial | exact A.Le.refl _ | exact rfl | exact .of_eq (congrArg A.bool hst)))
      case zh =>
        (repeat' (first | (refine And.intro ?_ ?_) | exact trivial | exact A.Le.refl _ | exact rfl | exact .of_eq (congrArg A.bool hst)))
    have hle2 : j = sm.length := by have := of_decide_eq_false h2; omega
    subst hle2
    refine Aw.exit2 ?_
    rw [List.take_length, ← hmet]
    refine Aw.sm tab_ok mb0 [] rfl rfl ?zo ?zk
    case zo =>
      repeat' apply AllP.cons
      all_goals first | exact trivial
    case zk =>
    refine Aw.cond rfl (fun h3 => ?_) (fun h3 => Aw.skip ?_)
    · have h3 : metB s.wide casts sm p = false := by have h4 : (!metB s.wide casts sm p) = true := h3; simpa using h4
      have hres : fndB s.wide G casts sm = false := by
        rw [← Bool.not_eq_true]; intro h
        have := List.all_eq_true.1 h p hmem
        rw [h3] at this; cases this
      rw [hres]
      refine Aw.sm tab_ok mb0 [] rfl rfl ?zo ?zk
      case zo =>
        repeat' apply AllP.cons
        all_goals first | exact trivial
      case zk =>
      exact Aw.ret ⟨_, .cons (.tmp _) .nil, rfl⟩
    · have h3 : metB s.wide casts sm p = true := by have h4 : (!metB s.wide casts sm p) = false := h3; simpa using h4
      refine Aw.em tab_ok mb0 [] rfl rfl ?zo ?zk
      case zo =>
        repeat' apply AllP.cons
        all_goals first | exact trivial | exact (by simp only [Ob.of, inR]; omega)
      case zk =>
      refine ⟨k + 1, ?zg, ?zm, ⟨?zc, ?zv, ?zh, Nat.le_of_ble_eq_true rfl⟩⟩
      case zg =>
        (repeat' (first | assumption | omega | exact ⟨hlt, fun i2 hi => by rcases Nat.lt_or_ge i2 k with h | h; exact hgo i2 h; rw [show i2 = k by omega, hgk]; exact h3⟩ | (refine And.intro ?_ ?_)))
      case zm =>
        (repeat' (first | omega | exact ⟨hlt, fun i2 hi => by rcases Nat.lt_or_ge i2 k with h | h; exact hgo i2 h; rw [show i2 = k by omega, hgk]; exact h3⟩ | (refine And.intro ?_ ?_)))
      case zc =>
        (repeat' (first | (refine And.intro ?_ ?_) | exact trivial | exact A.Le.refl _ | exact rfl | exact ⟨hlt, fun i2 hi => by rcases Nat.lt_or_ge i2 k with h | h; exact hgo i2 h; rw [show i2 = k by omega, hgk]; exact h3⟩))
      case zv =>
        (repeat' (first | (refine And.intro ?_ ?_) | exact trivial | exact A.Le.refl _ | exact rfl | exact ⟨hlt, fun i2 hi => by rcases Nat.lt_or_ge i2 k with h | h; exact hgo i2 h; rw [show i2 = k by omega, hgk]; exact h3⟩))
      case zh =>
        (repeat' (first | (refine And.intro ?_ ?_) | exact trivial | exact A.Le.refl _ | exact rfl | exact ⟨hlt, fun i2 hi => by rcases Nat.lt_or_ge i2 k with h | h; exact hgo i2 h; rw [show i2 = k by omega, hgk]; exact h3⟩))
  have hle : k = G.length := by have := of_decide_eq_false h1; omega
  subst hle
  have hres : fndB s.wide G casts sm = true := List.all_eq_true.2 fun p hp => by
    obtain ⟨k2, hk2, rfl⟩ := List.getElem_of_mem hp
    have := hgo k2 hk2
    rwa [show G.getD k2 0 = G[k2] by simp [List.getD_eq_getElem?_getD, hk2]] at this
  rw [hres]
  refine Aw.exit2 ?_
  refine Aw.sm tab_ok mb0 [] rfl rfl ?zo ?zk
  case zo =>
    repeat' apply AllP.cons
    all_goals first | exact trivial
  case zk =>
  exact Aw.ret ⟨_, .cons (.tmp _) .nil, rfl⟩
def goOn (s : Sea) (h : Nat) (t : List Nat) (c : Nat) : Bool := watP s c && (h == 0 || stp s (h - 1) (t.getD (h - 1) 0) c)
def nxK (s : Sea) (h : Nat) (t : List Nat) (n : Nat) : List Int := ((List.range n).filter (goOn s h t)).map Int.ofNat
theorem nxK_succ (s : Sea) (h : Nat) (t : List Nat) (n : Nat) : nxK s h t (n + 1) = if goOn s h t n then nxK s h t n ++ [(n : Int)] else nxK s h t n := by
  unfold nxK
  rw [List.range_succ, List.filter_append, List.map_append, List.filter_cons]
  cases goOn s h t n <;> simp
theorem nxK_len (s : Sea) (h : Nat) (t : List Nat) (n : Nat) : (nxK s h t n).length ≤ n := by
  unfold nxK; rw [List.length_map]; exact Nat.le_trans (List.length_filter_le _ _) (by simp)
theorem pickF_mem {l : List Int} (h : l ≠ []) (n : Int) : pickF l n ∈ l := by
  have hl : 0 < l.length := by cases l with | nil => exact absurd rfl h | cons x l => simp
  unfold pickF
  rw [if_neg (by omega)]
  have h1 := Int.emod_nonneg n (show (l.length : Int) ≠ 0 by omega)
  have h2 := Int.emod_lt_of_pos n (show (0 : Int) < l.length by omega)
  have h3 : (n % l.length).toNat < l.length := by omega
  rw [List.getD_eq_getElem?_getD, List.getElem?_eq_getElem h3]
  exact List.getElem_mem h3
def swGo (s : Sea) (bits : List Int) : Nat → Nat → List Nat → List Nat
  | 0, _, t => t
  | f + 1, h, t => if nxK s h t s.many.toNat = [] then t else swGo s bits f (h + 1) (t ++ [(pickF (nxK s h t s.many.toNat) (pickF bits h)).toNat])
def swumF (s : Sea) (bits : List Int) : List Nat := swGo s bits (hrs s) 0 []
end Go.Proofs.Ytohbjneaaahpcaa

namespace Go.Proofs.Ytohbjneaaahpcaa
open Go Go.AL Go.AL.Q Go.AL.Sh
theorem absB {e sp : Int} : decide (absI e > sp) = !wi e (-sp) sp := by
  have := absI_bd (n := e)
  rw [Bool.eq_iff_iff, decide_eq_true_eq, Bool.not_eq_true', ← Bool.not_eq_true, wi_iff]
  constructor
  · intro h h2; omega
  · intro h
    by_cases h2 : absI e > sp
    · exact h2
    · exact absurd (by omega) h
theorem stp_wi {s : Sea} (ho : s.Ok) (h a b : Nat) : (cond (decide (absI ((b : Int).tmod s.wide - (a : Int).tmod s.wide - (s.step h).lo) > s.speed)) true (decide (absI ((b : Int).tdiv s.wide - (a : Int).tdiv s.wide - (s.step h).hi) > s.speed))) = !stp s h a b := by
  have := step_eq ho h a b
  rw [absB, absB, show stp s h a b = s.steps h (placeP s.wide (a : Int)) (placeP s.wide (b : Int)) from rfl, ← this]
  generalize wi ((b : Int).tmod s.wide - (a : Int).tmod s.wide - (s.step h).lo) (-s.speed) s.speed = x
  generalize wi ((b : Int).tdiv s.wide - (a : Int).tdiv s.wide - (s.step h).hi) (-s.speed) s.speed = y
  cases x <;> cases y <;> rfl
theorem nxK_in {s : Sea} (ho : s.Ok) {h : Nat} {t : List Nat} {v : Int} (hv : v ∈ nxK s h t s.many.toNat) : (v.toNat : Int) = v ∧ v.toNat ∈ cellsL s ∧ goOn s h t v.toNat = true := by
  obtain ⟨k, hk, rfl⟩ := List.mem_map.1 hv
  obtain ⟨h1, h2⟩ := List.mem_filter.1 hk
  refine ⟨rfl, List.mem_filter.2 ⟨h1, ?_⟩, h2⟩
  simp only [goOn, Bool.and_eq_true] at h2
  exact h2.1
set_option maxRecDepth 20000 in
set_option maxHeartbeats 1000000 in
theorem swum_t (s : Sea) (hf : SeaFit s) (ho : s.Ok) (bb : Bool) (bits : List Int) (hb : (bits.length : Int) ≤ 9223372036854775806) : Ans Try.prog 33 [.agg s.c, .sl bb .any (ints bits)] (outA (tI (swumF s bits))) := by
  have hfr : Free (outA (tI (swumF s bits))) := outA_free _
  have hhr := ho.hr
  have hp := hrs_pos ho
  have hm := ho.many
  have hmm : s.wide * s.high = s.many := rfl
  have hdl := ho.dl
  have hw := ho.w
  have us : ∀ {m : Nat}, Under m (A.pt s.c) := (Free.pt _ s.free).under
  have ub : ∀ {m : Nat}, Under m (.sl bb .any (ints bits)) := (free_ints _ _ _).under
  generalize hF : swumF s bits = F at *
  refine told Try.func33 rfl rfl (Pure.of tab_ok Try.func33 rfl Try.ntmps33 rfl (allC (.agg _ s.free) (all1 (free_ints _ _ _))) (allC (fun _ => rfl) (all1 (fun _ => rfl))) (by first | exact .s _ | assumption | exact .tup _ (by intro x hx; simp only [List.mem_cons, List.not_mem_nil, or_false] at hx; rcases hx with rfl | rfl | rfl | rfl <;> first | exact .s _ | (simp_all; done))) fun E hE => ?_)
  refine Aw.sm tab_ok mb0 [] rfl rfl ?zo ?zk
  case zo =>
    repeat' apply AllP.cons
    all_goals first | exact trivial
  case zk =>
  refine Aw.sm tab_ok mb0 [] rfl rfl ?zo ?zk
  case zo =>
    repeat' apply AllP.cons
    all_goals first | exact trivial
  case zk =>
  refine Aw.seq ?_
  refine Aw.sm tab_ok mb0 [] rfl rfl ?zo ?zk
  case zo =>
    repeat' apply AllP.cons
    all_goals first | exact trivial
  case zk =>
  refine Aw.block (Aw.rounds 0 hE [(1, .sl bb .any (ints bits)), (2, .pt s.c)] (fun i : (Nat×List Nat) => [(5, grL 3 (tI i.2)), (6, .int i.1)]) (fun i => []) (fun i => (i.1 ≤ hrs s ∧ i.2.length = i.1) ∧ (∀ c ∈ i.2, c ∈ cellsL s) ∧ swGo s bits (hrs s - i.1) i.1 i.2 = F) (fun i => hrs s - i.1) (0, []) ?zg ⟨?zc, ?zv, ?zh, Nat.le_of_ble_eq_true rfl⟩ ?zu (fun i zhk => ?zw) (fun i zhk => ?zx) fun i hk => ?zr)
  case zg =>
    (repeat' (first | exact Nat.zero_le _ | exact Nat.le_refl _ | exact trivial | exact ⟨⟨Nat.zero_le _, rfl⟩, fun _ h => absurd h (by simp), hF⟩ | exact us | exact ub | (refine And.intro ?_ ?_)))
  case zc =>
    (repeat' (first | (refine And.intro ?_ ?_) | exact trivial | exact A.Le.refl _ | exact rfl | exact ⟨⟨Nat.zero_le _, rfl⟩, fun _ h => absurd h (by simp), hF⟩ | exact us | exact ub))
  case zv =>
    (repeat' (first | (refine And.intro ?_ ?_) | exact trivial | exact A.Le.refl _ | exact rfl | exact ⟨⟨Nat.zero_le _, rfl⟩, fun _ h => absurd h (by simp), hF⟩ | exact us | exact ub))
  case zh =>
    (repeat' (first | (refine And.intro ?_ ?_) | exact trivial | exact A.Le.refl _ | exact rfl | exact ⟨⟨Nat.zero_le _, rfl⟩, fun _ h => absurd h (by simp), hF⟩ | exact us | exact ub))
  case zu =>
    (repeat' (first | exact trivial | exact Under.s _ | exact Under.un | assumption | exact (free_ints _ _ _).under | exact Under.ref _ _ (by decide) | exact Under.ms _ _ _ (by decide) | exact Under.mp _ (by decide) | exact (Free.agg _ (by assumption)).under | exact (Free.pt _ (by assumption)).under | exact grL_under _ | exact outA_under _ | exact Nat.le_of_ble_eq_true rfl | exact (fun _ _ => rfl) | exact ⟨⟨Nat.zero_le _, rfl⟩, fun _ h => absurd h (by simp), hF⟩ | exact us | exact ub | (refine And.intro ?_ ?_)))
  case zw =>
    (repeat' (first | exact trivial | exact Under.s _ | exact Under.un | assumption | exact (free_ints _ _ _).under | exact Under.ref _ _ (by decide) | exact Under.ms _ _ _ (by decide) | exact Under.mp _ (by decide) | exact (Free.agg _ (by assumption)).under | exact (Free.pt _ (by assumption)).under | exact grL_under _ | exact outA_under _ | exact Nat.le_of_ble_eq_true rfl | exact (fun _ _ => rfl) | exact ⟨⟨Nat.zero_le _, rfl⟩, fun _ h => absurd h (by simp), hF⟩ | exact us | exact ub | (refine And.intro ?_ ?_)))
  case zx =>
    (repeat' (first | exact trivial | exact Under.s _ | exact Under.un | assumption | exact (free_ints _ _ _).under | exact Under.ref _ _ (by decide) | exact Under.ms _ _ _ (by decide) | exact Under.mp _ (by decide) | exact (Free.agg _ (by assumption)).under | exact (Free.pt _ (by assumption)).under | exact grL_under _ | exact outA_under _ | exact Nat.le_of_ble_eq_true rfl | exact (fun _ _ => rfl) | exact ⟨⟨Nat.zero_le _, rfl⟩, fun _ h => absurd h (by simp), hF⟩ | exact us | exact ub | (refine And.intro ?_ ?_)))
  case zr =>
  obtain ⟨h, t⟩ := i
  obtain ⟨⟨hh, hlt⟩, hcell, hsw⟩ := hk
  simp only at hh hlt hcell hsw
  refine Aw.seq ?_
  refine Aw.sm tab_ok mb0 [] rfl rfl ?zo ?zk
  case zo =>
    repeat' apply AllP.cons
    all_goals first | exact trivial | exact Nat.le_of_ble_eq_true rfl
  case zk =>
  refine Aw.cond rfl (fun h1 => Aw.skip ?_) (fun h1 => ?_)
  · have hlh : h < hrs s := by have := of_decide_eq_true h1; omega
    refine Aw.seq (Aw.block ?_)
    refine Aw.sm tab_ok mb0 [] rfl rfl ?zo ?zk
    case zo =>
      repeat' apply AllP.cons
      all_goals first | exact trivial
    case zk =>
    refine Aw.seq ?_
    refine Aw.sm tab_ok mb0 [] rfl rfl ?zo ?zk
    case zo =>
      repeat' apply AllP.cons
      all_goals first | exact trivial
    case zk =>
    have ut : ∀ {m : Nat}, Under m (grL 3 (tI t)) := grL_under _
    have nz : nxK s h t 0 = [] := rfl
    refine Aw.block (Aw.rounds 0 hE [(1, .sl bb .any (ints bits)), (2, .pt s.c), (5, grL 3 (tI t)), (6, .int h)] (fun c : Nat => [(7, grL 3 (nxK s h t c)), (8, .int c)]) (fun c => []) (fun c => c ≤ s.many.toNat) (fun c => s.many.toNat - c) 0 ?zg ⟨?zc, ?zv, ?zh, Nat.le_of_ble_eq_true rfl⟩ ?zu (fun c zhk => ?zw) (fun c zhk => ?zx) fun c hk => ?zr)
    case zg =>
      (repeat' (first | exact Nat.zero_le _ | exact Nat.le_refl _ | exact trivial | exact us | exact ub | exact ut | (refine And.intro ?_ ?_)))
    case zc =>
      (repeat' (first | (refine And.intro ?_ ?_) | exact trivial | exact A.Le.refl _ | exact rfl | exact us | exact ub | exact ut))
    case zv =>
      (repeat' (first | (refine And.intro ?_ ?_) | exact trivial | exact A.Le.refl _ | exact rfl | exact us | exact ub | exact ut))
    case zh =>
      (repeat' (first | (refine And.intro ?_ ?_) | exact trivial | exact A.Le.refl _ | exact rfl | exact us | exact ub | exact ut))
    case zu =>
      (repeat' (first | exact trivial | exact Under.s _ | exact Under.un | assumption | exact (free_ints _ _ _).under | exact Under.ref _ _ (by decide) | exact Under.ms _ _ _ (by decide) | exact Under.mp _ (by decide) | exact (Free.agg _ (by assumption)).under | exact (Free.pt _ (by assumption)).under | exact grL_under _ | exact outA_under _ | exact Nat.le_of_ble_eq_true rfl | exact (fun _ _ => rfl) | exact us | exact ub | exact ut | (refine And.intro ?_ ?_)))
    case zw =>
      (repeat' (first | exact trivial | exact Under.s _ | exact Under.un | assumption | exact (free_ints _ _ _).under | exact Under.ref _ _ (by decide) | exact Under.ms _ _ _ (by decide) | exact Under.mp _ (by decide) | exact (Free.agg _ (by assumption)).under | exact (Free.pt _ (by assumption)).under | exact grL_under _ | exact outA_under _ | exact Nat.le_of_ble_eq_true rfl | exact (fun _ _ => rfl) | exact us | exact ub | exact ut | (refine And.intro ?_ ?_)))
    case zx =>
      (repeat' (first | exact trivial | exact Under.s _ | exact Under.un | assumption | exact (free_ints _ _ _).under | exact Under.ref _ _ (by decide) | exact Under.ms _ _ _ (by decide) | exact Under.mp _ (by decide) | exact (Free.agg _ (by assumption)).under | exact (Free.pt _ (by assumption)).under | exact grL_under _ | exact outA_under _ | exact Nat.le_of_ble_eq_true rfl | exact (fun _ _ => rfl) | exact us | exact ub | exact ut | (refine And.intro ?_ ?_)))
    case zr =>
    refine Aw.seq ?_
    refine Aw.sm tab_ok mb0 [] rfl rfl ?zo ?zk
    case zo =>
      repeat' apply AllP.cons
      all_goals first | exact trivial | exact Nat.le_of_ble_eq_true rfl | exact (by simp only [Ob.of, inR]; omega)
    case zk =>
    refine Aw.cond rfl (fun h2 => Aw.skip ?_) (fun h2 => ?_)
    · have hlc : (c : Int) < s.many := of_decide_eq_true h2
      have hsu := nxK_succ s h t c
      have hgl := nxK_len s h t c
      have hpl := place_t s.land s.ln c hf.l
      have hla : (0 ≤ placeF c 0 s.land ↔ isLand s.wide s.land (placeP s.wide c) = true) := by
        rw [isLand_iff hw.1]
        have := placeF_neg (c := (c : Int)) s.land 0
        constructor
        · intro h3; by_cases h4 : (c : Int) ∈ s.land
          · exact h4
          · have := this.2 h4; omega
        · intro h3; by_cases h4 : placeF c 0 s.land < 0
          · exact absurd h3 (this.1 h4)
          · omega
      have hwat : watP s c = !isLand s.wide s.land (placeP s.wide c) := rfl
      have p1 := placeP_bd hw (show -1000 ≤ (c : Int) ∧ (c : Int) ≤ 1000 by omega)
      simp only [placeP] at p1
      generalize placeF (c : Int) 0 s.land = pv at *
      refine Aw.seq (Aw.block ?_)
      refine Aw.seq ?_
      refine Aw.sm tab_ok mb0 [(3, [.int pv])] rfl rfl ?zo ?zk
      case zo =>
        repeat' apply AllP.cons
        all_goals first | exact trivial | exact Nat.le_of_ble_eq_true rfl | exact hpl
      case zk =>
      refine Aw.cond rfl (fun h3 => Aw.exit (thenE (blkE ?_))) (fun h3 => Aw.skip ?_)
      · have h3 := of_decide_eq_true (show decide (pv ≥ 0) = true from h3)
        have hgo : goOn s h t c = false := by simp [goOn, hwat, hla.1 h3]
        rw [hgo, if_neg (by decide)] at hsu
        refine Aw.em tab_ok mb0 [] rfl rfl ?zo ?zk
        case zo =>
          repeat' apply AllP.cons
          all_goals first | exact trivial | exact (by simp only [Ob.of, inR]; omega)
        case zk =>
        refine ⟨c + 1, ?zg, ?zm, ⟨?zc, ?zv, ?zh, Nat.le_of_ble_eq_true rfl⟩⟩
        case zg =>
          (repeat' (first | assumption | omega | exact .of_eq (by rw [hsu]; rfl) | (refine And.intro ?_ ?_)))
        case zm =>
          (repeat' (first | omega | exact .of_eq (by rw [hsu]; rfl) | (refine And.intro ?_ ?_)))
        case zc =>
          (repeat' (first | (refine And.intro ?_ ?_) | exact trivial | exact A.Le.refl _ | exact rfl | exact .of_eq (by rw [hsu]; rfl)))
        case zv =>
          (repeat' (first | (refine And.intro ?_ ?_) | exact trivial | exact A.Le.refl _ | exact rfl | exact .of_eq (by rw [hsu]; rfl)))
        case zh =>
          (repeat' (first | (refine And.intro ?_ ?_) | exact trivial | exact A.Le.refl _ | exact rfl | exact .of_eq (by rw [hsu]; rfl)))
      have h3 := of_decide_eq_false (show decide (pv ≥ 0) = false from h3)
      have hnl : isLand s.wide s.land (placeP s.wide c) = false := by
        rw [← Bool.not_eq_true]; intro h4; have := hla.2 h4; omega
      have hgo : goOn s h t c = (h == 0 || stp s (h - 1) (t.getD (h - 1) 0) c) := by simp [goOn, hwat, hnl]
      rw [hgo] at hsu
      refine Aw.seq ?_
      refine Aw.sm tab_ok mb0 [] rfl rfl ?zo ?zk
      case zo =>
        repeat' apply AllP.cons
        all_goals first | exact trivial
      case zk =>
      cases h with
      | zero =>
        have htn : t = [] := List.eq_nil_of_length_eq_zero hlt
        subst htn
        refine Aw.cond rfl (fun h4 => absurd (of_decide_eq_true (show decide (((0 : Nat) : Int) > 0) = true from h4)) (by decide)) (fun h4 => Aw.skip ?_)
        rw [if_pos (show (0 == 0 || stp s (0 - 1) (([] : List Nat).getD (0 - 1) 0) c) = true from rfl)] at hsu
        generalize nxK s 0 [] c = N at *
        cases N with
        | nil =>
          refine Aw.em tab_ok mb0 [] rfl rfl ?zo ?zk
          case zo =>
            repeat' apply AllP.cons
            all_goals first | exact trivial | exact Nat.le_of_ble_eq_true rfl | exact (show ∀ z ∈ [] ++ [[A.int _]], z.length = 1 from fun z hz => by simp at hz; subst hz; rfl)
          case zk =>
          refine Aw.em tab_ok mb0 [] rfl rfl ?zo ?zk
          case zo =>
            repeat' apply AllP.cons
            all_goals first | exact trivial | exact (by simp only [Ob.of, inR]; omega)
          case zk =>
          refine ⟨c + 1, ?zg, ?zm, ⟨?zc, ?zv, ?zh, Nat.le_of_ble_eq_true rfl⟩⟩
          case zg =>
            (repeat' (first | assumption | omega | exact .of_eq (by rw [hsu]; rfl) | (refine And.intro ?_ ?_)))
          case zm =>
            (repeat' (first | omega | exact .of_eq (by rw [hsu]; rfl) | (refine And.intro ?_ ?_)))
          case zc =>
            (repeat' (first | (refine And.intro ?_ ?_) | exact trivial | exact A.Le.refl _ | exact rfl | exact .of_eq (by rw [hsu]; rfl)))
          case zv =>
            (repeat' (first | (refine And.intro ?_ ?_) | exact trivial | exact A.Le.refl _ | exact rfl | exact .of_eq (by rw [hsu]; rfl)))
          case zh =>
            (repeat' (first | (refine And.intro ?_ ?_) | exact trivial | exact A.Le.refl _ | exact rfl | exact .of_eq (by rw [hsu]; rfl)))
        | cons x0 N0 =>
          have hl2 : (ints (x0 :: N0)).length ≤ c := by simp only [ints, List.length_map]; exact hgl
          have hz : ∀ z ∈ ints (x0 :: N0), z.length = 1 := fun z hz => by obtain ⟨i, _, rfl⟩ := List.mem_map.1 hz; rfl
          refine Aw.em tab_ok mb0 [] rfl rfl ?zo ?zk
          case zo =>
            repeat' apply AllP.cons
            all_goals first | exact trivial | exact Nat.le_of_ble_eq_true rfl | exact (show ∀ z ∈ [[A.int _]], z.length = 1 from fun z hz => by simp at hz; subst hz; rfl) | exact hz | exact (show ((ints (x0 :: N0)).length + 1) * 8 ≤ 140737488355328 by omega) | exact (show (ints (x0 :: N0)).length + 1 ≤ maxLen by unfold maxLen; omega)
          case zk =>
          refine Aw.em tab_ok mb0 [] rfl rfl ?zo ?zk
          case zo =>
            repeat' apply AllP.cons
            all_goals first | exact trivial | exact (by simp only [Ob.of, inR]; omega)
          case zk =>
          refine ⟨c + 1, ?zg, ?zm, ⟨?zc, ?zv, ?zh, Nat.le_of_ble_eq_true rfl⟩⟩
          case zg =>
            (repeat' (first | assumption | omega | exact .of_eq (hsu ▸ (show grL 3 ((x0 :: N0) ++ [(c : Int)]) = A.sl false (.own 3) (ints (x0 :: N0) ++ [[A.int c]]) by simp [grL, ints])) | (refine And.intro ?_ ?_)))
          case zm =>
            (repeat' (first | omega | exact .of_eq (hsu ▸ (show grL 3 ((x0 :: N0) ++ [(c : Int)]) = A.sl false (.own 3) (ints (x0 :: N0) ++ [[A.int c]]) by simp [grL, ints])) | (refine And.intro ?_ ?_)))
          case zc =>
            (repeat' (first | (refine And.intro ?_ ?_) | exact trivial | exact A.Le.refl _ | exact rfl | exact .of_eq (hsu ▸ (show grL 3 ((x0 :: N0) ++ [(c : Int)]) = A.sl false (.own 3) (ints (x0 :: N0) ++ [[A.int c]]) by simp [grL, ints]))))
          case zv =>
            (repeat' (first | (refine And.intro ?_ ?_) | exact trivial | exact A.Le.refl _ | exact rfl | exact .of_eq (hsu ▸ (show grL 3 ((x0 :: N0) ++ [(c : Int)]) = A.sl false (.own 3) (ints (x0 :: N0) ++ [[A.int c]]) by simp [grL, ints]))))
          case zh =>
            (repeat' (first | (refine And.intro ?_ ?_) | exact trivial | exact A.Le.refl _ | exact rfl | exact .of_eq (hsu ▸ (show grL 3 ((x0 :: N0) ++ [(c : Int)]) = A.sl false (.own 3) (ints (x0 :: N0) ++ [[A.int c]]) by simp [grL, ints]))))
      | succ h' =>
        have hgt : t.getD h' 0 = t[h']'(by omega) := by simp [List.getD_eq_getElem?_getD, show h' < t.length by omega]
        have hl80 : t.getD h' 0 < 80 := by rw [hgt]; exact wat_lt ho (hcell _ (List.getElem_mem _))
        have hlst : (ints (tI t))[Int.toNat (((h' + 1 : Nat) : Int) - 1)]? = some [.int (t.getD h' 0 : Nat)] := by
          rw [show Int.toNat (((h' + 1 : Nat) : Int) - 1) = h' by omega, hgt]
          simp [ints, tI, show h' < t.length by omega]
        have hdr : (s.drift.map Sp.c)[Int.toNat (((h' + 1 : Nat) : Int) - 1)]? = some (s.step (h' : Nat)).c := by
          rw [show Int.toNat (((h' + 1 : Nat) : Int) - 1) = h' by omega, get_map (show h' < s.drift.length by omega)]
          unfold Sea.step
          simp [List.getD_eq_getElem?_getD, show h' < s.drift.length by omega]
        have hst := ho.st (s.step (h' : Nat)) (by unfold Sea.step; simp [List.getD_eq_getElem?_getD, show h' < s.drift.length by omega])
        have hsw2 := stp_wi ho h' (t.getD h' 0) c
        have p2 := placeP_bd hw (show -1000 ≤ ((t.getD h' 0 : Nat) : Int) ∧ ((t.getD h' 0 : Nat) : Int) ≤ 1000 by omega)
        simp only [placeP] at p2
        rw [show (h' + 1 == 0) = false from rfl, Bool.false_or, Nat.add_sub_cancel] at hsu
        generalize t.getD h' 0 = lst at *
        generalize stp s h' lst c = sv at *
        generalize s.step (h' : Nat) = d at *
        generalize nxK s (h' + 1) t c = N at *
        refine Aw.cond rfl (fun _ => ?_) (fun h4 => absurd (show ((h' + 1 : Nat) : Int) > 0 by omega) (of_decide_eq_false (show decide (((h' + 1 : Nat) : Int) > 0) = false from h4)))
        cases t with
        | nil => simp at hlt
        | cons tx T0 =>
        refine Aw.sm tab_ok mb0 [(3, [.int lst])] rfl rfl ?zo ?zk
        case zo =>
          repeat' apply AllP.cons
          all_goals first | exact trivial | exact rfl | exact Nat.le_of_ble_eq_true rfl | exact hlst | exact (by simp only [Ob.of, inR]; omega)
        case zk =>
        refine Aw.sd tab_ok mixed mb0 [(13, d.c), (30, d.c)] rfl (by kernel_rfl) rfl rfl ?zo ?zk
        case zo =>
          repeat' apply AllP.cons
          all_goals first | exact trivial | exact rfl | exact Nat.le_of_ble_eq_true rfl | exact hdr | exact (show s.wide ≠ 0 by omega) | exact (show s.wide ≠ 0 ∧ inR ((c : Int).tdiv s.wide) from ⟨by omega, by simp only [inR]; omega⟩) | exact (show s.wide ≠ 0 ∧ inR ((lst : Int).tdiv s.wide) from ⟨by omega, by simp only [inR]; omega⟩) | exact (by simp only [Ob.of, inR]; omega)
        case zk =>
        refine Aw.sd tab_ok mixed mb0 [(1, [.int (absI ((c : Int).tmod s.wide - (lst : Int).tmod s.wide - d.lo))]), (7, [.int (absI ((c : Int).tdiv s.wide - (lst : Int).tdiv s.wide - d.hi))])] rfl (by kernel_rfl) rfl rfl ?zo ?zk
        case zo =>
          repeat' apply AllP.cons
          all_goals first | exact trivial | exact id | exact fun _ => rfl | exact Nat.le_of_ble_eq_true rfl | exact fun _ => Nat.le_of_ble_eq_true rfl | exact gq_f | exact abs_t _ (by simp only [inR]; omega) | exact fun _ => abs_t _ (by simp only [inR]; omega)
        case zk =>
        refine Aw.cond rfl (fun h4 => Aw.exit (thenE (blkE ?_))) (fun h4 => Aw.skip ?_)
        · have h4 : sv = false := by have h5 := hsw2.symm.trans (show _ = true from h4); simpa using h5
          rw [h4, if_neg (by decide)] at hsu
          refine Aw.em tab_ok mb0 [] rfl rfl ?zo ?zk
          case zo =>
            repeat' apply AllP.cons
            all_goals first | exact trivial | exact (by simp only [Ob.of, inR]; omega)
          case zk =>
          refine ⟨c + 1, ?zg, ?zm, ⟨?zc, ?zv, ?zh, Nat.le_of_ble_eq_true rfl⟩⟩
          case zg =>
            (repeat' (first | assumption | omega | exact .of_eq (by rw [hsu]; rfl) | (refine And.intro ?_ ?_)))
          case zm =>
            (repeat' (first | omega | exact .of_eq (by rw [hsu]; rfl) | (refine And.intro ?_ ?_)))
          case zc =>
            (repeat' (first | (refine And.intro ?_ ?_) | exact trivial | exact A.Le.refl _ | exact rfl | exact .of_eq (by rw [hsu]; rfl)))
          case zv =>
            (repeat' (first | (refine And.intro ?_ ?_) | exact trivial | exact A.Le.refl _ | exact rfl | exact .of_eq (by rw [hsu]; rfl)))
          case zh =>
            (repeat' (first | (refine And.intro ?_ ?_) | exact trivial | exact A.Le.refl _ | exact rfl | exact .of_eq (by rw [hsu]; rfl)))
        have h4 : sv = true := by have h5 := hsw2.symm.trans (show _ = false from h4); simpa using h5
        rw [h4, if_pos rfl] at hsu
        cases N with
        | nil =>
          refine Aw.em tab_ok mb0 [] rfl rfl ?zo ?zk
          case zo =>
            repeat' apply AllP.cons
            all_goals first | exact trivial | exact Nat.le_of_ble_eq_true rfl | exact (show ∀ z ∈ [] ++ [[A.int _]], z.length = 1 from fun z hz => by simp at hz; subst hz; rfl)
          case zk =>
          refine Aw.em tab_ok mb0 [] rfl rfl ?zo ?zk
          case zo =>
            repeat' apply AllP.cons
            all_goals first | exact trivial | exact (by simp only [Ob.of, inR]; omega)
          case zk =>
          refine ⟨c + 1, ?zg, ?zm, ⟨?zc, ?zv, ?zh, Nat.le_of_ble_eq_true rfl⟩⟩
          case zg =>
            (repeat' (first | assumption | omega | exact .of_eq (by rw [hsu]; rfl) | (refine And.intro ?_ ?_)))
          case zm =>
            (repeat' (first | omega | exact .of_eq (by rw [hsu]; rfl) | (refine And.intro ?_ ?_)))
          case zc =>
            (repeat' (first | (refine And.intro ?_ ?_) | exact trivial | exact A.Le.refl _ | exact rfl | exact .of_eq (by rw [hsu]; rfl)))
          case zv =>
            (repeat' (first | (refine And.intro ?_ ?_) | exact trivial | exact A.Le.refl _ | exact rfl | exact .of_eq (by rw [hsu]; rfl)))
          case zh =>
            (repeat' (first | (refine And.intro ?_ ?_) | exact trivial | exact A.Le.refl _ | exact rfl | exact .of_eq (by rw [hsu]; rfl)))
        | cons x0 N0 =>
          have hl2 : (ints (x0 :: N0)).length ≤ c := by simp only [ints, List.length_map]; exact hgl
          have hz : ∀ z ∈ ints (x0 :: N0), z.length = 1 := fun z hz => by obtain ⟨i, _, rfl⟩ := List.mem_map.1 hz; rfl
          refine Aw.em tab_ok mb0 [] rfl rfl ?zo ?zk
          case zo =>
            repeat' apply AllP.cons
            all_goals first | exact trivial | exact Nat.le_of_ble_eq_true rfl | exact (show ∀ z ∈ [[A.int _]], z.length = 1 from fun z hz => by simp at hz; subst hz; rfl) | exact hz | exact (show ((ints (x0 :: N0)).length + 1) * 8 ≤ 140737488355328 by omega) | exact (show (ints (x0 :: N0)).length + 1 ≤ maxLen by unfold maxLen; omega)
          case zk =>
          refine Aw.em tab_ok mb0 [] rfl rfl ?zo ?zk
          case zo =>
            repeat' apply AllP.cons
            all_goals first | exact trivial | exact (by simp only [Ob.of, inR]; omega)
          case zk =>
          refine ⟨c + 1, ?zg, ?zm, ⟨?zc, ?zv, ?zh, Nat.le_of_ble_eq_true rfl⟩⟩
          case zg =>
            (repeat' (first | assumption | omega | exact .of_eq (hsu ▸ (show grL 3 ((x0 :: N0) ++ [(c : Int)]) = A.sl false (.own 3) (ints (x0 :: N0) ++ [[A.int c]]) by simp [grL, ints])) | (refine And.intro ?_ ?_)))
          case zm =>
            (repeat' (first | omega | exact .of_eq (hsu ▸ (show grL 3 ((x0 :: N0) ++ [(c : Int)]) = A.sl false (.own 3) (ints (x0 :: N0) ++ [[A.int c]]) by simp [grL, ints])) | (refine And.intro ?_ ?_)))
          case zc =>
            (repeat' (first | (refine And.intro ?_ ?_) | exact trivial | exact A.Le.refl _ | exact rfl | exact .of_eq (hsu ▸ (show grL 3 ((x0 :: N0) ++ [(c : Int)]) = A.sl false (.own 3) (ints (x0 :: N0) ++ [[A.int c]]) by simp [grL, ints]))))
          case zv =>
            (repeat' (first | (refine And.intro ?_ ?_) | exact trivial | exact A.Le.refl _ | exact rfl | exact .of_eq (hsu ▸ (show grL 3 ((x0 :: N0) ++ [(c : Int)]) = A.sl false (.own 3) (ints (x0 :: N0) ++ [[A.int c]]) by simp [grL, ints]))))
          case zh =>
            (repeat' (first | (refine And.intro ?_ ?_) | exact trivial | exact A.Le.refl _ | exact rfl | exact .of_eq (hsu ▸ (show grL 3 ((x0 :: N0) ++ [(c : Int)]) = A.sl false (.own 3) (ints (x0 :: N0) ++ [[A.int c]]) by simp [grL, ints]))))
    · have hlc : c = s.many.toNat := by have := of_decide_eq_false (show decide ((c : Int) < s.many) = false from h2); omega
      subst hlc
      have hgl := nxK_len s h t s.many.toNat
      have hnx := fun v (hv : v ∈ nxK s h t s.many.toNat) => nxK_in ho hv
      refine Aw.exit2 ?_
      rw [show hrs s - h = (hrs s - (h + 1)) + 1 by omega, swGo] at hsw
      generalize nxK s h t s.many.toNat = N at *
      refine Aw.seq ?_
      cases N with
      | nil =>
        rw [if_pos rfl] at hsw
        subst hsw
        refine Aw.sm tab_ok mb0 [] rfl rfl ?zo ?zk
        case zo =>
          repeat' apply AllP.cons
          all_goals first | exact trivial
        case zk =>
        refine Aw.cond rfl (fun _ => ?_) (fun h3 => absurd h3 (by decide))
        cases t with
        | nil =>
          refine Aw.sm tab_ok mb0 [] rfl rfl ?zo ?zk
          case zo =>
            repeat' apply AllP.cons
            all_goals first | exact trivial
          case zk =>
          exact Aw.ret ⟨_, .cons (.tmp _) .nil, rfl⟩
        | cons tx T0 =>
          refine Aw.sm tab_ok mb0 [] rfl rfl ?zo ?zk
          case zo =>
            repeat' apply AllP.cons
            all_goals first | exact trivial
          case zk =>
          exact Aw.ret ⟨_, .cons (.tmp _) .nil, rfl⟩
      | cons n0 N0 =>
        rw [if_neg (by simp)] at hsw
        have hv := hnx _ (pickF_mem (l := n0 :: N0) (by simp) (pickF bits h))
        have hk1 := pick_t bb bits h (by omega)
        have hk2 := pick_t false (n0 :: N0) (pickF bits h) (by omega)
        have hN : ((ints (n0 :: N0)).length : Int) = (n0 :: N0).length := ints_lenI _
        refine Aw.sm tab_ok mb0 [] rfl rfl ?zo ?zk
        case zo =>
          repeat' apply AllP.cons
          all_goals first | exact trivial
        case zk =>
        refine Aw.cond rfl (fun h3 => absurd (of_decide_eq_true (show decide (((ints (n0 :: N0)).length : Int) = 0) = true from h3)) (by rw [hN]; simp; omega)) (fun _ => Aw.skip ?_)
        generalize pickF (n0 :: N0) (pickF bits h) = v at *
        generalize pickF bits (h : Int) = pb at *
        have hsn : tI (t ++ [v.toNat]) = tI t ++ [v] := by
          unfold tI; rw [List.map_append]; exact congrArg (fun x => List.map Int.ofNat t ++ [x]) hv.1
        have hcs : ∀ c ∈ t ++ [v.toNat], c ∈ cellsL s := fun c hc => by
          rcases List.mem_append.1 hc with h5 | h5
          · exact hcell c h5
          · rw [List.mem_singleton] at h5; rw [h5]; exact hv.2.1
        cases t with
        | nil =>
          refine Aw.em tab_ok mb0 [(4, [.int pb]), (5, [.int v])] rfl rfl ?zo ?zk
          case zo =>
            repeat' apply AllP.cons
            all_goals first | exact trivial | exact Nat.le_of_ble_eq_true rfl | exact hk1 | exact hk2 | exact (show ∀ z ∈ [] ++ [[A.int _]], z.length = 1 from fun z hz => by simp at hz; subst hz; rfl)
          case zk =>
          refine Aw.em tab_ok mb0 [] rfl rfl ?zo ?zk
          case zo =>
            repeat' apply AllP.cons
            all_goals first | exact trivial | exact (by simp only [Ob.of, inR]; omega)
          case zk =>
          refine ⟨(h + 1, [] ++ [v.toNat]), ?zg, ?zm, ⟨?zc, ?zv, ?zh, Nat.le_of_ble_eq_true rfl⟩⟩
          case zg =>
            (repeat' (first | assumption | omega | exact ⟨⟨hlh, by simp at hlt ⊢; omega⟩, hcs, hsw⟩ | exact (by show hrs s - (h + 1) < hrs s - h; omega) | exact .of_eq (by show grL 3 (tI ([] ++ [v.toNat])) = _; rw [hsn]; rfl) | (refine And.intro ?_ ?_)))
          case zm =>
            (repeat' (first | omega | exact ⟨⟨hlh, by simp at hlt ⊢; omega⟩, hcs, hsw⟩ | exact (by show hrs s - (h + 1) < hrs s - h; omega) | exact .of_eq (by show grL 3 (tI ([] ++ [v.toNat])) = _; rw [hsn]; rfl) | (refine And.intro ?_ ?_)))
          case zc =>
            (repeat' (first | (refine And.intro ?_ ?_) | exact trivial | exact A.Le.refl _ | exact rfl | exact ⟨⟨hlh, by simp at hlt ⊢; omega⟩, hcs, hsw⟩ | exact (by show hrs s - (h + 1) < hrs s - h; omega) | exact .of_eq (by show grL 3 (tI ([] ++ [v.toNat])) = _; rw [hsn]; rfl)))
          case zv =>
            (repeat' (first | (refine And.intro ?_ ?_) | exact trivial | exact A.Le.refl _ | exact rfl | exact ⟨⟨hlh, by simp at hlt ⊢; omega⟩, hcs, hsw⟩ | exact (by show hrs s - (h + 1) < hrs s - h; omega) | exact .of_eq (by show grL 3 (tI ([] ++ [v.toNat])) = _; rw [hsn]; rfl)))
          case zh =>
            (repeat' (first | (refine And.intro ?_ ?_) | exact trivial | exact A.Le.refl _ | exact rfl | exact ⟨⟨hlh, by simp at hlt ⊢; omega⟩, hcs, hsw⟩ | exact (by show hrs s - (h + 1) < hrs s - h; omega) | exact .of_eq (by show grL 3 (tI ([] ++ [v.toNat])) = _; rw [hsn]; rfl)))
        | cons tx T0 =>
          have hl12 : (ints (tI (tx :: T0))).length ≤ 12 := by simp only [ints, tI, List.length_map]; omega
          have hz : ∀ z ∈ ints (tI (tx :: T0)), z.length = 1 := fun z hz => by obtain ⟨i, _, rfl⟩ := List.mem_map.1 hz; rfl
          refine Aw.em tab_ok mb0 [(4, [.int pb]), (5, [.int v])] rfl rfl ?zo ?zk
          case zo =>
            repeat' apply AllP.cons
            all_goals first | exact trivial | exact Nat.le_of_ble_eq_true rfl | exact hk1 | exact hk2 | exact (show ∀ z ∈ [[A.int _]], z.length = 1 from fun z hz => by simp at hz; subst hz; rfl) | exact hz | exact (show ((ints (tI (tx :: T0))).length + 1) * 8 ≤ 140737488355328 by omega) | exact (show (ints (tI (tx :: T0))).length + 1 ≤ maxLen by unfold maxLen; omega)
          case zk =>
          refine Aw.em tab_ok mb0 [] rfl rfl ?zo ?zk
          case zo =>
            repeat' apply AllP.cons
            all_goals first | exact trivial | exact (by simp only [Ob.of, inR]; omega)
          case zk =>
          refine ⟨(h + 1, (tx :: T0) ++ [v.toNat]), ?zg, ?zm, ⟨?zc, ?zv, ?zh, Nat.le_of_ble_eq_true rfl⟩⟩
          case zg =>
            (repeat' (first | assumption | omega | exact ⟨⟨hlh, by simp at hlt ⊢; omega⟩, hcs, hsw⟩ | exact (by show hrs s - (h + 1) < hrs s - h; omega) | exact .of_eq (by show grL 3 (tI ((tx :: T0) ++ [v.toNat])) = _; rw [hsn]; show A.sl false (.own 3) (ints (tI (tx :: T0) ++ [v])) = A.sl false (.own 3) (ints (tI (tx :: T0)) ++ [[A.int v]]); simp [ints]) | (refine And.intro ?_ ?_)))
          case zm =>
            (repeat' (first | omega | exact ⟨⟨hlh, by simp at hlt ⊢; omega⟩, hcs, hsw⟩ | exact (by show hrs s - (h + 1) < hrs s - h; omega) | exact .of_eq (by show grL 3 (tI ((tx :: T0) ++ [v.toNat])) = _; rw [hsn]; show A.sl false (.own 3) (ints (tI (tx :: T0) ++ [v])) = A.sl false (.own 3) (ints (tI (tx :: T0)) ++ [[A.int v]]); simp [ints]) | (refine And.intro ?_ ?_)))
          case zc =>
            (repeat' (first | (refine And.intro ?_ ?_) | exact trivial | exact A.Le.refl _ | exact rfl | exact ⟨⟨hlh, by simp at hlt ⊢; omega⟩, hcs, hsw⟩ | exact (by show hrs s - (h + 1) < hrs s - h; omega) | exact .of_eq (by show grL 3 (tI ((tx :: T0) ++ [v.toNat])) = _; rw [hsn]; show A.sl false (.own 3) (ints (tI (tx :: T0) ++ [v])) = A.sl false (.own 3) (ints (tI (tx :: T0)) ++ [[A.int v]]); simp [ints])))
          case zv =>
            (repeat' (first | (refine And.intro ?_ ?_) | exact trivial | exact A.Le.refl _ | exact rfl | exact ⟨⟨hlh, by simp at hlt ⊢; omega⟩, hcs, hsw⟩ | exact (by show hrs s - (h + 1) < hrs s - h; omega) | exact .of_eq (by show grL 3 (tI ((tx :: T0) ++ [v.toNat])) = _; rw [hsn]; show A.sl false (.own 3) (ints (tI (tx :: T0) ++ [v])) = A.sl false (.own 3) (ints (tI (tx :: T0)) ++ [[A.int v]]); simp [ints])))
          case zh =>
            (repeat' (first | (refine And.intro ?_ ?_) | exact trivial | exact A.Le.refl _ | exact rfl | exact ⟨⟨hlh, by simp at hlt ⊢; omega⟩, hcs, hsw⟩ | exact (by show hrs s - (h + 1) < hrs s - h; omega) | exact .of_eq (by show grL 3 (tI ((tx :: T0) ++ [v.toNat])) = _; rw [hsn]; show A.sl false (.own 3) (ints (tI (tx :: T0) ++ [v])) = A.sl false (.own 3) (ints (tI (tx :: T0)) ++ [[A.int v]]); simp [ints])))
  · have hle : h = hrs s := by have := of_decide_eq_false h1; omega
    rw [hle, Nat.sub_self] at hsw
    have hsw : t = F := hsw
    subst hsw
    refine Aw.exit2 ?_
    cases t with
    | nil =>
      refine Aw.sm tab_ok mb0 [] rfl rfl ?zo ?zk
      case zo =>
        repeat' apply AllP.cons
        all_goals first | exact trivial
      case zk =>
      exact Aw.ret ⟨_, .cons (.tmp _) .nil, rfl⟩
    | cons x t0 =>
      refine Aw.sm tab_ok mb0 [] rfl rfl ?zo ?zk
      case zo =>
        repeat' apply AllP.cons
        all_goals first | exact trivial
      case zk =>
      exact Aw.ret ⟨_, .cons (.tmp _) .nil, rfl⟩
end Go.Proofs.Ytohbjneaaahpcaa

namespace Go.Proofs.Ytohbjneaaahpcaa
open Go Go.AL Go.AL.Q Go.AL.Sh
theorem okW_at {s : Sea} : ∀ {T : List Nat} {h k : Nat}, okW s h T → (hk : k + 1 < T.length) → stp s (h + k) (T[k]'(by omega)) T[k + 1] = true
  | c :: T, h, 0, ok, hk => by
    cases T with
    | nil => simp at hk
    | cons d T => exact ok.2.1 d rfl
  | c :: T, h, k + 1, ok, hk => by
    have := okW_at (k := k) ok.2.2 (by simp at hk; omega)
    rw [show h + (k + 1) = h + 1 + k by omega]
    simpa using this
theorem tI_len (T : List Nat) : (tI T).length = T.length := by simp [tI]
theorem tI_at {T : List Nat} {k : Nat} (h : k < T.length) : (tI T).getD k 0 = (T[k] : Int) := by simp [tI, List.getD_eq_getElem?_getD, h]
theorem wat_at {s : Sea} {c : Nat} (ho : s.Ok) (h : c ∈ cellsL s) : wi c 0 (s.many - 1) = true ∧ isLand s.wide s.land (placeP s.wide c) = false := by
  have hm := ho.many
  obtain ⟨h1, h2⟩ := List.mem_filter.1 h
  have := List.mem_range.1 h1
  refine ⟨wi_iff.2 (by omega), ?_⟩
  have h3 : (!isLand s.wide s.land (placeP s.wide c)) = true := h2
  simpa using h3
theorem trkAt_ok {s : Sea} (ho : s.Ok) {T : List Nat} (ok : okW s 0 T) {k : Nat} (hk : k < T.length) : trkAt s (tI T) k = true := by
  have h1 := wat_at ho (okW_mem s ok _ (List.getElem_mem hk))
  unfold trkAt
  rw [tI_at hk, h1.1, h1.2]
  have hx : ∀ x : Bool, x = true → cond true (cond (!false) x false) false = true := fun x h => by rw [h]; rfl
  refine hx _ ?_
  cases k with
  | zero => rfl
  | succ j =>
    have h2 := okW_at ok hk
    rw [Nat.zero_add] at h2
    rw [Nat.add_sub_cancel, tI_at (by omega), show ((j + 1 : Nat) : Int) - 1 = (j : Int) by omega]
    have h3 : s.steps (j : Int) (placeP s.wide (T[j] : Int)) (placeP s.wide (T[j + 1] : Int)) = true := h2
    rw [h3]; cases decide (((j + 1 : Nat) : Int) > 0) <;> rfl
theorem trkSum_cost (s : Sea) (l : List Rep) (T : List Nat) : ∀ k, k ≤ T.length → trkSum s l (tI T) k = (costW s l 0 (T.take k) : Int)
  | 0, _ => by simp [trkSum, costW]
  | k + 1, h => by
    rw [trkSum, trkSum_cost s l T k (by omega), tI_at (by omega), List.take_succ_eq_append_getElem (by omega), costW_app, List.length_take, Nat.min_eq_left (by omega), Nat.zero_add, unN_eq]
    simp [costW]
theorem TrackR_ok {s : Sea} {l : List Rep} (hok : s.ok = true) (hr : s.repsOk l = true) {T : List Nat} (hT : Trk s T) : TrackR s l (tI T) = ((costW s l 0 T : Int), true, 0) := by
  have ho := Sea.ok_of hok
  have hp := hrs_pos ho
  unfold TrackR
  rw [hok, hr]
  simp only [if_true]
  rw [if_pos ⟨by rw [tI_len, hT.len]; exact hp.2.2, List.all_eq_true.2 fun k hk => trkAt_ok ho hT.ok (by have := List.mem_range.1 hk; rwa [tI_len] at this)⟩, trkSum_cost _ _ _ _ (by rw [tI_len]; exact Nat.le_refl _), tI_len, List.take_length]
theorem TrackR_short {s : Sea} {l : List Rep} (hok : s.ok = true) (hr : s.repsOk l = true) {T : List Nat} (hT : T.length ≠ hrs s) : TrackR s l (tI T) = (0, false, 0) := by
  have hp := hrs_pos (Sea.ok_of hok)
  unfold TrackR
  rw [hok, hr]
  simp only [if_true]
  rw [if_neg fun h => hT (by have := h.1; rw [tI_len] at this; omega)]
theorem swGo_ok {s : Sea} (ho : s.Ok) (bits : List Int) : ∀ (f h : Nat) (t : List Nat), t.length = h → okW s 0 t → okW s 0 (swGo s bits f h t) ∧ (swGo s bits f h t).length ≤ h + f
  | 0, h, t, hl, ok => ⟨ok, by rw [swGo]; omega⟩
  | f + 1, h, t, hl, ok => by
    rw [swGo]
    split
    · exact ⟨ok, by omega⟩
    · rename_i hne
      have hv := nxK_in ho (pickF_mem hne (pickF bits h))
      have h1 : okW s 0 (t ++ [(pickF (nxK s h t s.many.toNat) (pickF bits h)).toNat]) := okW_snoc ok hv.2.1 (by
        have h2 := hv.2.2
        simp only [goOn, Bool.and_eq_true, Bool.or_eq_true, beq_iff_eq] at h2
        rw [hl]; exact h2.2)
      have := swGo_ok ho bits f (h + 1) _ (by simp [hl]) h1
      exact ⟨this.1, by omega⟩
theorem swumF_ok {s : Sea} (ho : s.Ok) (bits : List Int) : okW s 0 (swumF s bits) ∧ (swumF s bits).length ≤ hrs s := by
  have := swGo_ok ho bits (hrs s) 0 [] rfl trivial
  exact ⟨this.1, by have := this.2; unfold swumF; omega⟩
def lieB (w : Int) (T : List Nat) (r : Rep) : Bool := !isTrueF w r (placeP w ((tI T).getD r.hour.toNat 0))
theorem costW_cons (s : Sea) (r : Rep) (l : List Rep) : ∀ (T : List Nat) (h : Nat), costW s (r :: l) h T = costW s l h T + (if (h : Int) ≤ r.hour ∧ r.hour < h + T.length ∧ isTrueF s.wide r (placeP s.wide ((tI T).getD (r.hour - h).toNat 0)) = false then 1 else 0)
  | [], h => by simp [costW]; intro _ _; omega
  | c :: T, h => by
    have hu : unN s (r :: l) h c = unN s l h c + if falseAt s.wide h (placeP s.wide c) r then 1 else 0 := by
      unfold unN; rw [List.countP_cons]
    rw [costW, costW_cons s r l T (h + 1), costW, hu]
    have hfa : falseAt s.wide h (placeP s.wide c) r = cond (r.hour == h) (!isTrueF s.wide r (placeP s.wide c)) false := rfl
    by_cases e : r.hour = h
    · have e1 : (r.hour == (h : Int)) = true := by simpa using e
      have e2 : (r.hour - h).toNat = 0 := by omega
      rw [hfa, e1, if_neg (show ¬ (((h + 1 : Nat) : Int) ≤ r.hour ∧ _) by omega), e2]
      have e3 : (tI (c :: T)).getD 0 0 = (c : Int) := rfl
      rw [e3]
      cases isTrueF s.wide r (placeP s.wide (c : Int)) with
      | true => simp
      | false => simp [e]; rw [if_pos (by omega)]; omega
    · have e1 : (r.hour == (h : Int)) = false := by simpa using e
      rw [hfa, e1]
      by_cases e2 : (h : Int) + 1 ≤ r.hour
      · have e3 : (r.hour - h).toNat = (r.hour - ((h + 1 : Nat) : Int)).toNat + 1 := by omega
        have e4 : (tI (c :: T)).getD (r.hour - h).toNat 0 = (tI T).getD (r.hour - ((h + 1 : Nat) : Int)).toNat 0 := by
          rw [e3]; simp [tI, List.getD_eq_getElem?_getD]
        rw [e4]
        have : (((h + 1 : Nat) : Int) ≤ r.hour ∧ r.hour < ((h + 1 : Nat) : Int) + T.length ∧ isTrueF s.wide r (placeP s.wide ((tI T).getD (r.hour - ((h + 1 : Nat) : Int)).toNat 0)) = false) ↔ ((h : Int) ≤ r.hour ∧ r.hour < (h : Int) + (c :: T).length ∧ isTrueF s.wide r (placeP s.wide ((tI T).getD (r.hour - ((h + 1 : Nat) : Int)).toNat 0)) = false) := by
          simp only [List.length_cons]
          constructor
          · rintro ⟨a, b, c⟩; exact ⟨by omega, by omega, c⟩
          · rintro ⟨a, b, c⟩; exact ⟨by omega, by omega, c⟩
        simp only [this]
        show unN s l h c + 0 + (costW s l (h + 1) T + _) = unN s l h c + costW s l (h + 1) T + _
        omega
      · rw [if_neg (show ¬ (((h + 1 : Nat) : Int) ≤ r.hour ∧ _) from fun h => by have := h.1; omega), if_neg (show ¬ ((h : Int) ≤ r.hour ∧ _) from fun h => by have := h.1; omega)]
        show unN s l h c + 0 + (costW s l (h + 1) T + 0) = unN s l h c + costW s l (h + 1) T + 0
        omega
theorem cost_count (s : Sea) {T : List Nat} (hT : (T.length : Int) = s.hours) : ∀ {l : List Rep}, (∀ r ∈ l, 0 ≤ r.hour ∧ r.hour ≤ s.hours - 1) → costW s l 0 T = l.countP (lieB s.wide T)
  | [], _ => by
    have : ∀ (T : List Nat) (h : Nat), costW s [] h T = 0 := by
      intro T
      induction T with
      | nil => intro h; rfl
      | cons c T ih => intro h; rw [costW, ih]; rfl
    rw [this]; rfl
  | r :: l, h => by
    have hr := h r (by simp)
    rw [costW_cons, cost_count s hT fun x hx => h x (by simp [hx]), List.countP_cons]
    congr 1
    have e : r.hour - ((0 : Nat) : Int) = r.hour := by omega
    rw [e]
    unfold lieB
    cases isTrueF s.wide r (placeP s.wide ((tI T).getD r.hour.toNat 0)) with
    | true => simp
    | false => simp; omega
theorem rising_of {n : Int} : ∀ {L : List Nat} {p : Int}, L.Pairwise (· < ·) → (∀ x ∈ L, p < x) → (∀ x ∈ L, (x : Int) < n) → risingF n p (L.map Int.ofNat) = true
  | [], _, _, _, _ => rfl
  | x :: L, p, h1, h2, h3 => by
    have a := h2 x (by simp)
    have b := h3 x (by simp)
    rw [List.map_cons, risingF, wi_iff.2 (show p + 1 ≤ Int.ofNat x ∧ Int.ofNat x ≤ n - 1 by constructor; (show p + 1 ≤ (x : Int)); omega; (show (x : Int) ≤ n - 1); omega)]
    exact rising_of (List.pairwise_cons.1 h1).2 (fun y hy => by have := (List.pairwise_cons.1 h1).1 y hy; show (x : Int) < (y : Int); omega) fun y hy => h3 y (by simp [hy])
theorem cells_sorted (s : Sea) : (cellsL s).Pairwise (· < ·) := List.Pairwise.filter _ List.pairwise_lt_range
theorem canF_eq (s : Sea) (l : List Rep) (wrong hour : Int) : canF s l wrong hour = ((cellsL s).filter fun c => decide ((thrR s l hour.toNat).getD c 0 ≤ wrong)).map Int.ofNat := by unfold canF; rw [goL_all]
theorem canF_rising {s : Sea} (ho : s.Ok) (l : List Rep) (wrong hour : Int) : risingF s.many (-1) (canF s l wrong hour) = true := by
  rw [canF_eq]
  refine rising_of (List.Pairwise.filter _ (cells_sorted s)) (fun x _ => by omega) fun x hx => ?_
  obtain ⟨h1, _⟩ := List.mem_filter.1 hx
  have := (wat_at ho h1).1
  have := wi_iff.1 this; omega
theorem canF_mem {s : Sea} (ho : s.Ok) {l : List Rep} (hl : l.length ≤ 24) {wrong hour : Int} (hw : wrong ≤ 24) (h0 : 0 ≤ hour) (h1 : hour < s.hours) (c : Nat) : (c : Int) ∈ canF s l wrong hour ↔ ∃ T, Trk s T ∧ T[hour.toNat]? = some c ∧ (costW s l 0 T : Int) ≤ wrong := by
  have hp := hrs_pos ho
  have hh : hour.toNat < hrs s := by omega
  rw [canF_eq]
  constructor
  · intro h
    obtain ⟨k, hk, e⟩ := List.mem_map.1 h
    have e : k = c := Int.ofNat_inj.1 e
    subst e
    obtain ⟨h2, h3⟩ := List.mem_filter.1 hk
    obtain ⟨n, h4, T, h5, h6, h7⟩ := ((thr_min ho hl hh h2).le_iff (w := wrong) (by omega)).1 (of_decide_eq_true h3)
    exact ⟨T, h5, h6, by omega⟩
  · rintro ⟨T, h2, h3, h4⟩
    have hc : c ∈ cellsL s := okW_mem s h2.ok c (List.mem_of_getElem? h3)
    exact List.mem_map.2 ⟨c, List.mem_filter.2 ⟨hc, decide_eq_true (((thr_min ho hl hh hc).le_iff (w := wrong) (by omega)).2 ⟨_, h4, T, h2, h3, rfl⟩)⟩, rfl⟩
theorem canF_nat {s : Sea} {l : List Rep} {wrong hour c : Int} (h : c ∈ canF s l wrong hour) : ∃ k : Nat, c = k := by
  rw [canF_eq] at h
  obtain ⟨k, _, rfl⟩ := List.mem_map.1 h
  exact ⟨k, rfl⟩
theorem few_le {s : Sea} (ho : s.Ok) {l : List Rep} (hl : l.length ≤ 24) {T : List Nat} (hT : Trk s T) : fewF s l ≤ costW s l 0 T ∧ fewF s l < 1048576 := by
  have h := fewF_min ho hl
  rcases h.or with ⟨_, h2⟩ | ⟨n, h1, h2, h3⟩
  · exact absurd ⟨T, hT, rfl⟩ (h2 _)
  · have := h3 _ ⟨T, hT, rfl⟩; have := h2.le ho hl; omega
theorem placeF_nn {c : Int} {l : List Int} : 0 ≤ placeF c 0 l ↔ c ∈ l := by
  have := placeF_neg (c := c) l 0
  constructor
  · intro h; by_cases hm : c ∈ l
    · exact hm
    · have := this.2 hm; omega
  · intro h; by_cases hm : placeF c 0 l < 0
    · exact absurd h (this.1 hm)
    · omega
end Go.Proofs.Ytohbjneaaahpcaa

namespace Go.Proofs.Ytohbjneaaahpcaa
open Go Go.AL Go.AL.Q Go.AL.Sh
theorem swum_w (x : Srch) (hx : SrFit x) (ho : x.s.Ok) (bb : Bool) (bits : List Int) (hb : (bits.length : Int) ≤ 9223372036854775806) : Ans Try.prog 33 [.agg x.s.c, .sl bb .any (ints bits)] (outW (tI (swumF x.s bits))) := Ans_out (swum_t x.s hx.s ho bb bits hb) (outA_le _)
theorem sound_iff {x : Srch} : soundB x = true ↔ x.s.ok = true ∧ x.s.repsOk x.l = true := by unfold soundB; rw [Bool.and_eq_true]
theorem LeastR_ok {s : Sea} {l : List Rep} (hok : s.ok = true) (hr : s.repsOk l = true) (h : fewF s l < 1048576) : LeastR s l = (fewF s l, tI (trkN s l (fewF s l) (hrs s)).1, 0) := by
  unfold LeastR; rw [hok, hr]; simp only [if_true]; rw [if_pos h]; rfl
theorem CanR_ok {s : Sea} {l : List Rep} {wrong hour : Int} (hok : s.ok = true) (hr : s.repsOk l = true) (ha : askedB s wrong hour = true) : CanR s l wrong hour = (canF s l wrong hour, canE (canF s l wrong hour)) := by
  unfold CanR; rw [hok, hr, ha]; rfl
theorem canE_ne {G : List Int} (h : G ≠ []) : canE G = 0 := by cases G with | nil => exact absurd rfl h | cons x l => rfl
set_option maxRecDepth 20000 in
set_option maxHeartbeats 1000000 in
theorem law_holds (x : Srch) (hx : SrFit x) (bb : Bool) (bits : List Int) (hb : (bits.length : Int) ≤ 9223372036854775806) : Ans Try.prog 7 [.agg x.c, .sl bb .any (ints bits)] (.bool true) := by
  have hso := sound_t x hx
  have ub : ∀ {m : Nat}, Under m (.sl bb .any (ints bits)) := (free_ints _ _ _).under
  have ux : ∀ {m : Nat}, Under m (A.pt x.c) := (Free.pt _ x.free).under
  have ll : ((x.l.map Rep.c).length : Int) = x.l.length := by simp
  refine told Try.func7 rfl rfl (Pure.of tab_ok Try.func7 rfl Try.ntmps7 rfl (allC (.agg _ x.free) (all1 (free_ints _ _ _))) (allC (fun _ => rfl) (all1 (fun _ => rfl))) (by first | exact .s _ | assumption | exact .tup _ (by intro x hx; simp only [List.mem_cons, List.not_mem_nil, or_false] at hx; rcases hx with rfl | rfl | rfl | rfl <;> first | exact .s _ | (simp_all; done))) fun E hE => ?_)
  refine Aw.sm tab_ok mb0 [] rfl rfl ?zo ?zk
  case zo =>
    repeat' apply AllP.cons
    all_goals first | exact trivial
  case zk =>
  refine Aw.seq ?_
  cases hsb : soundB x with
  | false =>
    rw [hsb] at hso
    refine Aw.sm tab_ok mb0 [(1, [.bool false])] rfl rfl ?zo ?zk
    case zo =>
      repeat' apply AllP.cons
      all_goals first | exact trivial | exact Nat.le_of_ble_eq_true rfl | exact hso
    case zk =>
    refine Aw.cond rfl (fun _ => ?_) (fun h => absurd h (by decide))
    refine Aw.sm tab_ok mb0 [(0, [.bool true])] rfl rfl ?zo ?zk
    case zo =>
      repeat' apply AllP.cons
      all_goals first | exact trivial | exact works_t
    case zk =>
    exact Aw.ret ⟨_, .cons (.tmp _) .nil, rfl⟩
  | true =>
  rw [hsb] at hso
  obtain ⟨hok, hr⟩ := sound_iff.1 hsb
  have ho := Sea.ok_of hok
  have hrf := reps_fit hr
  have hp := hrs_pos ho
  have hm := ho.many
  have hhr := ho.hr
  have hl24 : x.l.length ≤ 24 := by have := hrf.len; omega
  refine Aw.sm tab_ok mb0 [(1, [.bool true])] rfl rfl ?zo ?zk
  case zo =>
    repeat' apply AllP.cons
    all_goals first | exact trivial | exact Nat.le_of_ble_eq_true rfl | exact hso
  case zk =>
  refine Aw.cond rfl (fun h => absurd h (by decide)) (fun _ => Aw.skip ?_)
  have hsw := swum_w x hx ho bb bits hb
  have hsk := swumF_ok ho bits
  generalize swumF x.s bits = T at *
  have lT : ((ints (tI T)).length : Int) = T.length := by rw [ints_lenI, tI_len]
  have hTl : ((tI T).length : Int) ≤ 9223372036854775806 := by rw [tI_len]; omega
  have hit := IsTrack_w x hx (tI T).isEmpty (tI T) hTl
  have uT : ∀ {m : Nat}, Under m (outW (tI T)) := (outW_free _).under
  refine Aw.sm tab_ok mb0 [(3, [outW (tI T)])] rfl rfl ?zo ?zk
  case zo =>
    repeat' apply AllP.cons
    all_goals first | exact trivial | exact Nat.le_of_ble_eq_true rfl | exact hsw
  case zk =>
  refine Aw.seq ?_
  refine Aw.sm tab_ok mb0 [] rfl rfl ?zo ?zk
  case zo =>
    repeat' apply AllP.cons
    all_goals first | exact trivial | exact Nat.le_of_ble_eq_true rfl
  case zk =>
  refine Aw.cond rfl (fun h1 => ?_) (fun h1 => Aw.skip ?_)
  · have h1 := of_decide_eq_true (show decide (((ints (tI T)).length : Int) < x.s.hours) = true from h1)
    rw [TrackR_short hok hr (show T.length ≠ hrs x.s by omega)] at hit
    refine Aw.sm tab_ok mb0 [(5, [.tup [.int 0, .bool false, .int 0]])] rfl rfl ?zo ?zk
    case zo =>
      repeat' apply AllP.cons
      all_goals first | exact trivial | exact Nat.le_of_ble_eq_true rfl | exact hit
    case zk =>
    refine Aw.sm tab_ok mb0 [(7, [.bool true])] rfl rfl ?zo ?zk
    case zo =>
      repeat' apply AllP.cons
      all_goals first | exact trivial | exact id | exact fun _ => rfl | exact fun _ => works_t
    case zk =>
    exact Aw.ret ⟨_, .cons (.tmp _) .nil, rfl⟩
  have h1 := of_decide_eq_false (show decide (((ints (tI T)).length : Int) < x.s.hours) = false from h1)
  have hTrk : Trk x.s T := ⟨by omega, hsk.1⟩
  have hTh : (T.length : Int) = x.s.hours := by omega
  have hcc := cost_count x.s hTh (l := x.l) fun r hr => (hrf.at' r hr).1
  have hfl := few_le ho hl24 hTrk
  have hn24 : x.l.countP (lieB x.s.wide T) ≤ 24 := Nat.le_trans List.countP_le_length hl24
  have hTc : ∀ c ∈ tI T, 0 ≤ c ∧ c ≤ 1000 := fun c hc => by
    obtain ⟨k, hk, rfl⟩ := List.mem_map.1 hc
    have := wat_lt ho (okW_mem x.s hsk.1 k hk)
    show 0 ≤ (k : Int) ∧ (k : Int) ≤ 1000; omega
  rw [TrackR_ok hok hr hTrk] at hit
  have hle := Least_w x hx
  rw [LeastR_ok hok hr hfl.2] at hle
  have hcan : ∀ h : Nat, h < T.length → ∃ G : List Int, ∃ c : Int, (ints (tI T))[h]? = some [.int c] ∧ Ans Try.prog 24 [.agg x.s.c, x.rA, .int (x.l.countP (lieB x.s.wide T) : Nat), .int (h : Nat)] (.tup [outW G, .int 0]) ∧ c ∈ G ∧ risingF x.s.many (-1) G = true ∧ G.length ≤ 80 := fun h hh => by
    have hc := Can_w x hx (x.l.countP (lieB x.s.wide T) : Nat) (h : Nat)
    have hmem : ((T[h] : Nat) : Int) ∈ canF x.s x.l (x.l.countP (lieB x.s.wide T) : Nat) (h : Nat) := (canF_mem ho hl24 (by omega) (by omega) (by omega) _).2 ⟨T, hTrk, by simp [hh], by omega⟩
    rw [CanR_ok hok hr (asked_iff.2 ⟨by omega, by omega⟩), canE_ne (List.ne_nil_of_mem hmem)] at hc
    exact ⟨_, _, by simp [ints, tI, hh], hc, hmem, canF_rising ho _ _ _, Nat.le_trans (goL_len _ _ _) (cellsL_len _ ho)⟩
  rw [hcc] at hit hfl
  generalize hn : x.l.countP (lieB x.s.wide T) = n at *
  generalize fewF x.s x.l = fw at *
  generalize (trkN x.s x.l fw (hrs x.s)).1 = T2 at *
  refine Aw.sm tab_ok mb0 [] rfl rfl ?zo ?zk
  case zo =>
    repeat' apply AllP.cons
    all_goals first | exact trivial
  case zk =>
  refine Aw.seq ?_
  refine Aw.sm tab_ok mb0 [] rfl rfl ?zo ?zk
  case zo =>
    repeat' apply AllP.cons
    all_goals first | exact trivial
  case zk =>
  refine Aw.block (Aw.rounds 0 hE [(2, .pt x.c), (5, outW (tI T))] (fun k : Nat => [(9, .int ((x.l.take k).countP (lieB x.s.wide T) : Nat)), (10, .int k)]) (fun k => []) (fun k => k ≤ x.l.length) (fun k => x.l.length - k) 0 ?zg ⟨?zc, ?zv, ?zh, Nat.le_of_ble_eq_true rfl⟩ ?zu (fun k zhk => ?zw) (fun k zhk => ?zx) fun k hk => ?zr)
  case zg =>
    (repeat' (first | exact Nat.zero_le _ | exact Nat.le_refl _ | exact trivial | exact ux | exact uT | (refine And.intro ?_ ?_)))
  case zc =>
    (repeat' (first | (refine And.intro ?_ ?_) | exact trivial | exact A.Le.refl _ | exact rfl | exact ux | exact uT))
  case zv =>
    (repeat' (first | (refine And.intro ?_ ?_) | exact trivial | exact A.Le.refl _ | exact rfl | exact ux | exact uT))
  case zh =>
    (repeat' (first | (refine And.intro ?_ ?_) | exact trivial | exact A.Le.refl _ | exact rfl | exact ux | exact uT))
  case zu =>
    (repeat' (first | exact trivial | exact Under.s _ | exact Under.un | assumption | exact (free_ints _ _ _).under | exact Under.ref _ _ (by decide) | exact Under.ms _ _ _ (by decide) | exact Under.mp _ (by decide) | exact (Free.agg _ (by assumption)).under | exact (Free.pt _ (by assumption)).under | exact grL_under _ | exact outA_under _ | exact Nat.le_of_ble_eq_true rfl | exact (fun _ _ => rfl) | exact ux | exact uT | (refine And.intro ?_ ?_)))
  case zw =>
    (repeat' (first | exact trivial | exact Under.s _ | exact Under.un | assumption | exact (free_ints _ _ _).under | exact Under.ref _ _ (by decide) | exact Under.ms _ _ _ (by decide) | exact Under.mp _ (by decide) | exact (Free.agg _ (by assumption)).under | exact (Free.pt _ (by assumption)).under | exact grL_under _ | exact outA_under _ | exact Nat.le_of_ble_eq_true rfl | exact (fun _ _ => rfl) | exact ux | exact uT | (refine And.intro ?_ ?_)))
  case zx =>
    (repeat' (first | exact trivial | exact Under.s _ | exact Under.un | assumption | exact (free_ints _ _ _).under | exact Under.ref _ _ (by decide) | exact Under.ms _ _ _ (by decide) | exact Under.mp _ (by decide) | exact (Free.agg _ (by assumption)).under | exact (Free.pt _ (by assumption)).under | exact grL_under _ | exact outA_under _ | exact Nat.le_of_ble_eq_true rfl | exact (fun _ _ => rfl) | exact ux | exact uT | (refine And.intro ?_ ?_)))
  case zr =>
  refine Aw.seq ?_
  refine Aw.sm tab_ok mb0 [] rfl rfl ?zo ?zk
  case zo =>
    repeat' apply AllP.cons
    all_goals first | exact trivial | exact Nat.le_of_ble_eq_true rfl
  case zk =>
  refine Aw.cond rfl (fun h2 => Aw.skip ?_) (fun h2 => ?_)
  · have hlt : k < x.l.length := by have := of_decide_eq_true (show decide ((k : Int) < ((x.l.map Rep.c).length : Int)) = true from h2); omega
    have hget := get_map (f := Rep.c) hlt
    have hin := hrf.at' x.l[k] (List.getElem_mem hlt)
    have hst := cnt_take (p := lieB x.s.wide T) hlt
    have hbd : ((x.l.take k).countP (lieB x.s.wide T) : Nat) ≤ k := Nat.le_trans List.countP_le_length (by simp; omega)
    generalize x.l[k] = r at *
    have htd := told_t x.s ho r (tI T).isEmpty (tI T) (by rw [tI_len]; omega) (by omega) hTc
    have hlb : lieB x.s.wide T r = !isTrueF x.s.wide r (placeP x.s.wide ((tI T).getD r.hour.toNat 0)) := rfl
    generalize isTrueF x.s.wide r (placeP x.s.wide ((tI T).getD r.hour.toNat 0)) = tv at *
    generalize ((x.l.take k).countP (lieB x.s.wide T) : Nat) = m at *
    refine Aw.seq (Aw.block ?_)
    refine Aw.sd tab_ok mixed mb0 [(5, r.c), (8, [.bool tv])] rfl (by kernel_rfl) rfl rfl ?zo ?zk
    case zo =>
      repeat' apply AllP.cons
      all_goals first | exact trivial | exact rfl | exact Nat.le_of_ble_eq_true rfl | exact Int.natCast_nonneg _ | exact hget | exact htd
    case zk =>
    refine Aw.cond rfl (fun h3 => ?_) (fun h3 => Aw.skip ?_)
    · have h3 : (!tv) = true := h3
      rw [hlb, h3, if_pos rfl] at hst
      refine Aw.em tab_ok mb0 [] rfl rfl ?zo ?zk
      case zo =>
        repeat' apply AllP.cons
        all_goals first | exact trivial | exact (by simp only [Ob.of, inR]; omega)
      case zk =>
      refine Aw.em tab_ok mb0 [] rfl rfl ?zo ?zk
      case zo =>
        repeat' apply AllP.cons
        all_goals first | exact trivial | exact inrk k (by omega)
      case zk =>
      refine ⟨k + 1, ?zg, ?zm, ⟨?zc, ?zv, ?zh, Nat.le_of_ble_eq_true rfl⟩⟩
      case zg =>
        (repeat' (first | assumption | omega | exact .of_eq (congrArg A.int hst) | (refine And.intro ?_ ?_)))
      case zm =>
        (repeat' (first | omega | exact .of_eq (congrArg A.int hst) | (refine And.intro ?_ ?_)))
      case zc =>
        (repeat' (first | (refine And.intro ?_ ?_) | exact trivial | exact A.Le.refl _ | exact rfl | exact .of_eq (congrArg A.int hst)))
      case zv =>
        (repeat' (first | (refine And.intro ?_ ?_) | exact trivial | exact A.Le.refl _ | exact rfl | exact .of_eq (congrArg A.int hst)))
      case zh =>
        (repeat' (first | (refine And.intro ?_ ?_) | exact trivial | exact A.Le.refl _ | exact rfl | exact .of_eq (congrArg A.int hst)))
    · have h3 : (!tv) = false := h3
      rw [hlb, h3, if_neg (by decide), Int.add_zero] at hst
      refine Aw.em tab_ok mb0 [] rfl rfl ?zo ?zk
      case zo =>
        repeat' apply AllP.cons
        all_goals first | exact trivial | exact inrk k (by omega)
      case zk =>
      refine ⟨k + 1, ?zg, ?zm, ⟨?zc, ?zv, ?zh, Nat.le_of_ble_eq_true rfl⟩⟩
      case zg =>
        (repeat' (first | assumption | omega | exact .of_eq (congrArg A.int hst) | (refine And.intro ?_ ?_)))
      case zm =>
        (repeat' (first | omega | exact .of_eq (congrArg A.int hst) | (refine And.intro ?_ ?_)))
      case zc =>
        (repeat' (first | (refine And.intro ?_ ?_) | exact trivial | exact A.Le.refl _ | exact rfl | exact .of_eq (congrArg A.int hst)))
      case zv =>
        (repeat' (first | (refine And.intro ?_ ?_) | exact trivial | exact A.Le.refl _ | exact rfl | exact .of_eq (congrArg A.int hst)))
      case zh =>
        (repeat' (first | (refine And.intro ?_ ?_) | exact trivial | exact A.Le.refl _ | exact rfl | exact .of_eq (congrArg A.int hst)))
  have hle2 : k = x.l.length := by have := of_decide_eq_false (show decide ((k : Int) < ((x.l.map Rep.c).length : Int)) = false from h2); omega
  subst hle2
  refine Aw.exit2 ?_
  rw [List.take_length, hn]
  refine Aw.sm tab_ok mb0 [(5, [.tup [.int n, .bool true, .int 0]])] rfl rfl ?zo ?zk
  case zo =>
    repeat' apply AllP.cons
    all_goals first | exact trivial | exact Nat.le_of_ble_eq_true rfl | exact hit
  case zk =>
  refine Aw.sm tab_ok mb0 [(4, [.tup [.int fw, outW (tI T2), .int 0]])] rfl rfl ?zo ?zk
  case zo =>
    repeat' apply AllP.cons
    all_goals first | exact trivial | exact Nat.le_of_ble_eq_true rfl | exact hle
  case zk =>
  refine Aw.seq ?_
  refine Aw.sm tab_ok mb0 [] rfl rfl ?zo ?zk
  case zo =>
    repeat' apply AllP.cons
    all_goals first | exact trivial | exact id | exact fun _ => rfl | exact gq_f
  case zk =>
  refine Aw.cond rfl (fun h3 => ?_) (fun _ => Aw.skip ?_)
  · have h3 : cond ((n : Int) != (n : Int)) true (decide (fw > (n : Int))) = true := h3
    rw [show ((n : Int) != (n : Int)) = false by simp, decide_eq_false (show ¬ fw > (n : Int) by omega)] at h3
    cases h3
  refine Aw.seq ?_
  refine Aw.sm tab_ok mb0 [] rfl rfl ?zo ?zk
  case zo =>
    repeat' apply AllP.cons
    all_goals first | exact trivial
  case zk =>
  refine Aw.block (Aw.rounds 0 hE [(2, .pt x.c), (5, outW (tI T)), (9, .int n)] (fun h : Nat => [(17, .int h)]) (fun h => []) (fun h => h ≤ T.length) (fun h => T.length - h) 0 ?zg ⟨?zc, ?zv, ?zh, Nat.le_of_ble_eq_true rfl⟩ ?zu (fun h zhk => ?zw) (fun h zhk => ?zx) fun h hk => ?zr)
  case zg =>
    (repeat' (first | exact Nat.zero_le _ | exact Nat.le_refl _ | exact trivial | exact ux | exact uT | (refine And.intro ?_ ?_)))
  case zc =>
    (repeat' (first | (refine And.intro ?_ ?_) | exact trivial | exact A.Le.refl _ | exact rfl | exact ux | exact uT))
  case zv =>
    (repeat' (first | (refine And.intro ?_ ?_) | exact trivial | exact A.Le.refl _ | exact rfl | exact ux | exact uT))
  case zh =>
    (repeat' (first | (refine And.intro ?_ ?_) | exact trivial | exact A.Le.refl _ | exact rfl | exact ux | exact uT))
  case zu =>
    (repeat' (first | exact trivial | exact Under.s _ | exact Under.un | assumption | exact (free_ints _ _ _).under | exact Under.ref _ _ (by decide) | exact Under.ms _ _ _ (by decide) | exact Under.mp _ (by decide) | exact (Free.agg _ (by assumption)).under | exact (Free.pt _ (by assumption)).under | exact grL_under _ | exact outA_under _ | exact Nat.le_of_ble_eq_true rfl | exact (fun _ _ => rfl) | exact ux | exact uT | (refine And.intro ?_ ?_)))
  case zw =>
    (repeat' (first | exact trivial | exact Under.s _ | exact Under.un | assumption | exact (free_ints _ _ _).under | exact Under.ref _ _ (by decide) | exact Under.ms _ _ _ (by decide) | exact Under.mp _ (by decide) | exact (Free.agg _ (by assumption)).under | exact (Free.pt _ (by assumption)).under | exact grL_under _ | exact outA_under _ | exact Nat.le_of_ble_eq_true rfl | exact (fun _ _ => rfl) | exact ux | exact uT | (refine And.intro ?_ ?_)))
  case zx =>
    (repeat' (first | exact trivial | exact Under.s _ | exact Under.un | assumption | exact (free_ints _ _ _).under | exact Under.ref _ _ (by decide) | exact Under.ms _ _ _ (by decide) | exact Under.mp _ (by decide) | exact (Free.agg _ (by assumption)).under | exact (Free.pt _ (by assumption)).under | exact grL_under _ | exact outA_under _ | exact Nat.le_of_ble_eq_true rfl | exact (fun _ _ => rfl) | exact ux | exact uT | (refine And.intro ?_ ?_)))
  case zr =>
  refine Aw.seq ?_
  refine Aw.sm tab_ok mb0 [] rfl rfl ?zo ?zk
  case zo =>
    repeat' apply AllP.cons
    all_goals first | exact trivial
  case zk =>
  refine Aw.cond rfl (fun h3 => Aw.skip ?_) (fun h3 => ?_)
  · have hlt : h < T.length := by have := of_decide_eq_true (show decide ((h : Int) < ((ints (tI T)).length : Int)) = true from h3); omega
    obtain ⟨G, c, hget, hc, hmem, hri, hgl⟩ := hcan h hlt
    have hpl := place_t G G.isEmpty c (by omega)
    have hpn := placeF_nn.2 hmem
    have hrt := rising_t G G.isEmpty x.s.many (by omega) (by omega)
    rw [hri] at hrt
    generalize placeF c 0 G = pv at *
    refine Aw.seq (Aw.block ?_)
    refine Aw.sm tab_ok mb0 [(6, [.tup [outW G, .int 0]])] rfl rfl ?zo ?zk
    case zo =>
      repeat' apply AllP.cons
      all_goals first | exact trivial | exact Nat.le_of_ble_eq_true rfl | exact hc
    case zk =>
    refine Aw.sm tab_ok mb0 [(6, [.int c]), (8, [.int pv]), (20, [.bool true])] rfl rfl ?zo ?zk
    case zo =>
      repeat' apply AllP.cons
      all_goals first | exact trivial | exact id | exact fun _ => rfl | exact fun _ => Nat.le_of_ble_eq_true rfl | exact fun _ => Int.natCast_nonneg _ | exact gq_f | exact fun _ => hget | exact fun _ => hpl | exact fun _ => hrt | exact fun _ => (by simp only [Ob.of, inR]; unfold Sea.many at hm; omega)
    case zk =>
    refine Aw.cond rfl (fun h4 => ?_) (fun _ => Aw.skip ?_)
    · have h4 : cond (decide (pv < 0)) true false = true := h4
      rw [decide_eq_false (by omega)] at h4
      cases h4
    refine Aw.em tab_ok mb0 [] rfl rfl ?zo ?zk
    case zo =>
      repeat' apply AllP.cons
      all_goals first | exact trivial | exact (by simp only [Ob.of, inR]; omega)
    case zk =>
    refine ⟨h + 1, ?zg, ?zm, ⟨?zc, ?zv, ?zh, Nat.le_of_ble_eq_true rfl⟩⟩
    case zg =>
      (repeat' (first | assumption | omega | (refine And.intro ?_ ?_)))
    case zm =>
      (repeat' (first | omega | (refine And.intro ?_ ?_)))
    case zc =>
      (repeat' (first | (refine And.intro ?_ ?_) | exact trivial | exact A.Le.refl _ | exact rfl))
    case zv =>
      (repeat' (first | (refine And.intro ?_ ?_) | exact trivial | exact A.Le.refl _ | exact rfl))
    case zh =>
      (repeat' (first | (refine And.intro ?_ ?_) | exact trivial | exact A.Le.refl _ | exact rfl))
  refine Aw.exit2 ?_
  refine Aw.sm tab_ok mb0 [(0, [.bool true])] rfl rfl ?zo ?zk
  case zo =>
    repeat' apply AllP.cons
    all_goals first | exact trivial | exact works_t
  case zk =>
  exact Aw.ret ⟨_, .cons (.tmp _) .nil, rfl⟩
theorem holds_l (x : Srch) (bb : Bool) (bits : List Int) (hx : SrFit2 x) (hb : (bits.length : Int) ≤ 9223372036854775806) : Ans Try.prog 7 [.agg x.c, .sl bb .any (ints bits)] (.bool true) := law_holds x hx.fit bb bits hb
end Go.Proofs.Ytohbjneaaahpcaa

