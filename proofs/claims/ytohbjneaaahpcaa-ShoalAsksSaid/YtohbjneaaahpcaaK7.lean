/- What the proof leans on, part 7: HX H25 H26 H27 H28 Y5 H29. -/
import Derived.Test.YtohbjneaaahpcaaK6
import Derived.Test.YtohbjneaaahpcaaRows
set_option linter.all false
set_option maxRecDepth 100000
namespace Go.Proofs.Ytohbjneaaahpcaa
open Go Go.AL Go.AL.Q Go.AL.Sh Go.ChangeShapes Go.WideShapes Go.ChangeAt Go.RowKit
theorem own : ownKnob Try.prog.godebug = none := by kernel_rfl
theorem laidOut : laidOutB Try.prog = true := by kernel_rfl
theorem ty_ok {t : TypeId} (h : Try.prog.readableRec t = true) (h2 : decide (t < Try.prog.types.size) = true) : Try.prog.readableRec t = true ∧ t < Try.prog.types.size := ⟨h, of_decide_eq_true h2⟩
theorem uBool : Try.prog.underlying 4 = some .bool := by kernel_rfl
def fld (n : String) (t o b : Nat) : Field := ⟨n, t, o, false, "", "", b⟩
theorem t28 : Try.prog.readableRec 28 = true ∧ 28 < Try.prog.types.size := ty_ok (by kernel_rfl) (by kernel_rfl)
theorem t38 : Try.prog.readableRec 38 = true ∧ 38 < Try.prog.types.size := ty_ok (by kernel_rfl) (by kernel_rfl)
theorem t44 : Try.prog.readableRec 44 = true ∧ 44 < Try.prog.types.size := ty_ok (by kernel_rfl) (by kernel_rfl)
theorem u3 : Try.prog.underlying 3 = some (.int .i64) := by kernel_rfl
theorem u22 : Try.prog.underlying 22 = some (.slice 3) := by kernel_rfl
theorem u23 : Try.prog.underlying 23 = some (.slice 70) := by kernel_rfl
theorem u25 : Try.prog.underlying 25 = some (.struct #[fld "Wide" 3 0 0, fld "High" 3 1 8, fld "Land" 22 2 16, fld "Hours" 3 3 40, fld "Drift" 23 4 48, fld "Speed" 3 5 72]) := by kernel_rfl
theorem u26 : Try.prog.underlying 26 = some (.slice 52) := by kernel_rfl
theorem u28 : Try.prog.underlying 28 = some (.struct #[fld "S" 25 0 0, fld "L" 26 6 80]) := by kernel_rfl
theorem u38 : Try.prog.underlying 38 = some (.array 2 3) := by kernel_rfl
theorem u44 : Try.prog.underlying 44 = some (.slice 64) := by kernel_rfl
theorem u52 : Try.prog.underlying 52 = some (.struct #[fld "Hour" 3 0 0, fld "Cell" 3 1 8, fld "Far" 3 2 16, fld "There" 4 3 24]) := by kernel_rfl
theorem u64 : Try.prog.underlying 64 = some (.struct #[fld "Cell" 3 0 0, fld "Far" 3 1 8]) := by kernel_rfl
theorem u70 : Try.prog.underlying 70 = some (.struct #[fld "East" 3 0 0, fld "North" 3 1 8]) := by kernel_rfl
theorem c3 : Try.prog.cellsOf 3 = 1 := by kernel_rfl
theorem c4 : Try.prog.cellsOf 4 = 1 := by kernel_rfl
theorem c22 : Try.prog.cellsOf 22 = 1 := by kernel_rfl
theorem c23 : Try.prog.cellsOf 23 = 1 := by kernel_rfl
theorem c25 : Try.prog.cellsOf 25 = 6 := by kernel_rfl
theorem c26 : Try.prog.cellsOf 26 = 1 := by kernel_rfl
theorem c28 : Try.prog.cellsOf 28 = 7 := by kernel_rfl
theorem c38 : Try.prog.cellsOf 38 = 2 := by kernel_rfl
theorem c52 : Try.prog.cellsOf 52 = 4 := by kernel_rfl
theorem c64 : Try.prog.cellsOf 64 = 2 := by kernel_rfl
theorem c70 : Try.prog.cellsOf 70 = 2 := by kernel_rfl
theorem by3 : Try.prog.bytesOf 3 = 8 := by kernel_rfl
theorem by52 : Try.prog.bytesOf 52 = 32 := by kernel_rfl
theorem by64 : Try.prog.bytesOf 64 = 16 := by kernel_rfl
theorem by70 : Try.prog.bytesOf 70 = 16 := by kernel_rfl
theorem fit_len {n k : Nat} (h : n * k ≤ reachBytes) (hk : 1 ≤ k) : (n : Int) ≤ 9223372036854775806 := by
  have h3 : n ≤ n * k := Nat.le_mul_of_pos_right _ hk
  have h5 : reachBytes = 140737488351232 := by decide
  omega
section
variable {H : Type} {enc : TypeId × Value → H} {w : World} {base : Nat} {held : Bool} {φ : Names}
theorem r3 : Reads enc Try.prog w base held φ 3 1 (fun n : Int => [A.int n]) fun n => inR n := fun n cs y h _ => by
  obtain ⟨z, rfl, _, hw⟩ := DataW.trod_int u3 h
  exact ⟨z, by simpa [Lit.wf, inR, IntKind.min, IntKind.max, IntKind.signed, IntKind.bits] using hw, rfl, .one (.s _) rfl⟩
theorem r4 : Reads enc Try.prog w base held φ 4 1 (fun b : Bool => [A.bool b]) fun _ => True := fun n cs y h _ => by
  obtain ⟨z, rfl, _⟩ := DataW.trod_bool uBool h
  exact ⟨z, trivial, rfl, .one (.s _) rfl⟩
theorem rdInts : Reads enc Try.prog w base held φ 22 1 (fun x : Bool × List Int => [A.sl x.1 .any (ints x.2)]) (fun x => (x.2.length : Int) ≤ 9223372036854775806) := by
  have key := Reads.slice (enc := enc) (w := w) (base := base) (held := held) (φ := φ) u22 c3 (by decide) r3
  exact key.imp fun x h => ⟨x, fit_len h.2 (by rw [by3]; decide), rfl⟩
theorem rdStep : Reads enc Try.prog w base held φ 70 2 Sp.c (fun _ => True) := by
  have key := Reads.struct (enc := enc) (w := w) (base := base) (held := held) (φ := φ) u70 c70 (Flds.cons (f := fld "East" 3 0 0) rfl c3 r3 (Flds.cons (f := fld "North" 3 1 8) rfl c3 r3 (Flds.nil _))) rfl rfl
  exact key.imp fun x _ => ⟨⟨x.1, x.2.1⟩, trivial, rfl⟩
theorem rdCast : Reads enc Try.prog w base held φ 64 2 Sp.c (fun c => inR c.lo ∧ inR c.hi) := by
  have key := Reads.struct (enc := enc) (w := w) (base := base) (held := held) (φ := φ) u64 c64 (Flds.cons (f := fld "Cell" 3 0 0) rfl c3 r3 (Flds.cons (f := fld "Far" 3 1 8) rfl c3 r3 (Flds.nil _))) rfl rfl
  exact key.imp fun x h => ⟨⟨x.1, x.2.1⟩, ⟨h.1, h.2.1⟩, rfl⟩
theorem rdRep : Reads enc Try.prog w base held φ 52 4 Rep.c (fun _ => True) := by
  have key := Reads.struct (enc := enc) (w := w) (base := base) (held := held) (φ := φ) u52 c52 (Flds.cons (f := fld "Hour" 3 0 0) rfl c3 r3 (Flds.cons (f := fld "Cell" 3 1 8) rfl c3 r3 (Flds.cons (f := fld "Far" 3 2 16) rfl c3 r3 (Flds.cons (f := fld "There" 4 3 24) rfl c4 r4 (Flds.nil _))))) rfl rfl
  exact key.imp fun x _ => ⟨⟨x.1, x.2.1, x.2.2.1, x.2.2.2.1⟩, trivial, rfl⟩
theorem rdSteps : Reads enc Try.prog w base held φ 23 1 (fun x : Bool × List Sp => [A.sl x.1 .any (x.2.map Sp.c)]) (fun x => (x.2.length : Int) ≤ 9223372036854775806) := by
  have key := Reads.slice (enc := enc) (w := w) (base := base) (held := held) (φ := φ) u23 c70 (by decide) rdStep
  exact key.imp fun x h => ⟨x, fit_len h.2 (by rw [by70]; decide), rfl⟩
theorem rdReps : Reads enc Try.prog w base held φ 26 1 (fun x : Bool × List Rep => [A.sl x.1 .any (x.2.map Rep.c)]) (fun x => x.2.length * 32 ≤ 140737488351232) := by
  have key := Reads.slice (enc := enc) (w := w) (base := base) (held := held) (φ := φ) u26 c52 (by decide) rdRep
  exact key.imp fun x h => ⟨x, by
    have h2 := h.2
    rw [by52] at h2
    have h5 : reachBytes = 140737488351232 := by decide
    omega, rfl⟩
theorem rdSea : Reads enc Try.prog w base held φ 25 6 Sea.c SeaFit := by
  have key := Reads.struct (enc := enc) (w := w) (base := base) (held := held) (φ := φ) u25 c25 (Flds.cons (f := fld "Wide" 3 0 0) rfl c3 r3 (Flds.cons (f := fld "High" 3 1 8) rfl c3 r3 (Flds.cons (f := fld "Land" 22 2 16) rfl c22 rdInts (Flds.cons (f := fld "Hours" 3 3 40) rfl c3 r3 (Flds.cons (f := fld "Drift" 23 4 48) rfl c23 rdSteps (Flds.cons (f := fld "Speed" 3 5 72) rfl c3 r3 (Flds.nil _))))))) rfl rfl
  exact key.imp fun x h => ⟨⟨x.1, x.2.1, x.2.2.1.1, x.2.2.1.2, x.2.2.2.1, x.2.2.2.2.1.1, x.2.2.2.2.1.2, x.2.2.2.2.2.1⟩, ⟨h.2.2.1, h.2.2.2.2.1⟩, rfl⟩
structure SrFit2 (x : Srch) : Prop where
  fit : SrFit x
  l : x.l.length * 32 ≤ 140737488351232
theorem rdSrch : Reads enc Try.prog w base held φ 28 7 Srch.c SrFit2 := by
  have key := Reads.struct (enc := enc) (w := w) (base := base) (held := held) (φ := φ) u28 c28 (Flds.cons (f := fld "S" 25 0 0) rfl c25 rdSea (Flds.cons (f := fld "L" 26 6 80) rfl c26 rdReps (Flds.nil _))) rfl rfl
  exact key.imp fun x h => ⟨⟨x.1, x.2.1.1, x.2.1.2⟩, ⟨⟨h.1, by have := h.2.1; show (x.2.1.2.length : Int) ≤ _; omega⟩, h.2.1⟩, rfl⟩
variable {v : Value} {d : DataW H} {p : List MemPlace} {r : Reach} {b0 : Nat}
theorem arg_srch (hok : Value.okWide Try.prog w r b0 28 v) (h : DataW.Trod enc Try.prog w base (fun _ => true) held 28 v d p) (hw : ∀ k ∈ d.weights Try.prog 28, k ≤ reachBytes) :
    ∃ y : Srch, VR φ (allZ w) w (.agg y.c) v ∧ SrFit2 y := by
  obtain ⟨x, q, e⟩ := (rdSrch (φ := φ)).arg_agg (agg_struct u28 hok) h hw
  exact ⟨x, e, q⟩
theorem arg_casts (hok : Value.okWide Try.prog w r b0 44 v) (h : DataW.Trod enc Try.prog w base (fun _ => true) held 44 v d p) (hw : ∀ k ∈ d.weights Try.prog 44, k ≤ reachBytes) :
    ∃ (b : Bool) (l : List Sp), VR φ (allZ w) w (.sl b .any (l.map Sp.c)) v ∧ CstFit l := by
  obtain ⟨x, q, e⟩ := (Reads.slice (φ := φ) u44 c64 (by decide) rdCast).arg_slice u44 hok h hw
  exact ⟨x.1, x.2, e, ⟨by
    have h2 := q.2
    rw [by64] at h2
    have h5 : reachBytes = 140737488351232 := by decide
    omega, q.1⟩⟩
theorem arg_2 (hok : Value.okWide Try.prog w r b0 38 v) (h : DataW.Trod enc Try.prog w base (fun _ => true) held 38 v d p) (hw : ∀ k ∈ d.weights Try.prog 38, k ≤ reachBytes) : ∃ y : Int × Int, VR φ (allZ w) w (.agg [.int y.1, .int y.2]) v := by
  obtain ⟨x, q, e⟩ := (Reads.ints (φ := φ) u38 c38 u3 c3).arg_agg (agg_array u38 hok) h hw
  match x, q with
  | [a, b], _ => exact ⟨(a, b), e⟩
end
end Go.Proofs.Ytohbjneaaahpcaa

namespace Go.Proofs.Ytohbjneaaahpcaa
open Go Go.AL Go.AL.Q Go.AL.Sh
theorem place_inj {w a b : Int} (hw : 1 ≤ w) (h : placeP w a = placeP w b) : a = b := by
  unfold placeP at h
  simp only [Sp.mk.injEq] at h
  have e1 := Int.mul_tdiv_add_tmod a w
  have e2 := Int.mul_tdiv_add_tmod b w
  rw [h.1, h.2] at e1; omega
theorem isLand_iff {w : Int} (hw : 1 ≤ w) (l : List Int) (c : Int) : isLand w l (placeP w c) = true ↔ c ∈ l := by
  unfold isLand
  rw [List.any_eq_true]
  constructor
  · rintro ⟨x, h1, h2⟩; rw [place_inj hw (eq_of_beq h2)] at h1; exact h1
  · intro h; exact ⟨c, h, by simp⟩
theorem placeF_neg {c : Int} : ∀ (l : List Int) (k : Nat), placeF c k l < 0 ↔ c ∉ l
  | [], k => by simp [placeF]
  | x :: l, k => by
    rw [placeF]
    by_cases h : x = c
    · subst h; simp
    · rw [if_neg (by simpa using h), placeF_neg l (k + 1)]; simp [Ne.symm h]
def watB (s : Sea) (c : Int) : Bool := cond (wi c 0 (s.many - 1)) (!isLand s.wide s.land (placeP s.wide c)) false
theorem water_eq {s : Sea} (ho : s.Ok) (c : Int) : cond (wi c 0 (s.many - 1)) (decide (placeF c 0 s.land < 0)) false = watB s c := by
  unfold watB
  congr 1
  rw [Bool.eq_iff_iff, decide_eq_true_eq, placeF_neg s.land 0, Bool.not_eq_true', ← Bool.not_eq_true, isLand_iff ho.w.1]
theorem watB_nat {s : Sea} (ho : s.Ok) (c : Nat) : watB s c = true ↔ c ∈ cellsL s := by
  have hm := ho.many
  unfold watB cellsL
  rw [List.mem_filter, List.mem_range]
  constructor
  · intro h; have h1 := wi_iff.1 (ac1 h); exact ⟨by omega, ac2 h⟩
  · rintro ⟨h1, h2⟩; rw [wi_iff.2 (show 0 ≤ (c : Int) ∧ (c : Int) ≤ s.many - 1 by omega)]; exact h2
theorem dist_eq (w a b : Int) : (if absI (a.tdiv w - b.tdiv w) > absI (a.tmod w - b.tmod w) then absI (a.tdiv w - b.tdiv w) else absI (a.tmod w - b.tmod w)) = farF (placeP w a) (placeP w b) := by
  rw [farF_eq, absI_eq, absI_eq]
  show _ = max (max (a.tmod w - b.tmod w) (b.tmod w - a.tmod w)) (max (a.tdiv w - b.tdiv w) (b.tdiv w - a.tdiv w))
  split <;> omega
theorem step_plain (a1 a2 b1 b2 d1 d2 sp : Int) (hs : 0 ≤ sp) :
    cond (wi (b1 - a1 - d1) (-sp) sp) (wi (b2 - a2 - d2) (-sp) sp) false = cond ((⟨a1 + d1, a2 + d2⟩ : Sp) == ⟨b1, b2⟩) true (decide (farF ⟨a1 + d1, a2 + d2⟩ ⟨b1, b2⟩ ≤ sp)) := by
  have ef := farF_eq ⟨a1 + d1, a2 + d2⟩ ⟨b1, b2⟩
  simp only at ef
  rw [Bool.eq_iff_iff]
  constructor
  · intro h
    have h1 := wi_iff.1 (ac1 h)
    have h2 := wi_iff.1 (ac2 h)
    cases he : ((⟨a1 + d1, a2 + d2⟩ : Sp) == ⟨b1, b2⟩) with
    | true => rfl
    | false => exact decide_eq_true (by omega)
  · intro h
    have h3 : max (max (a1 + d1 - b1) (b1 - (a1 + d1))) (max (a2 + d2 - b2) (b2 - (a2 + d2))) ≤ sp := by
      cases he : ((⟨a1 + d1, a2 + d2⟩ : Sp) == ⟨b1, b2⟩) with
      | true =>
        have := eq_of_beq he
        simp only [Sp.mk.injEq] at this
        omega
      | false => rw [he] at h; have := of_decide_eq_true h; omega
    rw [wi_iff.2 (show -sp ≤ b1 - a1 - d1 ∧ b1 - a1 - d1 ≤ sp by omega), wi_iff.2 (show -sp ≤ b2 - a2 - d2 ∧ b2 - a2 - d2 ≤ sp by omega)]; rfl
theorem step_eq {s : Sea} (ho : s.Ok) (hour a b : Int) :
    cond (wi (b.tmod s.wide - a.tmod s.wide - (s.step hour).lo) (-s.speed) s.speed) (wi (b.tdiv s.wide - a.tdiv s.wide - (s.step hour).hi) (-s.speed) s.speed) false = s.steps hour (placeP s.wide a) (placeP s.wide b) :=
  step_plain _ _ _ _ _ _ _ ho.sp.1
theorem dist_t (s : Sea) (h : s.Ok) (a b : Int) (ha : -1000 ≤ a ∧ a ≤ 1000) (hb : -1000 ≤ b ∧ b ≤ 1000) : Ans Try.prog 85 [.agg s.c, .int a, .int b] (.int (farF (placeP s.wide a) (placeP s.wide b))) := by
  have hw := h.w
  have p1 := placeP_bd hw ha
  have p2 := placeP_bd hw hb
  simp only [placeP] at p1 p2
  have ed := dist_eq s.wide a b
  refine told Try.func85 rfl rfl (Pure.of tab_ok Try.func85 rfl Try.ntmps85 rfl (allC (.agg _ s.free) (allC (.s _) (all1 (.s _)))) (allC (fun _ => rfl) (allC (fun _ => rfl) (all1 (fun _ => rfl)))) (by first | exact .s _ | assumption | exact .tup _ (by intro x hx; simp only [List.mem_cons, List.not_mem_nil, or_false] at hx; rcases hx with rfl | rfl | rfl | rfl <;> first | exact .s _ | (simp_all; done))) fun E hE => ?_)
  refine Aw.sm tab_ok mb0 [] rfl rfl ?zo ?zk
  case zo =>
    repeat' apply AllP.cons
    all_goals first | exact trivial
  case zk =>
  refine Aw.sd tab_ok mixed mb0 [(9, [.int (absI (a.tmod s.wide - b.tmod s.wide))]), (19, [.int (absI (a.tdiv s.wide - b.tdiv s.wide))])] rfl (by kernel_rfl) rfl rfl ?zo ?zk
  case zo =>
    repeat' apply AllP.cons
    all_goals first | exact trivial | exact Nat.le_of_ble_eq_true rfl | exact (show s.wide ≠ 0 by omega) | exact (show s.wide ≠ 0 ∧ inR (a.tdiv s.wide) from ⟨by omega, by simp only [inR]; omega⟩) | exact (show s.wide ≠ 0 ∧ inR (b.tdiv s.wide) from ⟨by omega, by simp only [inR]; omega⟩) | exact abs_t _ (by simp only [inR]; omega) | exact (by simp only [Ob.of, inR]; omega)
  case zk =>
  exact Aw.ret ⟨_, .cons (.tmp _) .nil, congrArg A.int ed⟩
theorem water_t (s : Sea) (hf : SeaFit s) (h : s.Ok) (c : Int) : Ans Try.prog 54 [.agg s.c, .int c] (.bool (watB s c)) := by
  have hm := h.many
  unfold Sea.many at hm
  have hl := hf.l
  have ew := water_eq h c
  unfold Sea.many at ew
  refine told Try.func54 rfl rfl (Pure.of tab_ok Try.func54 rfl Try.ntmps54 rfl (allC (.agg _ s.free) (all1 (.s _))) (allC (fun _ => rfl) (all1 (fun _ => rfl))) (by first | exact .s _ | assumption | exact .tup _ (by intro x hx; simp only [List.mem_cons, List.not_mem_nil, or_false] at hx; rcases hx with rfl | rfl | rfl | rfl <;> first | exact .s _ | (simp_all; done))) fun E hE => ?_)
  refine Aw.sm tab_ok mb0 [] rfl rfl ?zo ?zk
  case zo =>
    repeat' apply AllP.cons
    all_goals first | exact trivial
  case zk =>
  refine Aw.sm tab_ok mb0 [(7, [.bool (wi c 0 (s.wide * s.high - 1))]), (12, [.int (placeF c 0 s.land)])] rfl rfl ?zo ?zk
  case zo =>
    repeat' apply AllP.cons
    all_goals first | exact trivial | exact id | exact fun _ => rfl | exact Nat.le_of_ble_eq_true rfl | exact fun _ => Nat.le_of_ble_eq_true rfl | exact in_t _ _ _ | exact fun _ => place_t s.land s.ln c hl | exact (by simp only [Ob.of, inR]; omega)
  case zk =>
  exact Aw.ret ⟨_, .cons (.tmp _) .nil, congrArg A.bool ew⟩
theorem step_t (s : Sea) (h : s.Ok) (hour a b : Int) (h0 : 0 ≤ hour) (h1 : hour < s.drift.length) (ha : -1000 ≤ a ∧ a ≤ 1000) (hb : -1000 ≤ b ∧ b ≤ 1000) : Ans Try.prog 55 [.agg s.c, .int hour, .int a, .int b] (.bool (s.steps hour (placeP s.wide a) (placeP s.wide b))) := by
  have hw := h.w
  have hsp := h.sp
  have p1 := placeP_bd hw ha
  have p2 := placeP_bd hw hb
  simp only [placeP] at p1 p2
  have es := step_eq h hour a b
  have hlt : hour.toNat < s.drift.length := by omega
  have hget : (s.drift.map Sp.c)[hour.toNat]? = some (s.step hour).c := by
    unfold Sea.step; rw [get_map hlt]; simp [List.getD_eq_getElem?_getD, hlt]
  have hst := h.st (s.step hour) (by unfold Sea.step; simp [List.getD_eq_getElem?_getD, hlt])
  refine told Try.func55 rfl rfl (Pure.of tab_ok Try.func55 rfl Try.ntmps55 rfl (allC (.agg _ s.free) (allC (.s _) (allC (.s _) (all1 (.s _))))) (allC (fun _ => rfl) (allC (fun _ => rfl) (allC (fun _ => rfl) (all1 (fun _ => rfl))))) (by first | exact .s _ | assumption | exact .tup _ (by intro x hx; simp only [List.mem_cons, List.not_mem_nil, or_false] at hx; rcases hx with rfl | rfl | rfl | rfl <;> first | exact .s _ | (simp_all; done))) fun E hE => ?_)
  refine Aw.sm tab_ok mb0 [] rfl rfl ?zo ?zk
  case zo =>
    repeat' apply AllP.cons
    all_goals first | exact trivial
  case zk =>
  generalize s.step hour = d at *
  generalize s.steps hour (placeP s.wide a) (placeP s.wide b) = r at *
  refine Aw.sd tab_ok mixed mb0 [(12, d.c)] rfl (by kernel_rfl) rfl rfl ?zo ?zk
  case zo =>
    repeat' apply AllP.cons
    all_goals first | exact trivial | exact rfl | exact Nat.le_of_ble_eq_true rfl | exact hget | exact h0 | exact (show s.wide ≠ 0 by omega) | exact (by simp only [Ob.of, inR]; omega)
  case zk =>
  refine Aw.sd tab_ok mixed mb0 [(12, d.c)] rfl (by kernel_rfl) rfl rfl ?zo ?zk
  case zo =>
    repeat' apply AllP.cons
    all_goals first | exact trivial | exact rfl | exact Nat.le_of_ble_eq_true rfl | exact hget | exact h0 | exact (show s.wide ≠ 0 ∧ inR (a.tdiv s.wide) from ⟨by omega, by simp only [inR]; omega⟩) | exact (show s.wide ≠ 0 ∧ inR (b.tdiv s.wide) from ⟨by omega, by simp only [inR]; omega⟩) | exact (by simp only [Ob.of, inR]; omega)
  case zk =>
  refine Aw.sm tab_ok mb0 [(6, [.bool (wi (b.tmod s.wide - a.tmod s.wide - d.lo) (-s.speed) s.speed)]), (14, [.bool (wi (b.tdiv s.wide - a.tdiv s.wide - d.hi) (-s.speed) s.speed)])] rfl rfl ?zo ?zk
  case zo =>
    repeat' apply AllP.cons
    all_goals first | exact trivial | exact id | exact fun _ => rfl | exact Nat.le_of_ble_eq_true rfl | exact fun _ => Nat.le_of_ble_eq_true rfl | exact in_t _ _ _ | exact (in_t _ _ _).un | exact (by simp only [Ob.of, inR]; omega)
  case zk =>
  exact Aw.ret ⟨_, .cons (.tmp _) .nil, congrArg A.bool es⟩
theorem runtrue_t (s : Sea) (h : s.Ok) (r : Rep) (hr : 0 ≤ r.cell ∧ r.cell ≤ 1000) (c : Int) (hc : -1000 ≤ c ∧ c ≤ 1000) : Ans Try.prog 66 [.agg s.c, .agg r.c, .int c] (.bool (!isTrueF s.wide r (placeP s.wide c))) := by
  have hd := dist_t s h r.cell c (by omega) hc
  refine told Try.func66 rfl rfl (Pure.of tab_ok Try.func66 rfl Try.ntmps66 rfl (allC (.agg _ s.free) (allC (.agg _ r.free) (all1 (.s _)))) (allC (fun _ => rfl) (allC (fun _ => rfl) (all1 (fun _ => rfl)))) (by first | exact .s _ | assumption | exact .tup _ (by intro x hx; simp only [List.mem_cons, List.not_mem_nil, or_false] at hx; rcases hx with rfl | rfl | rfl | rfl <;> first | exact .s _ | (simp_all; done))) fun E hE => ?_)
  refine Aw.sm tab_ok mb0 [] rfl rfl ?zo ?zk
  case zo =>
    repeat' apply AllP.cons
    all_goals first | exact trivial
  case zk =>
  refine Aw.sd tab_ok mixed mb0 [(4, [.int (farF (placeP s.wide r.cell) (placeP s.wide c))])] rfl (by kernel_rfl) rfl rfl ?zo ?zk
  case zo =>
    repeat' apply AllP.cons
    all_goals first | exact trivial | exact Nat.le_of_ble_eq_true rfl | exact hd
  case zk =>
  exact Aw.ret ⟨_, .cons (.tmp _) .nil, by unfold isTrueF; cases r.there <;> cases decide (farF (placeP s.wide r.cell) (placeP s.wide c) ≤ r.far) <;> rfl⟩
theorem rcov_t (s : Sea) (h : s.Ok) (c : Sp) (hr : 0 ≤ c.lo ∧ c.lo ≤ 1000) (p : Int) (hc : -1000 ≤ p ∧ p ≤ 1000) : Ans Try.prog 70 [.agg s.c, .agg c.c, .int p] (.bool (covB s.wide c p)) := by
  have hd := dist_t s h c.lo p (by omega) hc
  refine told Try.func70 rfl rfl (Pure.of tab_ok Try.func70 rfl Try.ntmps70 rfl (allC (.agg _ s.free) (allC (.agg _ c.free) (all1 (.s _)))) (allC (fun _ => rfl) (allC (fun _ => rfl) (all1 (fun _ => rfl)))) (by first | exact .s _ | assumption | exact .tup _ (by intro x hx; simp only [List.mem_cons, List.not_mem_nil, or_false] at hx; rcases hx with rfl | rfl | rfl | rfl <;> first | exact .s _ | (simp_all; done))) fun E hE => ?_)
  refine Aw.sm tab_ok mb0 [] rfl rfl ?zo ?zk
  case zo =>
    repeat' apply AllP.cons
    all_goals first | exact trivial
  case zk =>
  refine Aw.sd tab_ok mixed mb0 [(4, [.int (farF (placeP s.wide c.lo) (placeP s.wide p))])] rfl (by kernel_rfl) rfl rfl ?zo ?zk
  case zo =>
    repeat' apply AllP.cons
    all_goals first | exact trivial | exact Nat.le_of_ble_eq_true rfl | exact hd
  case zk =>
  exact Aw.ret ⟨_, .cons (.tmp _) .nil, rfl⟩
theorem lies_t (s : Sea) (h : s.Ok) (x : Bool) (l : List Rep) (hl : RepFit s l) (hour c : Int) (hc : -1000 ≤ c ∧ c ≤ 1000) : Ans Try.prog 56 [.agg s.c, .sl x .any (l.map Rep.c), .int hour, .int c] (.int (untrueF s.wide l hour (placeP s.wide c))) := by
  have hm := h.many
  have ll : ((l.map Rep.c).length : Int) = l.length := by simp
  have hlen := hl.len
  have fl : Free (.sl x .any (l.map Rep.c)) := free_map Rep.free _ _ _
  have us : Under 0 (A.pt s.c) := (Free.pt _ s.free).under
  have ul : Under 0 (.sl x .any (l.map Rep.c)) := fl.under
  refine told Try.func56 rfl rfl (Pure.of tab_ok Try.func56 rfl Try.ntmps56 rfl (allC (.agg _ s.free) (allC (fl) (allC (.s _) (all1 (.s _))))) (allC (fun _ => rfl) (allC (fun _ => rfl) (allC (fun _ => rfl) (all1 (fun _ => rfl))))) (by first | exact .s _ | assumption | exact .tup _ (by intro x hx; simp only [List.mem_cons, List.not_mem_nil, or_false] at hx; rcases hx with rfl | rfl | rfl | rfl <;> first | exact .s _ | (simp_all; done))) fun E hE => ?_)
  refine Aw.sm tab_ok mb0 [] rfl rfl ?zo ?zk
  case zo =>
    repeat' apply AllP.cons
    all_goals first | exact trivial
  case zk =>
  refine Aw.sm tab_ok mb0 [] rfl rfl ?zo ?zk
  case zo =>
    repeat' apply AllP.cons
    all_goals first | exact trivial
  case zk =>
  refine Aw.seq ?_
  refine Aw.sm tab_ok mb0 [] rfl rfl ?zo ?zk
  case zo =>
    repeat' apply AllP.cons
    all_goals first | exact trivial
  case zk =>
  refine Aw.block (Aw.rounds 0 hE [(1, .sl x .any (l.map Rep.c)), (2, .int hour), (3, .int c), (4, .pt s.c)] (fun k : Nat => [(9, .int ((l.take k).countP (falseAt s.wide hour (placeP s.wide c)) : Nat)), (10, .int k)]) (fun k => []) (fun k => k ≤ l.length) (fun k => l.length - k) 0 ?zg ⟨?zc, ?zv, ?zh, Nat.le_of_ble_eq_true rfl⟩ ?zu (fun k zhk => ?zw) (fun k zhk => ?zx) fun k hk => ?zr)
  case zg =>
    (repeat' (first | exact Nat.zero_le _ | exact Nat.le_refl _ | exact trivial | exact us | exact ul | (refine And.intro ?_ ?_)))
  case zc =>
    (repeat' (first | (refine And.intro ?_ ?_) | exact trivial | exact A.Le.refl _ | exact rfl | exact us | exact ul))
  case zv =>
    (repeat' (first | (refine And.intro ?_ ?_) | exact trivial | exact A.Le.refl _ | exact rfl | exact us | exact ul))
  case zh =>
    (repeat' (first | (refine And.intro ?_ ?_) | exact trivial | exact A.Le.refl _ | exact rfl | exact us | exact ul))
  case zu =>
    (repeat' (first | exact trivial | exact Under.s _ | exact Under.un | assumption | exact (free_ints _ _ _).under | exact Under.ref _ _ (by decide) | exact Under.ms _ _ _ (by decide) | exact Under.mp _ (by decide) | exact (Free.agg _ (by assumption)).under | exact (Free.pt _ (by assumption)).under | exact grL_under _ | exact outA_under _ | exact Nat.le_of_ble_eq_true rfl | exact (fun _ _ => rfl) | exact us | exact ul | (refine And.intro ?_ ?_)))
  case zw =>
    (repeat' (first | exact trivial | exact Under.s _ | exact Under.un | assumption | exact (free_ints _ _ _).under | exact Under.ref _ _ (by decide) | exact Under.ms _ _ _ (by decide) | exact Under.mp _ (by decide) | exact (Free.agg _ (by assumption)).under | exact (Free.pt _ (by assumption)).under | exact grL_under _ | exact outA_under _ | exact Nat.le_of_ble_eq_true rfl | exact (fun _ _ => rfl) | exact us | exact ul | (refine And.intro ?_ ?_)))
  case zx =>
    (repeat' (first | exact trivial | exact Under.s _ | exact Under.un | assumption | exact (free_ints _ _ _).under | exact Under.ref _ _ (by decide) | exact Under.ms _ _ _ (by decide) | exact Under.mp _ (by decide) | exact (Free.agg _ (by assumption)).under | exact (Free.pt _ (by assumption)).under | exact grL_under _ | exact outA_under _ | exact Nat.le_of_ble_eq_true rfl | exact (fun _ _ => rfl) | exact us | exact ul | (refine And.intro ?_ ?_)))
  case zr =>
  refine Aw.seq ?_
  refine Aw.sm tab_ok mb0 [] rfl rfl ?zo ?zk
  case zo =>
    repeat' apply AllP.cons
    all_goals first | exact trivial
  case zk =>
  refine Aw.cond rfl (fun h1 => Aw.skip ?_) (fun h1 => ?_)
  · have hlt : k < l.length := by have := of_decide_eq_true h1; omega
    have hget := get_map (f := Rep.c) hlt
    have hin := hl.at' l[k] (List.getElem_mem hlt)
    have hst := cnt_take (p := falseAt s.wide hour (placeP s.wide c)) hlt
    have hbd : ((l.take k).countP (falseAt s.wide hour (placeP s.wide c)) : Nat) ≤ k := Nat.le_trans List.countP_le_length (by simp; omega)
    have hfa : falseAt s.wide hour (placeP s.wide c) l[k] = cond (l[k].hour == hour) (!isTrueF s.wide l[k] (placeP s.wide c)) false := rfl
    generalize l[k] = r at *
    have hru := runtrue_t s h r (by omega) c hc
    generalize isTrueF s.wide r (placeP s.wide c) = tv at *
    generalize ((l.take k).countP (falseAt s.wide hour (placeP s.wide c)) : Nat) = n at *
    refine Aw.seq (Aw.block ?_)
    refine Aw.sd tab_ok mixed mb0 [(2, r.c), (11, r.c), (14, [.bool (!tv)])] rfl (by kernel_rfl) rfl rfl ?zo ?zk
    case zo =>
      repeat' apply AllP.cons
      all_goals first | exact trivial | exact id | exact rfl | exact fun _ => rfl | exact Nat.le_of_ble_eq_true rfl | exact fun _ => Nat.le_of_ble_eq_true rfl | exact Int.natCast_nonneg _ | exact fun _ => Int.natCast_nonneg _ | exact hget | exact fun _ => hget | exact fun _ => hru
    case zk =>
    refine Aw.cond rfl (fun h2 => ?_) (fun h2 => Aw.skip ?_)
    · have h2 : cond (r.hour == hour) (!tv) false = true := h2
      rw [hfa, h2, if_pos rfl] at hst
      refine Aw.em tab_ok mb0 [] rfl rfl ?zo ?zk
      case zo =>
        repeat' apply AllP.cons
        all_goals first | exact trivial | exact (by simp only [Ob.of, inR]; omega)
      case zk =>
      refine Aw.em tab_ok mb0 [] rfl rfl ?zo ?zk
      case zo =>
        repeat' apply AllP.cons
        all_goals first | exact trivial | exact inrk k (by omega)
      case zk =>
      refine ⟨k + 1, ?zg, ?zm, ⟨?zc, ?zv, ?zh, Nat.le_of_ble_eq_true rfl⟩⟩
      case zg =>
        (repeat' (first | assumption | omega | exact .of_eq (congrArg A.int hst) | (refine And.intro ?_ ?_)))
      case zm =>
        (repeat' (first | omega | exact .of_eq (congrArg A.int hst) | (refine And.intro ?_ ?_)))
      case zc =>
        (repeat' (first | (refine And.intro ?_ ?_) | exact trivial | exact A.Le.refl _ | exact rfl | exact .of_eq (congrArg A.int hst)))
      case zv =>
        (repeat' (first | (refine And.intro ?_ ?_) | exact trivial | exact A.Le.refl _ | exact rfl | exact .of_eq (congrArg A.int hst)))
      case zh =>
        (repeat' (first | (refine And.intro ?_ ?_) | exact trivial | exact A.Le.refl _ | exact rfl | exact .of_eq (congrArg A.int hst)))
    · have h2 : cond (r.hour == hour) (!tv) false = false := h2
      rw [hfa, h2, if_neg (by decide), Int.add_zero] at hst
      refine Aw.em tab_ok mb0 [] rfl rfl ?zo ?zk
      case zo =>
        repeat' apply AllP.cons
        all_goals first | exact trivial | exact inrk k (by omega)
      case zk =>
      refine ⟨k + 1, ?zg, ?zm, ⟨?zc, ?zv, ?zh, Nat.le_of_ble_eq_true rfl⟩⟩
      case zg =>
        (repeat' (first | assumption | omega | exact .of_eq (congrArg A.int hst) | (refine And.intro ?_ ?_)))
      case zm =>
        (repeat' (first | omega | exact .of_eq (congrArg A.int hst) | (refine And.intro ?_ ?_)))
      case zc =>
        (repeat' (first | (refine And.intro ?_ ?_) | exact trivial | exact A.Le.refl _ | exact rfl | exact .of_eq (congrArg A.int hst)))
      case zv =>
        (repeat' (first | (refine And.intro ?_ ?_) | exact trivial | exact A.Le.refl _ | exact rfl | exact .of_eq (congrArg A.int hst)))
      case zh =>
        (repeat' (first | (refine And.intro ?_ ?_) | exact trivial | exact A.Le.refl _ | exact rfl | exact .of_eq (congrArg A.int hst)))
  have hle : k = l.length := by have := of_decide_eq_false h1; omega
  subst hle
  refine Aw.exit2 ?_
  rw [List.take_length]
  refine Aw.sm tab_ok mb0 [] rfl rfl ?zo ?zk
  case zo =>
    repeat' apply AllP.cons
    all_goals first | exact trivial
  case zk =>
  exact Aw.ret ⟨_, .cons (.tmp _) .nil, rfl⟩
end Go.Proofs.Ytohbjneaaahpcaa

namespace Go.Proofs.Ytohbjneaaahpcaa
open Go Go.AL Go.AL.Q Go.AL.Sh
end Go.Proofs.Ytohbjneaaahpcaa

namespace Go.Proofs.Ytohbjneaaahpcaa
open Go Go.AL Go.AL.Q Go.AL.Sh
theorem any_take {α : Type} {p : α → Bool} {l : List α} {k : Nat} (h : k < l.length) : (l.take (k + 1)).any p = cond ((l.take k).any p) true (p l[k]) := by
  rw [List.take_succ_eq_append_getElem h, List.any_append]
  cases (l.take k).any p <;> simp
end Go.Proofs.Ytohbjneaaahpcaa

namespace Go.Proofs.Ytohbjneaaahpcaa
open Go Go.AL Go.AL.Q Go.AL.Sh
end Go.Proofs.Ytohbjneaaahpcaa

namespace Go.Proofs.Ytohbjneaaahpcaa
open Go Go.AL Go.AL.Q Go.AL.Sh
def lieB (w : Int) (T : List Nat) (r : Rep) : Bool := !isTrueF w r (placeP w ((tI T).getD r.hour.toNat 0))
theorem rising_of {n : Int} : ∀ {L : List Nat} {p : Int}, L.Pairwise (· < ·) → (∀ x ∈ L, p < x) → (∀ x ∈ L, (x : Int) < n) → risingF n p (L.map Int.ofNat) = true
  | [], _, _, _, _ => rfl
  | x :: L, p, h1, h2, h3 => by
    have a := h2 x (by simp)
    have b := h3 x (by simp)
    rw [List.map_cons, risingF, wi_iff.2 (show p + 1 ≤ Int.ofNat x ∧ Int.ofNat x ≤ n - 1 by constructor; (show p + 1 ≤ (x : Int)); omega; (show (x : Int) ≤ n - 1); omega)]
    exact rising_of (List.pairwise_cons.1 h1).2 (fun y hy => by have := (List.pairwise_cons.1 h1).1 y hy; show (x : Int) < (y : Int); omega) fun y hy => h3 y (by simp [hy])
theorem canF_eq (s : Sea) (l : List Rep) (wrong hour : Int) : canF s l wrong hour = ((cellsL s).filter fun c => decide ((thrR s l hour.toNat).getD c 0 ≤ wrong)).map Int.ofNat := by unfold canF; rw [goL_all]
end Go.Proofs.Ytohbjneaaahpcaa

namespace Go.Proofs.Ytohbjneaaahpcaa
open Go Go.AL Go.AL.Q Go.AL.Sh
end Go.Proofs.Ytohbjneaaahpcaa

