/- What the proof leans on, part 5: H11 H12 H13 H14 H15 H16 H17 Y4 H18. -/
import Derived.Test.YtohbjneaaahpcaaK4
set_option linter.all false
namespace Go.Proofs.Ytohbjneaaahpcaa
open Go Go.AL Go.AL.Q Go.AL.Sh
theorem _root_.Go.AL.RCall.out {P : Program} {g : FuncId} {args : List A} {Hl : Hp} {v v' : A} (h : RCall P g args Hl v) (hle : A.Le v' v) (hs : ∀ u, spareOf v' u = none) : RCall P g args Hl v' :=
  ⟨h.ent, hs, fun H c φ Z w vs h1 h2 h3 => (h.run H c φ Z w vs h1 h2 h3).mono fun e w' ⟨u, Z', h4, h5, h6, h7⟩ => ⟨u, Z', h4, hle.vr _ _ _ _ h5, h6, h7⟩⟩
def goneB (bc : List Int) (off : Nat) (F : List Int) : Int := F.foldl (fun b o => gmin b (bc.getD (off + o.toNat) 0)) 1048576
def goneV (s : Sea) (l : List Rep) (hour : Int) (frm : Nat → List Int) (bc : List Int) (off : Nat) (p : Nat) : Int := gmin 1048576 (goneB bc off (frm p) + untrueF s.wide l hour (placeP s.wide p))
theorem untrue_bd (s : Sea) (l : List Rep) (hl : RepFit s l) (hour : Int) (p : Sp) : 0 ≤ untrueF s.wide l hour p ∧ untrueF s.wide l hour p ≤ 24 := by
  have := List.countP_le_length (p := falseAt s.wide hour p) (l := l)
  have := hl.len
  unfold untrueF; omega
theorem goL_in (s : Sea) (ho : s.Ok) {p : Nat → Bool} {j : Nat} {o : Int} (h : o ∈ goL s p j) : 0 ≤ o ∧ o < 80 := by
  unfold goL at h
  obtain ⟨k, hk, rfl⟩ := List.mem_map.1 h
  have h1 := wat_lt ho (List.mem_of_mem_take (List.mem_filter.1 hk).1)
  show 0 ≤ (k : Int) ∧ (k : Int) < 80
  omega
theorem goneB_bd {bc : List Int} {off : Nat} (hbb : ∀ x ∈ bc, 0 ≤ x ∧ x ≤ 1048576) (hbl : off + 80 ≤ bc.length) : ∀ (F : List Int), (∀ o ∈ F, 0 ≤ o ∧ o < 80) → 0 ≤ goneB bc off F ∧ goneB bc off F ≤ 1048576 := by
  have key : ∀ (F : List Int) (b : Int), (∀ o ∈ F, 0 ≤ o ∧ o < 80) → 0 ≤ b ∧ b ≤ 1048576 → 0 ≤ F.foldl (fun b o => gmin b (bc.getD (off + o.toNat) 0)) b ∧ F.foldl (fun b o => gmin b (bc.getD (off + o.toNat) 0)) b ≤ 1048576 := by
    intro F
    induction F with
    | nil => intro b _ h; exact h
    | cons o F ih =>
      intro b hF h
      rw [List.foldl_cons]
      refine ih _ (fun x hx => hF x (by simp [hx])) ?_
      have ho := hF o (by simp)
      have hlt : off + o.toNat < bc.length := by omega
      have e : bc.getD (off + o.toNat) 0 = bc[off + o.toNat] := by simp [List.getD_eq_getElem?_getD, hlt]
      have h2 := hbb _ (List.getElem_mem hlt)
      rw [gmin_eq, e]; omega
  intro F hF
  exact key F 1048576 hF (by omega)
theorem goneB_succ (bc : List Int) (off : Nat) {F : List Int} {k : Nat} (h : k < F.length) : goneB bc off (F.take (k + 1)) = gmin (goneB bc off (F.take k)) (bc.getD (off + F[k].toNat) 0) := by
  unfold goneB
  rw [List.take_succ_eq_append_getElem h, List.foldl_append]; rfl
theorem getD_ints {bc : List Int} {j : Nat} (h : j < bc.length) : ((bc.map A.int).getD j .un).down = .int (bc.getD j 0) := by
  simp [List.getD_eq_getElem?_getD, h]; rfl
theorem least1_t (a b : Int) : Ans Try.prog 83 [.int a, .sl false .exact [[.int b]]] (.int (gmin a b)) := least_t a false .exact [b] (show ((1 : Nat) : Int) ≤ 9223372036854775806 by decide) (fun _ => rfl)
def outB (F : List Int) : A := .sl F.isEmpty .any (ints F)
theorem outB_le (F : List Int) : A.Le (outB F) (outA F) := by
  cases F with
  | nil => exact .any _ _ _
  | cons x l => exact .refl _
set_option maxRecDepth 20000 in
set_option maxHeartbeats 1000000 in
theorem goneF_s (s : Sea) (ho : s.Ok) (l : List Rep) (hl : RepFit s l) (hour : Int) (h0 : 0 ≤ hour - 1) (hd : hour - 1 < s.drift.length) (bc : List Int) (off : Nat) (hbl : off + 80 ≤ bc.length) (hbb : ∀ x ∈ bc, 0 ≤ x ∧ x ≤ 1048576) :
    SCall Try.prog 80 [.agg (logA s (.mp 20) l), forthA s l, .int hour, .ref 27 off] (ofH [(20, landB s), (27, cntB bc)]) 35 (fun v' H' _ => v' = .agg ((setK (goneV s l hour (fun p : Nat => fromF s hour p) bc off) (cellsL s)).map A.int) ∧ ∀ id bx, ofH [(20, landB s), (27, cntB bc)] id = some bx → H' id = some bx) := by
  have hlen : ∀ z ∈ (cellsL s).map fun k : Nat => [A.int k], z.length = 1 := fun z h => by obtain ⟨p, _, rfl⟩ := List.mem_map.1 h; rfl
  have hlm : ((cellsL s).map fun k : Nat => [A.int k]).length = (cellsL s).length := List.length_map _
  have hcl := cellsL_len s ho
  refine SCall.drop (post := fun v' H' _ => v' = .agg ((setK (goneV s l hour (fun p : Nat => fromF s hour p) bc off) (cellsL s)).map A.int) ∧ HasH H' [(20, landB s), (27, cntB bc)]) (SCall.of_bodyN tab_ok Try.func80 rfl Try.ntmps80 (Nat.le_of_ble_eq_true rfl) (allC (fun _ => rfl) (allC (fun _ => rfl) (allC (fun _ => rfl) (all1 fun _ => rfl)))) fun E hE => ?_)
    (fun v H' c' h => ⟨_, h.2.ofH, h.1, fun id bx h => h⟩)
  have h37 : ∀ id, 37 ≤ id → E.φ0 id = none := fun id h => hE id (by omega)
  have ulog : Under 37 (A.pt (logA s (.mp 20) l)) := .pt _ (logA_under s (by decide) l)
  have uway : Under 37 (A.pt [.fn (.func 86) [] [.pt (logA s (.mp 20) l)]]) := .pt _ (all1 (.fn _ _ _ (fun _ h => nomatch h) (all1 ulog)))
  have usa : Under 37 (A.pt (seaA s (.mp 20))) := .pt _ (sea_under s (by decide))
  have ufn : Under 37 (A.fn (.func 84) [] [.pt (seaA s (.mp 20))]) := .fn _ _ _ (fun _ h => nomatch h) (all1 usa)
  have ubp : Under 37 (A.pt [.ref 27 off]) := .pt _ (all1 (.ref _ _ (by decide)))
  have ucst : UnderL 37 [(4, .pt (logA s (.mp 20) l)), (5, .pt [.fn (.func 86) [] [.pt (logA s (.mp 20) l)]]), (6, .pt [.int hour]), (7, .pt [.ref 27 off]), (8, .ref 35 0), (9, .ref 36 0)] := ⟨ulog, uway, .pt _ (all1 (.s _)), ubp, .ref _ _ (by decide), .ref _ _ (by decide), trivial⟩
  have uH : ∀ b : List Int, UnderH 37 [(20, landB s), (27, cntB bc), (35, cntB (nevK 0)), (36, cntB (b))] := fun b => ⟨⟨by decide, map_under _⟩, ⟨by decide, cntB_under _⟩, ⟨by decide, cntB_under _⟩, ⟨by decide, cntB_under _⟩, trivial⟩
  refine Aw.sm tab_ok mb0 [] rfl rfl ?zo ?zk
  case zo =>
    repeat' apply AllP.cons
    all_goals first | exact trivial
  case zk =>
  refine Aw.sm tab_ok mb0 [] rfl rfl ?zo ?zk
  case zo =>
    repeat' apply AllP.cons
    all_goals first | exact trivial
  case zk =>
  refine Aw.seq ?_
  refine Aw.sm tab_ok mb0 [] rfl rfl ?zo ?zk
  case zo =>
    repeat' apply AllP.cons
    all_goals first | exact trivial
  case zk =>
  refine Aw.block (Aw.rounds 37 h37 [(4, .pt (logA s (.mp 20) l)), (5, .pt [.fn (.func 86) [] [.pt (logA s (.mp 20) l)]]), (6, .pt [.int hour]), (7, .pt [.ref 27 off]), (8, .ref 35 0), (9, .ref 36 0)] (fun k : Nat => [(16, .int k)]) (fun k => [(20, landB s), (27, cntB bc), (35, cntB (nevK 0)), (36, cntB (nevK k))]) (fun k => k ≤ 80) (fun k => 80 - k) 0 ?zg ⟨?zc, ?zv, ?zh, Nat.le_of_ble_eq_true rfl⟩ ?zu (fun k zhk => ?zw) (fun k zhk => ?zx) fun k hk => ?zr)
  case zg =>
    (repeat' (first | exact Nat.zero_le _ | exact Nat.le_refl _ | exact trivial | exact ucst | exact uH _ | (refine And.intro ?_ ?_)))
  case zc =>
    (repeat' (first | (refine And.intro ?_ ?_) | exact trivial | exact A.Le.refl _ | exact rfl | exact ucst | exact uH _))
  case zv =>
    (repeat' (first | (refine And.intro ?_ ?_) | exact trivial | exact A.Le.refl _ | exact rfl | exact ucst | exact uH _))
  case zh =>
    (repeat' (first | (refine And.intro ?_ ?_) | exact trivial | exact A.Le.refl _ | exact rfl | exact ucst | exact uH _))
  case zu =>
    (repeat' (first | exact trivial | exact Under.s _ | exact Under.un | assumption | exact (free_ints _ _ _).under | exact Under.ref _ _ (by decide) | exact Under.ms _ _ _ (by decide) | exact Under.mp _ (by decide) | exact (Free.agg _ (by assumption)).under | exact (Free.pt _ (by assumption)).under | exact grL_under _ | exact outA_under _ | exact Nat.le_of_ble_eq_true rfl | exact (fun _ _ => rfl) | exact ucst | exact uH _ | (refine And.intro ?_ ?_)))
  case zw =>
    (repeat' (first | exact trivial | exact Under.s _ | exact Under.un | assumption | exact (free_ints _ _ _).under | exact Under.ref _ _ (by decide) | exact Under.ms _ _ _ (by decide) | exact Under.mp _ (by decide) | exact (Free.agg _ (by assumption)).under | exact (Free.pt _ (by assumption)).under | exact grL_under _ | exact outA_under _ | exact Nat.le_of_ble_eq_true rfl | exact (fun _ _ => rfl) | exact ucst | exact uH _ | (refine And.intro ?_ ?_)))
  case zx =>
    (repeat' (first | exact trivial | exact Under.s _ | exact Under.un | assumption | exact (free_ints _ _ _).under | exact Under.ref _ _ (by decide) | exact Under.ms _ _ _ (by decide) | exact Under.mp _ (by decide) | exact (Free.agg _ (by assumption)).under | exact (Free.pt _ (by assumption)).under | exact grL_under _ | exact outA_under _ | exact Nat.le_of_ble_eq_true rfl | exact (fun _ _ => rfl) | exact ucst | exact uH _ | (refine And.intro ?_ ?_)))
  case zr =>
  refine Aw.sm tab_ok mb0 [] rfl rfl ?zo ?zk
  case zo =>
    repeat' apply AllP.cons
    all_goals first | exact trivial
  case zk =>
  refine Aw.seq (Aw.cond rfl (fun h1 => Aw.skip1 ?_) (fun h1 => Aw.exit2 ?_))
  · have hlt : k < 80 := by have := of_decide_eq_true h1; omega
    have hn := nevK_len hk
    have hst := nevK_step hlt
    generalize nevK k = G at *
    refine Aw.seq (Aw.block ?_)
    refine Aw.sm tab_ok mb0 [] rfl rfl ?zo ?zk
    case zo =>
      repeat' apply AllP.cons
      all_goals first | exact trivial
    case zk =>
    refine Aw.em tab_ok mb0 [] rfl rfl ?zo ?zk
    case zo =>
      repeat' apply AllP.cons
      all_goals first | exact trivial | exact rfl | exact Int.natCast_nonneg _ | exact (show 0 + (Int.toNat (k : Int)) * 1 + 1 ≤ (G.map A.int).length by rw [List.length_map, hn, Int.toNat_natCast]; omega) | exact (by simp only [Ob.of]; omega)
    case zk =>
    refine Aw.em tab_ok mb0 [] rfl rfl ?zo ?zk
    case zo =>
      repeat' apply AllP.cons
      all_goals first | exact trivial | exact inrk k (by omega)
    case zk =>
    refine ⟨k + 1, ?zg, ?zm, ⟨?zc, ?zv, ?zh, Nat.le_of_ble_eq_true rfl⟩⟩
    case zg =>
      (repeat' (first | assumption | omega | (rw [← hst]; exact congrArg (fun x => some (B.cells x)) (set_cells (by omega))) | (refine And.intro ?_ ?_)))
    case zm =>
      (repeat' (first | omega | (rw [← hst]; exact congrArg (fun x => some (B.cells x)) (set_cells (by omega))) | (refine And.intro ?_ ?_)))
    case zc =>
      (repeat' (first | (refine And.intro ?_ ?_) | exact trivial | exact A.Le.refl _ | exact rfl | (rw [← hst]; exact congrArg (fun x => some (B.cells x)) (set_cells (by omega)))))
    case zv =>
      (repeat' (first | (refine And.intro ?_ ?_) | exact trivial | exact A.Le.refl _ | exact rfl | (rw [← hst]; exact congrArg (fun x => some (B.cells x)) (set_cells (by omega)))))
    case zh =>
      (repeat' (first | (refine And.intro ?_ ?_) | exact trivial | exact A.Le.refl _ | exact rfl | (rw [← hst]; exact congrArg (fun x => some (B.cells x)) (set_cells (by omega)))))
  have hle : k = 80 := by have := of_decide_eq_false h1; omega
  subst hle
  generalize hval : goneV s l hour (fun p : Nat => fromF s hour p) bc off = val at *
  refine Aw.seq ?_
  refine Aw.sm tab_ok mb0 [(2, [.fn (.func 84) [] [.pt (seaA s (.mp 20))], .tup [.mp 20]])] rfl rfl ?zo ?zk
  case zo =>
    repeat' apply AllP.cons
    all_goals first | exact trivial | exact Nat.le_of_ble_eq_true rfl | exact at20 (cells_r s) rfl
  case zk =>
  refine Aw.keep (n := 37) (cst := [(4, .pt (logA s (.mp 20) l)), (5, .pt [.fn (.func 86) [] [.pt (logA s (.mp 20) l)]]), (6, .pt [.int hour]), (7, .pt [.ref 27 off]), (8, .ref 35 0), (9, .ref 36 0)]) (v := [(24, .fn (.func 84) [] [.pt (seaA s (.mp 20))])]) (Hl := [(20, landB s), (27, cntB bc), (35, cntB (nevK 0)), (36, cntB (setK val ((cellsL s).take 0)))]) h37 ?zu ?zw ?zx ⟨?zc, ?zv, ?zh, Nat.le_of_ble_eq_true rfl⟩ ?zr
  case zu =>
    (repeat' (first | exact trivial | exact Under.s _ | exact Under.un | assumption | exact (free_ints _ _ _).under | exact Under.ref _ _ (by decide) | exact Under.ms _ _ _ (by decide) | exact Under.mp _ (by decide) | exact (Free.agg _ (by assumption)).under | exact (Free.pt _ (by assumption)).under | exact grL_under _ | exact outA_under _ | exact Nat.le_of_ble_eq_true rfl | exact (fun _ _ => rfl) | exact ucst | exact uH _ | (refine And.intro ?_ ?_)))
  case zw =>
    (repeat' (first | exact trivial | exact Under.s _ | exact Under.un | assumption | exact (free_ints _ _ _).under | exact Under.ref _ _ (by decide) | exact Under.ms _ _ _ (by decide) | exact Under.mp _ (by decide) | exact (Free.agg _ (by assumption)).under | exact (Free.pt _ (by assumption)).under | exact grL_under _ | exact outA_under _ | exact Nat.le_of_ble_eq_true rfl | exact (fun _ _ => rfl) | exact ucst | exact uH _ | (refine And.intro ?_ ?_)))
  case zx =>
    (repeat' (first | exact trivial | exact Under.s _ | exact Under.un | assumption | exact (free_ints _ _ _).under | exact Under.ref _ _ (by decide) | exact Under.ms _ _ _ (by decide) | exact Under.mp _ (by decide) | exact (Free.agg _ (by assumption)).under | exact (Free.pt _ (by assumption)).under | exact grL_under _ | exact outA_under _ | exact Nat.le_of_ble_eq_true rfl | exact (fun _ _ => rfl) | exact ucst | exact uH _ | (refine And.intro ?_ ?_)))
  case zc =>
    (repeat' (first | (refine And.intro ?_ ?_) | exact trivial | exact A.Le.refl _ | exact rfl | exact ucst | exact uH _))
  case zv =>
    (repeat' (first | (refine And.intro ?_ ?_) | exact trivial | exact A.Le.refl _ | exact rfl | exact ucst | exact uH _))
  case zh =>
    (repeat' (first | (refine And.intro ?_ ?_) | exact trivial | exact A.Le.refl _ | exact rfl | exact ucst | exact uH _))
  case zr =>
  refine Aw.block (Aw.iterM rfl (enters_of Try.func84 rfl rfl) ((cellsL s).map fun k : Nat => [A.int k]) (fun j H => H = ofH [(20, landB s), (27, cntB bc), (35, cntB (nevK 0)), (36, cntB (setK val ((cellsL s).take j)))]) (fun _ _ => False) rfl hlen
    (ofL2_under (UnderL.app (l := [(24, .fn (.func 84) [] [.pt (seaA s (.mp 20))])]) ⟨ufn, trivial⟩ ucst))
    (by rintro j H rfl; exact UnderH.ofH (uH _)) (fun _ _ h => h.elim)
    (fun it hIJ H hI => by rw [hlm]; exact cells1_t s ho it (Nat.lt_succ_self _) (Nat.le_of_ble_eq_true rfl) (fun k H h => by obtain ⟨H0, rfl, h2⟩ := hIJ k H h; rw [h2 20 (Nat.ne_of_beq_eq_false rfl)]; rfl) hI) rfl ?_ ?_ (fun _ _ _ _ ⟨_, h, _⟩ => h.elim))
  · intro lpB ulp j as' ha H hI E2 b2 hE2
    subst hI
    obtain ⟨p, hp, rfl⟩ : ∃ p, (cellsL s)[j]? = some p ∧ [A.int (p : Nat)] = as' := by
      rw [List.getElem?_map] at ha
      cases e : (cellsL s)[j]? with
      | none => rw [e] at ha; cases ha
      | some p => rw [e] at ha; exact ⟨p, rfl, by simpa using ha⟩
    have hgo := setK_succ val hp
    have hgl := setK_len val ((cellsL s).take j)
    have hpc := cellsL_in s ho hp
    have hv : val p = gmin 1048576 (goneB bc off (fromF s hour p) + untrueF s.wide l hour (placeP s.wide p)) := by rw [← hval]; rfl
    have hub := untrue_bd s l hl hour (placeP s.wide p)
    have hin : ∀ o ∈ fromF s hour p, 0 ≤ o ∧ o < 80 := fun o h => goL_in s ho h
    have hbd : ∀ k, 0 ≤ goneB bc off ((fromF s hour p).take k) ∧ goneB bc off ((fromF s hour p).take k) ≤ 1048576 := fun k => goneB_bd hbb hbl _ fun o ho' => hin o (List.mem_of_mem_take ho')
    have hfl : (fromF s hour p).length ≤ 80 := Nat.le_trans (goL_len s _ _) hcl
    have hur := untrue_t s ho l hl 20 hour p (by omega)
    have hrr : RCall Try.prog 86 [.int hour, .int p, .pt (logA s (.mp 20) l)] (landH s) (outB (fromF s hour p)) := (forth_r s ho l hour p h0 hd (by omega)).out (outB_le _) fun _ => rfl
    generalize setK val ((cellsL s).take j) = G at *
    generalize setK val ((cellsL s).take (j + 1)) = G' at *
    subst hgo
    generalize untrueF s.wide l hour (placeP s.wide p) = u at *
    generalize fromF s hour p = F at *
    generalize val p = vp at *
    have h38 : ∀ id, 38 ≤ id → E2.φ0 id = none := hE2
    refine Aw.em tab_ok mb0 [] rfl rfl ?zo ?zk
    case zo =>
      repeat' apply AllP.cons
      all_goals first | exact trivial
    case zk =>
    refine ⟨rfl, rfl, ?_⟩
    refine Aw.block ?_
    refine Aw.sm tab_ok mb0 [(3, [.int u])] rfl rfl ?zo ?zk
    case zo =>
      repeat' apply AllP.cons
      all_goals first | exact trivial | exact Nat.le_of_ble_eq_true rfl | exact hur
    case zk =>
    refine Aw.seq ?_
    refine Aw.sm tab_ok mb0 [] rfl rfl ?zo ?zk
    case zo =>
      repeat' apply AllP.cons
      all_goals first | exact trivial | exact Nat.le_of_ble_eq_true rfl
    case zk =>
    refine Aw.cond rfl (fun h2 => absurd h2 (by decide)) (fun h2 => Aw.skip ?_)
    refine Aw.sm tab_ok mb0 [] rfl rfl ?zo ?zk
    case zo =>
      repeat' apply AllP.cons
      all_goals first | exact trivial
    case zk =>
    refine Aw.seq ?_
    refine Aw.sm tab_ok mb0 [(4, [outB F, .tup [.mp 20]])] rfl rfl ?zo ?zk
    case zo =>
      repeat' apply AllP.cons
      all_goals first | exact trivial | exact Nat.le_of_ble_eq_true rfl | exact at20 hrr rfl
    case zk =>
    have fl : ((ints F).length : Int) = F.length := by simp [ints]
    have uF : Under 38 (outB F) := (free_ints _ _ _).under
    have ulp38 : UnderB 38 (lpB .busy none) := (ulp _ _).mono (Nat.le_of_ble_eq_true rfl)
    have um := (map_under (n := 38) (landF s.wide s.land))
    have ubp' : Under 38 (A.pt [.ref 27 off]) := .pt _ (all1 (.ref _ _ (by decide)))
    refine Aw.block (Aw.rounds 38 h38 [(7, .pt [.ref 27 off]), (9, .ref 36 0), (11, .int p), (12, .int u), (39, outB F), (40, .int F.length)] (fun k : Nat => [(13, .int (goneB bc off (F.take k))), (41, .int k)]) (fun k => [(37, lpB .busy none), (20, landB s), (27, cntB bc), (35, cntB (nevK 0)), (36, cntB G)]) (fun k => k ≤ F.length) (fun k => F.length - k) 0 ?zg ⟨?zc, ?zv, ?zh, Nat.le_of_ble_eq_true rfl⟩ ?zu (fun k zhk => ?zw) (fun k zhk => ?zx) fun k hk => ?zr)
    case zg =>
      (repeat' (first | exact Nat.zero_le _ | exact Nat.le_refl _ | exact trivial | exact .of_eq (congrArg A.int fl.symm) | exact (by decide) | exact cntB_under _ | exact um | (refine And.intro ?_ ?_)))
    case zc =>
      (repeat' (first | (refine And.intro ?_ ?_) | exact trivial | exact A.Le.refl _ | exact rfl | exact .of_eq (congrArg A.int fl.symm) | exact (by decide) | exact cntB_under _ | exact um))
    case zv =>
      (repeat' (first | (refine And.intro ?_ ?_) | exact trivial | exact A.Le.refl _ | exact rfl | exact .of_eq (congrArg A.int fl.symm) | exact (by decide) | exact cntB_under _ | exact um))
    case zh =>
      (repeat' (first | (refine And.intro ?_ ?_) | exact trivial | exact A.Le.refl _ | exact rfl | exact .of_eq (congrArg A.int fl.symm) | exact (by decide) | exact cntB_under _ | exact um))
    case zu =>
      (repeat' (first | exact trivial | exact Under.s _ | exact Under.un | assumption | exact (free_ints _ _ _).under | exact Under.ref _ _ (by decide) | exact Under.ms _ _ _ (by decide) | exact Under.mp _ (by decide) | exact (Free.agg _ (by assumption)).under | exact (Free.pt _ (by assumption)).under | exact grL_under _ | exact outA_under _ | exact Nat.le_of_ble_eq_true rfl | exact (fun _ _ => rfl) | exact .of_eq (congrArg A.int fl.symm) | exact (by decide) | exact cntB_under _ | exact um | (refine And.intro ?_ ?_)))
    case zw =>
      (repeat' (first | exact trivial | exact Under.s _ | exact Under.un | assumption | exact (free_ints _ _ _).under | exact Under.ref _ _ (by decide) | exact Under.ms _ _ _ (by decide) | exact Under.mp _ (by decide) | exact (Free.agg _ (by assumption)).under | exact (Free.pt _ (by assumption)).under | exact grL_under _ | exact outA_under _ | exact Nat.le_of_ble_eq_true rfl | exact (fun _ _ => rfl) | exact .of_eq (congrArg A.int fl.symm) | exact (by decide) | exact cntB_under _ | exact um | (refine And.intro ?_ ?_)))
    case zx =>
      (repeat' (first | exact trivial | exact Under.s _ | exact Under.un | assumption | exact (free_ints _ _ _).under | exact Under.ref _ _ (by decide) | exact Under.ms _ _ _ (by decide) | exact Under.mp _ (by decide) | exact (Free.agg _ (by assumption)).under | exact (Free.pt _ (by assumption)).under | exact grL_under _ | exact outA_under _ | exact Nat.le_of_ble_eq_true rfl | exact (fun _ _ => rfl) | exact .of_eq (congrArg A.int fl.symm) | exact (by decide) | exact cntB_under _ | exact um | (refine And.intro ?_ ?_)))
    case zr =>
    refine Aw.sm tab_ok mb0 [] rfl rfl ?zo ?zk
    case zo =>
      repeat' apply AllP.cons
      all_goals first | exact trivial
    case zk =>
    refine Aw.seq (Aw.cond rfl (fun h3 => Aw.skip1 ?_) (fun h3 => Aw.exit2 ?_))
    · have hlt : k < F.length := by have := of_decide_eq_true h3; omega
      have ho1 := hin _ (List.getElem_mem hlt)
      have hst := goneB_succ bc off hlt
      have hob : off + F[k].toNat * 1 < (bc.map A.int).length := by rw [List.length_map]; omega
      have hld : ((bc.map A.int).getD (off + F[k].toNat * 1) .un).down = .int (bc.getD (off + F[k].toNat) 0) := by rw [Nat.mul_one]; exact getD_ints (by omega)
      refine Aw.seq (Aw.block ?_)
      refine Aw.sm tab_ok mb0 [(0, [.int F[k]])] rfl rfl ?zo ?zk
      case zo =>
        repeat' apply AllP.cons
        all_goals first | exact trivial | exact rfl | exact Nat.le_of_ble_eq_true rfl | exact Int.natCast_nonneg _ | exact ints_get hlt
      case zk =>
      generalize F[k] = o at *
      generalize bc.getD (off + o.toNat) 0 = bo at *
      refine Aw.em tab_ok mb0 [(5, [.int bo]), (7, [.int (gmin (goneB bc off (F.take k)) bo)])] rfl rfl ?zo ?zk
      case zo =>
        repeat' apply AllP.cons
        all_goals first | exact trivial | exact Nat.le_of_ble_eq_true rfl | exact ho1.1 | exact ho1.2 | exact hld | exact hob | exact least1_t _ _
      case zk =>
      refine Aw.em tab_ok mb0 [] rfl rfl ?zo ?zk
      case zo =>
        repeat' apply AllP.cons
        all_goals first | exact trivial | exact inrk k (by omega)
      case zk =>
      refine ⟨k + 1, ?zg, ?zm, ⟨?zc, ?zv, ?zh, Nat.le_of_ble_eq_true rfl⟩⟩
      case zg =>
        (repeat' (first | assumption | omega | exact .of_eq (congrArg A.int hst) | (refine And.intro ?_ ?_)))
      case zm =>
        (repeat' (first | omega | exact .of_eq (congrArg A.int hst) | (refine And.intro ?_ ?_)))
      case zc =>
        (repeat' (first | (refine And.intro ?_ ?_) | exact trivial | exact A.Le.refl _ | exact rfl | exact .of_eq (congrArg A.int hst)))
      case zv =>
        (repeat' (first | (refine And.intro ?_ ?_) | exact trivial | exact A.Le.refl _ | exact rfl | exact .of_eq (congrArg A.int hst)))
      case zh =>
        (repeat' (first | (refine And.intro ?_ ?_) | exact trivial | exact A.Le.refl _ | exact rfl | exact .of_eq (congrArg A.int hst)))
    have hle : k = F.length := by have := of_decide_eq_false h3; omega
    subst hle
    have hbe := hbd F.length
    rw [List.take_length] at hbe ⊢
    have hlv := hv ▸ least1_t 1048576 (goneB bc off F + u)
    refine Aw.em tab_ok mb0 [(5, [.int vp])] rfl rfl ?zo ?zk
    case zo =>
      repeat' apply AllP.cons
      all_goals first | exact trivial | exact rfl | exact Nat.le_of_ble_eq_true rfl | exact Int.natCast_nonneg _ | exact (by simp only [Ob.of, inR]; omega) | exact hlv | exact (show 0 + (Int.toNat ((p : Nat) : Int)) * 1 + 1 ≤ (G.map A.int).length by rw [List.length_map, hgl, Int.toNat_natCast]; omega)
    case zk =>
    exact ⟨⟨_, _, rfl⟩, Nat.le_of_ble_eq_true rfl, _, rfl, HasH.ofH (l := [(20, landB s), (27, cntB bc), (35, cntB (nevK 0)), (36, cntB (G.set p vp))]) ⟨rfl, rfl, rfl, congrArg (fun x => some (B.cells x)) (set_cells (by omega)), trivial⟩⟩
  · rintro H c' hc' ⟨H0, rfl, hs⟩
    rw [hlm, List.take_length] at hs
    have hH := hasH_of_sub (l := [(20, landB s), (27, cntB bc), (35, cntB (nevK 0)), (36, cntB (setK val (cellsL s)))]) rfl hs
    have hgl := setK_len val (cellsL s)
    generalize setK val (cellsL s) = G at *
    refine Aw.keep (n := 37) (cst := [(8, .ref 35 0), (9, .ref 36 0)]) (v := []) (Hl := [(20, landB s), (27, cntB bc), (35, cntB (nevK 0)), (36, cntB (G))]) h37 ⟨.ref _ _ (by decide), .ref _ _ (by decide), trivial⟩ trivial (uH _)
      ⟨⟨.refl _, .refl _, trivial⟩, trivial, hH, hc'⟩ ?_
    refine Aw.sm tab_ok mb0 [(0, [.agg (G.map A.int)])] rfl rfl ?zo ?zk
    case zo =>
      repeat' apply AllP.cons
      all_goals first | exact trivial | exact Nat.le_of_ble_eq_true rfl | exact ld80 hgl | exact (show (0 : Nat) + 80 ≤ (G.map A.int).length by rw [List.length_map, hgl]; decide) | exact (show (G.map A.int).length = 80 by rw [List.length_map, hgl])
    case zk =>
    refine Aw.keep (n := 37) (cst := [(8, .ref 35 0)]) (v := [(3, A.un)]) (Hl := [(20, landB s), (27, cntB bc), (35, cntB G)]) h37 ⟨.ref _ _ (by decide), trivial⟩ ⟨.un, trivial⟩ ⟨⟨by decide, map_under _⟩, ⟨by decide, cntB_under _⟩, ⟨by decide, cntB_under _⟩, trivial⟩
      ⟨⟨.refl _, trivial⟩, ⟨⟨fun _ _ _ v _ => .un v, fun u p h => absurd h (by simp [spareOf])⟩, trivial⟩, ⟨rfl, rfl, congrArg (fun x => some (B.cells x)) (set80 hgl), trivial⟩, Nat.le_of_ble_eq_true rfl⟩ ?_
    exact Aw.ret ⟨_, .cons (resC rfl rfl rfl (by rw [Nat.ble_eq, List.length_map, hgl]; exact Nat.le_refl 80) (ld80 hgl)) .nil, rfl, ⟨rfl, rfl, trivial⟩⟩
set_option maxRecDepth 20000 in
set_option maxHeartbeats 1000000 in
theorem goneR_s (s : Sea) (ho : s.Ok) (l : List Rep) (hl : RepFit s l) (hour : Int) (h0 : 0 ≤ hour) (hd : hour < s.drift.length) (bc : List Int) (off : Nat) (hbl : off + 80 ≤ bc.length) (hbb : ∀ x ∈ bc, 0 ≤ x ∧ x ≤ 1048576) :
    SCall Try.prog 80 [.agg (logA s (.mp 20) l), backA s l, .int hour, .ref 32 off] (ofH [(20, landB s), (32, cntB bc)]) 35 (fun v' H' _ => v' = .agg ((setK (goneV s l hour (fun p : Nat => fromB s hour p) bc off) (cellsL s)).map A.int) ∧ ∀ id bx, ofH [(20, landB s), (32, cntB bc)] id = some bx → H' id = some bx) := by
  have hlen : ∀ z ∈ (cellsL s).map fun k : Nat => [A.int k], z.length = 1 := fun z h => by obtain ⟨p, _, rfl⟩ := List.mem_map.1 h; rfl
  have hlm : ((cellsL s).map fun k : Nat => [A.int k]).length = (cellsL s).length := List.length_map _
  have hcl := cellsL_len s ho
  refine SCall.drop (post := fun v' H' _ => v' = .agg ((setK (goneV s l hour (fun p : Nat => fromB s hour p) bc off) (cellsL s)).map A.int) ∧ HasH H' [(20, landB s), (32, cntB bc)]) (SCall.of_bodyN tab_ok Try.func80 rfl Try.ntmps80 (Nat.le_of_ble_eq_true rfl) (allC (fun _ => rfl) (allC (fun _ => rfl) (allC (fun _ => rfl) (all1 fun _ => rfl)))) fun E hE => ?_)
    (fun v H' c' h => ⟨_, h.2.ofH, h.1, fun id bx h => h⟩)
  have h37 : ∀ id, 37 ≤ id → E.φ0 id = none := fun id h => hE id (by omega)
  have ulog : Under 37 (A.pt (logA s (.mp 20) l)) := .pt _ (logA_under s (by decide) l)
  have uway : Under 37 (A.pt [.fn (.func 87) [] [.pt (logA s (.mp 20) l)]]) := .pt _ (all1 (.fn _ _ _ (fun _ h => nomatch h) (all1 ulog)))
  have usa : Under 37 (A.pt (seaA s (.mp 20))) := .pt _ (sea_under s (by decide))
  have ufn : Under 37 (A.fn (.func 84) [] [.pt (seaA s (.mp 20))]) := .fn _ _ _ (fun _ h => nomatch h) (all1 usa)
  have ubp : Under 37 (A.pt [.ref 32 off]) := .pt _ (all1 (.ref _ _ (by decide)))
  have ucst : UnderL 37 [(4, .pt (logA s (.mp 20) l)), (5, .pt [.fn (.func 87) [] [.pt (logA s (.mp 20) l)]]), (6, .pt [.int hour]), (7, .pt [.ref 32 off]), (8, .ref 35 0), (9, .ref 36 0)] := ⟨ulog, uway, .pt _ (all1 (.s _)), ubp, .ref _ _ (by decide), .ref _ _ (by decide), trivial⟩
  have uH : ∀ b : List Int, UnderH 37 [(20, landB s), (32, cntB bc), (35, cntB (nevK 0)), (36, cntB (b))] := fun b => ⟨⟨by decide, map_under _⟩, ⟨by decide, cntB_under _⟩, ⟨by decide, cntB_under _⟩, ⟨by decide, cntB_under _⟩, trivial⟩
  refine Aw.sm tab_ok mb0 [] rfl rfl ?zo ?zk
  case zo =>
    repeat' apply AllP.cons
    all_goals first | exact trivial
  case zk =>
  refine Aw.sm tab_ok mb0 [] rfl rfl ?zo ?zk
  case zo =>
    repeat' apply AllP.cons
    all_goals first | exact trivial
  case zk =>
  refine Aw.seq ?_
  refine Aw.sm tab_ok mb0 [] rfl rfl ?zo ?zk
  case zo =>
    repeat' apply AllP.cons
    all_goals first | exact trivial
  case zk =>
  refine Aw.block (Aw.rounds 37 h37 [(4, .pt (logA s (.mp 20) l)), (5, .pt [.fn (.func 87) [] [.pt (logA s (.mp 20) l)]]), (6, .pt [.int hour]), (7, .pt [.ref 32 off]), (8, .ref 35 0), (9, .ref 36 0)] (fun k : Nat => [(16, .int k)]) (fun k => [(20, landB s), (32, cntB bc), (35, cntB (nevK 0)), (36, cntB (nevK k))]) (fun k => k ≤ 80) (fun k => 80 - k) 0 ?zg ⟨?zc, ?zv, ?zh, Nat.le_of_ble_eq_true rfl⟩ ?zu (fun k zhk => ?zw) (fun k zhk => ?zx) fun k hk => ?zr)
  case zg =>
    (repeat' (first | exact Nat.zero_le _ | exact Nat.le_refl _ | exact trivial | exact ucst | exact uH _ | (refine And.intro ?_ ?_)))
  case zc =>
    (repeat' (first | (refine And.intro ?_ ?_) | exact trivial | exact A.Le.refl _ | exact rfl | exact ucst | exact uH _))
  case zv =>
    (repeat' (first | (refine And.intro ?_ ?_) | exact trivial | exact A.Le.refl _ | exact rfl | exact ucst | exact uH _))
  case zh =>
    (repeat' (first | (refine And.intro ?_ ?_) | exact trivial | exact A.Le.refl _ | exact rfl | exact ucst | exact uH _))
  case zu =>
    (repeat' (first | exact trivial | exact Under.s _ | exact Under.un | assumption | exact (free_ints _ _ _).under | exact Under.ref _ _ (by decide) | exact Under.ms _ _ _ (by decide) | exact Under.mp _ (by decide) | exact (Free.agg _ (by assumption)).under | exact (Free.pt _ (by assumption)).under | exact grL_under _ | exact outA_under _ | exact Nat.le_of_ble_eq_true rfl | exact (fun _ _ => rfl) | exact ucst | exact uH _ | (refine And.intro ?_ ?_)))
  case zw =>
    (repeat' (first | exact trivial | exact Under.s _ | exact Under.un | assumption | exact (free_ints _ _ _).under | exact Under.ref _ _ (by decide) | exact Under.ms _ _ _ (by decide) | exact Under.mp _ (by decide) | exact (Free.agg _ (by assumption)).under | exact (Free.pt _ (by assumption)).under | exact grL_under _ | exact outA_under _ | exact Nat.le_of_ble_eq_true rfl | exact (fun _ _ => rfl) | exact ucst | exact uH _ | (refine And.intro ?_ ?_)))
  case zx =>
    (repeat' (first | exact trivial | exact Under.s _ | exact Under.un | assumption | exact (free_ints _ _ _).under | exact Under.ref _ _ (by decide) | exact Under.ms _ _ _ (by decide) | exact Under.mp _ (by decide) | exact (Free.agg _ (by assumption)).under | exact (Free.pt _ (by assumption)).under | exact grL_under _ | exact outA_under _ | exact Nat.le_of_ble_eq_true rfl | exact (fun _ _ => rfl) | exact ucst | exact uH _ | (refine And.intro ?_ ?_)))
  case zr =>
  refine Aw.sm tab_ok mb0 [] rfl rfl ?zo ?zk
  case zo =>
    repeat' apply AllP.cons
    all_goals first | exact trivial
  case zk =>
  refine Aw.seq (Aw.cond rfl (fun h1 => Aw.skip1 ?_) (fun h1 => Aw.exit2 ?_))
  · have hlt : k < 80 := by have := of_decide_eq_true h1; omega
    have hn := nevK_len hk
    have hst := nevK_step hlt
    generalize nevK k = G at *
    refine Aw.seq (Aw.block ?_)
    refine Aw.sm tab_ok mb0 [] rfl rfl ?zo ?zk
    case zo =>
      repeat' apply AllP.cons
      all_goals first | exact trivial
    case zk =>
    refine Aw.em tab_ok mb0 [] rfl rfl ?zo ?zk
    case zo =>
      repeat' apply AllP.cons
      all_goals first | exact trivial | exact rfl | exact Int.natCast_nonneg _ | exact (show 0 + (Int.toNat (k : Int)) * 1 + 1 ≤ (G.map A.int).length by rw [List.length_map, hn, Int.toNat_natCast]; omega) | exact (by simp only [Ob.of]; omega)
    case zk =>
    refine Aw.em tab_ok mb0 [] rfl rfl ?zo ?zk
    case zo =>
      repeat' apply AllP.cons
      all_goals first | exact trivial | exact inrk k (by omega)
    case zk =>
    refine ⟨k + 1, ?zg, ?zm, ⟨?zc, ?zv, ?zh, Nat.le_of_ble_eq_true rfl⟩⟩
    case zg =>
      (repeat' (first | assumption | omega | (rw [← hst]; exact congrArg (fun x => some (B.cells x)) (set_cells (by omega))) | (refine And.intro ?_ ?_)))
    case zm =>
      (repeat' (first | omega | (rw [← hst]; exact congrArg (fun x => some (B.cells x)) (set_cells (by omega))) | (refine And.intro ?_ ?_)))
    case zc =>
      (repeat' (first | (refine And.intro ?_ ?_) | exact trivial | exact A.Le.refl _ | exact rfl | (rw [← hst]; exact congrArg (fun x => some (B.cells x)) (set_cells (by omega)))))
    case zv =>
      (repeat' (first | (refine And.intro ?_ ?_) | exact trivial | exact A.Le.refl _ | exact rfl | (rw [← hst]; exact congrArg (fun x => some (B.cells x)) (set_cells (by omega)))))
    case zh =>
      (repeat' (first | (refine And.intro ?_ ?_) | exact trivial | exact A.Le.refl _ | exact rfl | (rw [← hst]; exact congrArg (fun x => some (B.cells x)) (set_cells (by omega)))))
  have hle : k = 80 := by have := of_decide_eq_false h1; omega
  subst hle
  generalize hval : goneV s l hour (fun p : Nat => fromB s hour p) bc off = val at *
  refine Aw.seq ?_
  refine Aw.sm tab_ok mb0 [(2, [.fn (.func 84) [] [.pt (seaA s (.mp 20))], .tup [.mp 20]])] rfl rfl ?zo ?zk
  case zo =>
    repeat' apply AllP.cons
    all_goals first | exact trivial | exact Nat.le_of_ble_eq_true rfl | exact at20 (cells_r s) rfl
  case zk =>
  refine Aw.keep (n := 37) (cst := [(4, .pt (logA s (.mp 20) l)), (5, .pt [.fn (.func 87) [] [.pt (logA s (.mp 20) l)]]), (6, .pt [.int hour]), (7, .pt [.ref 32 off]), (8, .ref 35 0), (9, .ref 36 0)]) (v := [(24, .fn (.func 84) [] [.pt (seaA s (.mp 20))])]) (Hl := [(20, landB s), (32, cntB bc), (35, cntB (nevK 0)), (36, cntB (setK val ((cellsL s).take 0)))]) h37 ?zu ?zw ?zx ⟨?zc, ?zv, ?zh, Nat.le_of_ble_eq_true rfl⟩ ?zr
  case zu =>
    (repeat' (first | exact trivial | exact Under.s _ | exact Under.un | assumption | exact (free_ints _ _ _).under | exact Under.ref _ _ (by decide) | exact Under.ms _ _ _ (by decide) | exact Under.mp _ (by decide) | exact (Free.agg _ (by assumption)).under | exact (Free.pt _ (by assumption)).under | exact grL_under _ | exact outA_under _ | exact Nat.le_of_ble_eq_true rfl | exact (fun _ _ => rfl) | exact ucst | exact uH _ | (refine And.intro ?_ ?_)))
  case zw =>
    (repeat' (first | exact trivial | exact Under.s _ | exact Under.un | assumption | exact (free_ints _ _ _).under | exact Under.ref _ _ (by decide) | exact Under.ms _ _ _ (by decide) | exact Under.mp _ (by decide) | exact (Free.agg _ (by assumption)).under | exact (Free.pt _ (by assumption)).under | exact grL_under _ | exact outA_under _ | exact Nat.le_of_ble_eq_true rfl | exact (fun _ _ => rfl) | exact ucst | exact uH _ | (refine And.intro ?_ ?_)))
  case zx =>
    (repeat' (first | exact trivial | exact Under.s _ | exact Under.un | assumption | exact (free_ints _ _ _).under | exact Under.ref _ _ (by decide) | exact Under.ms _ _ _ (by decide) | exact Under.mp _ (by decide) | exact (Free.agg _ (by assumption)).under | exact (Free.pt _ (by assumption)).under | exact grL_under _ | exact outA_under _ | exact Nat.le_of_ble_eq_true rfl | exact (fun _ _ => rfl) | exact ucst | exact uH _ | (refine And.intro ?_ ?_)))
  case zc =>
    (repeat' (first | (refine And.intro ?_ ?_) | exact trivial | exact A.Le.refl _ | exact rfl | exact ucst | exact uH _))
  case zv =>
    (repeat' (first | (refine And.intro ?_ ?_) | exact trivial | exact A.Le.refl _ | exact rfl | exact ucst | exact uH _))
  case zh =>
    (repeat' (first | (refine And.intro ?_ ?_) | exact trivial | exact A.Le.refl _ | exact rfl | exact ucst | exact uH _))
  case zr =>
  refine Aw.block (Aw.iterM rfl (enters_of Try.func84 rfl rfl) ((cellsL s).map fun k : Nat => [A.int k]) (fun j H => H = ofH [(20, landB s), (32, cntB bc), (35, cntB (nevK 0)), (36, cntB (setK val ((cellsL s).take j)))]) (fun _ _ => False) rfl hlen
    (ofL2_under (UnderL.app (l := [(24, .fn (.func 84) [] [.pt (seaA s (.mp 20))])]) ⟨ufn, trivial⟩ ucst))
    (by rintro j H rfl; exact UnderH.ofH (uH _)) (fun _ _ h => h.elim)
    (fun it hIJ H hI => by rw [hlm]; exact cells1_t s ho it (Nat.lt_succ_self _) (Nat.le_of_ble_eq_true rfl) (fun k H h => by obtain ⟨H0, rfl, h2⟩ := hIJ k H h; rw [h2 20 (Nat.ne_of_beq_eq_false rfl)]; rfl) hI) rfl ?_ ?_ (fun _ _ _ _ ⟨_, h, _⟩ => h.elim))
  · intro lpB ulp j as' ha H hI E2 b2 hE2
    subst hI
    obtain ⟨p, hp, rfl⟩ : ∃ p, (cellsL s)[j]? = some p ∧ [A.int (p : Nat)] = as' := by
      rw [List.getElem?_map] at ha
      cases e : (cellsL s)[j]? with
      | none => rw [e] at ha; cases ha
      | some p => rw [e] at ha; exact ⟨p, rfl, by simpa using ha⟩
    have hgo := setK_succ val hp
    have hgl := setK_len val ((cellsL s).take j)
    have hpc := cellsL_in s ho hp
    have hv : val p = gmin 1048576 (goneB bc off (fromB s hour p) + untrueF s.wide l hour (placeP s.wide p)) := by rw [← hval]; rfl
    have hub := untrue_bd s l hl hour (placeP s.wide p)
    have hin : ∀ o ∈ fromB s hour p, 0 ≤ o ∧ o < 80 := fun o h => goL_in s ho h
    have hbd : ∀ k, 0 ≤ goneB bc off ((fromB s hour p).take k) ∧ goneB bc off ((fromB s hour p).take k) ≤ 1048576 := fun k => goneB_bd hbb hbl _ fun o ho' => hin o (List.mem_of_mem_take ho')
    have hfl : (fromB s hour p).length ≤ 80 := Nat.le_trans (goL_len s _ _) hcl
    have hur := untrue_t s ho l hl 20 hour p (by omega)
    have hrr : RCall Try.prog 87 [.int hour, .int p, .pt (logA s (.mp 20) l)] (landH s) (outB (fromB s hour p)) := (back_r s ho l hour p h0 hd (by omega)).out (outB_le _) fun _ => rfl
    generalize setK val ((cellsL s).take j) = G at *
    generalize setK val ((cellsL s).take (j + 1)) = G' at *
    subst hgo
    generalize untrueF s.wide l hour (placeP s.wide p) = u at *
    generalize fromB s hour p = F at *
    generalize val p = vp at *
    have h38 : ∀ id, 38 ≤ id → E2.φ0 id = none := hE2
    refine Aw.em tab_ok mb0 [] rfl rfl ?zo ?zk
    case zo =>
      repeat' apply AllP.cons
      all_goals first | exact trivial
    case zk =>
    refine ⟨rfl, rfl, ?_⟩
    refine Aw.block ?_
    refine Aw.sm tab_ok mb0 [(3, [.int u])] rfl rfl ?zo ?zk
    case zo =>
      repeat' apply AllP.cons
      all_goals first | exact trivial | exact Nat.le_of_ble_eq_true rfl | exact hur
    case zk =>
    refine Aw.seq ?_
    refine Aw.sm tab_ok mb0 [] rfl rfl ?zo ?zk
    case zo =>
      repeat' apply AllP.cons
      all_goals first | exact trivial | exact Nat.le_of_ble_eq_true rfl
    case zk =>
    refine Aw.cond rfl (fun h2 => absurd h2 (by decide)) (fun h2 => Aw.skip ?_)
    refine Aw.sm tab_ok mb0 [] rfl rfl ?zo ?zk
    case zo =>
      repeat' apply AllP.cons
      all_goals first | exact trivial
    case zk =>
    refine Aw.seq ?_
    refine Aw.sm tab_ok mb0 [(4, [outB F, .tup [.mp 20]])] rfl rfl ?zo ?zk
    case zo =>
      repeat' apply AllP.cons
      all_goals first | exact trivial | exact Nat.le_of_ble_eq_true rfl | exact at20 hrr rfl
    case zk =>
    have fl : ((ints F).length : Int) = F.length := by simp [ints]
    have uF : Under 38 (outB F) := (free_ints _ _ _).under
    have ulp38 : UnderB 38 (lpB .busy none) := (ulp _ _).mono (Nat.le_of_ble_eq_true rfl)
    have um := (map_under (n := 38) (landF s.wide s.land))
    have ubp' : Under 38 (A.pt [.ref 32 off]) := .pt _ (all1 (.ref _ _ (by decide)))
    refine Aw.block (Aw.rounds 38 h38 [(7, .pt [.ref 32 off]), (9, .ref 36 0), (11, .int p), (12, .int u), (39, outB F), (40, .int F.length)] (fun k : Nat => [(13, .int (goneB bc off (F.take k))), (41, .int k)]) (fun k => [(37, lpB .busy none), (20, landB s), (32, cntB bc), (35, cntB (nevK 0)), (36, cntB G)]) (fun k => k ≤ F.length) (fun k => F.length - k) 0 ?zg ⟨?zc, ?zv, ?zh, Nat.le_of_ble_eq_true rfl⟩ ?zu (fun k zhk => ?zw) (fun k zhk => ?zx) fun k hk => ?zr)
    case zg =>
      (repeat' (first | exact Nat.zero_le _ | exact Nat.le_refl _ | exact trivial | exact .of_eq (congrArg A.int fl.symm) | exact (by decide) | exact cntB_under _ | exact um | (refine And.intro ?_ ?_)))
    case zc =>
      (repeat' (first | (refine And.intro ?_ ?_) | exact trivial | exact A.Le.refl _ | exact rfl | exact .of_eq (congrArg A.int fl.symm) | exact (by decide) | exact cntB_under _ | exact um))
    case zv =>
      (repeat' (first | (refine And.intro ?_ ?_) | exact trivial | exact A.Le.refl _ | exact rfl | exact .of_eq (congrArg A.int fl.symm) | exact (by decide) | exact cntB_under _ | exact um))
    case zh =>
      (repeat' (first | (refine And.intro ?_ ?_) | exact trivial | exact A.Le.refl _ | exact rfl | exact .of_eq (congrArg A.int fl.symm) | exact (by decide) | exact cntB_under _ | exact um))
    case zu =>
      (repeat' (first | exact trivial | exact Under.s _ | exact Under.un | assumption | exact (free_ints _ _ _).under | exact Under.ref _ _ (by decide) | exact Under.ms _ _ _ (by decide) | exact Under.mp _ (by decide) | exact (Free.agg _ (by assumption)).under | exact (Free.pt _ (by assumption)).under | exact grL_under _ | exact outA_under _ | exact Nat.le_of_ble_eq_true rfl | exact (fun _ _ => rfl) | exact .of_eq (congrArg A.int fl.symm) | exact (by decide) | exact cntB_under _ | exact um | (refine And.intro ?_ ?_)))
    case zw =>
      (repeat' (first | exact trivial | exact Under.s _ | exact Under.un | assumption | exact (free_ints _ _ _).under | exact Under.ref _ _ (by decide) | exact Under.ms _ _ _ (by decide) | exact Under.mp _ (by decide) | exact (Free.agg _ (by assumption)).under | exact (Free.pt _ (by assumption)).under | exact grL_under _ | exact outA_under _ | exact Nat.le_of_ble_eq_true rfl | exact (fun _ _ => rfl) | exact .of_eq (congrArg A.int fl.symm) | exact (by decide) | exact cntB_under _ | exact um | (refine And.intro ?_ ?_)))
    case zx =>
      (repeat' (first | exact trivial | exact Under.s _ | exact Under.un | assumption | exact (free_ints _ _ _).under | exact Under.ref _ _ (by decide) | exact Under.ms _ _ _ (by decide) | exact Under.mp _ (by decide) | exact (Free.agg _ (by assumption)).under | exact (Free.pt _ (by assumption)).under | exact grL_under _ | exact outA_under _ | exact Nat.le_of_ble_eq_true rfl | exact (fun _ _ => rfl) | exact .of_eq (congrArg A.int fl.symm) | exact (by decide) | exact cntB_under _ | exact um | (refine And.intro ?_ ?_)))
    case zr =>
    refine Aw.sm tab_ok mb0 [] rfl rfl ?zo ?zk
    case zo =>
      repeat' apply AllP.cons
      all_goals first | exact trivial
    case zk =>
    refine Aw.seq (Aw.cond rfl (fun h3 => Aw.skip1 ?_) (fun h3 => Aw.exit2 ?_))
    · have hlt : k < F.length := by have := of_decide_eq_true h3; omega
      have ho1 := hin _ (List.getElem_mem hlt)
      have hst := goneB_succ bc off hlt
      have hob : off + F[k].toNat * 1 < (bc.map A.int).length := by rw [List.length_map]; omega
      have hld : ((bc.map A.int).getD (off + F[k].toNat * 1) .un).down = .int (bc.getD (off + F[k].toNat) 0) := by rw [Nat.mul_one]; exact getD_ints (by omega)
      refine Aw.seq (Aw.block ?_)
      refine Aw.sm tab_ok mb0 [(0, [.int F[k]])] rfl rfl ?zo ?zk
      case zo =>
        repeat' apply AllP.cons
        all_goals first | exact trivial | exact rfl | exact Nat.le_of_ble_eq_true rfl | exact Int.natCast_nonneg _ | exact ints_get hlt
      case zk =>
      generalize F[k] = o at *
      generalize bc.getD (off + o.toNat) 0 = bo at *
      refine Aw.em tab_ok mb0 [(5, [.int bo]), (7, [.int (gmin (goneB bc off (F.take k)) bo)])] rfl rfl ?zo ?zk
      case zo =>
        repeat' apply AllP.cons
        all_goals first | exact trivial | exact Nat.le_of_ble_eq_true rfl | exact ho1.1 | exact ho1.2 | exact hld | exact hob | exact least1_t _ _
      case zk =>
      refine Aw.em tab_ok mb0 [] rfl rfl ?zo ?zk
      case zo =>
        repeat' apply AllP.cons
        all_goals first | exact trivial | exact inrk k (by omega)
      case zk =>
      refine ⟨k + 1, ?zg, ?zm, ⟨?zc, ?zv, ?zh, Nat.le_of_ble_eq_true rfl⟩⟩
      case zg =>
        (repeat' (first | assumption | omega | exact .of_eq (congrArg A.int hst) | (refine And.intro ?_ ?_)))
      case zm =>
        (repeat' (first | omega | exact .of_eq (congrArg A.int hst) | (refine And.intro ?_ ?_)))
      case zc =>
        (repeat' (first | (refine And.intro ?_ ?_) | exact trivial | exact A.Le.refl _ | exact rfl | exact .of_eq (congrArg A.int hst)))
      case zv =>
        (repeat' (first | (refine And.intro ?_ ?_) | exact trivial | exact A.Le.refl _ | exact rfl | exact .of_eq (congrArg A.int hst)))
      case zh =>
        (repeat' (first | (refine And.intro ?_ ?_) | exact trivial | exact A.Le.refl _ | exact rfl | exact .of_eq (congrArg A.int hst)))
    have hle : k = F.length := by have := of_decide_eq_false h3; omega
    subst hle
    have hbe := hbd F.length
    rw [List.take_length] at hbe ⊢
    have hlv := hv ▸ least1_t 1048576 (goneB bc off F + u)
    refine Aw.em tab_ok mb0 [(5, [.int vp])] rfl rfl ?zo ?zk
    case zo =>
      repeat' apply AllP.cons
      all_goals first | exact trivial | exact rfl | exact Nat.le_of_ble_eq_true rfl | exact Int.natCast_nonneg _ | exact (by simp only [Ob.of, inR]; omega) | exact hlv | exact (show 0 + (Int.toNat ((p : Nat) : Int)) * 1 + 1 ≤ (G.map A.int).length by rw [List.length_map, hgl, Int.toNat_natCast]; omega)
    case zk =>
    exact ⟨⟨_, _, rfl⟩, Nat.le_of_ble_eq_true rfl, _, rfl, HasH.ofH (l := [(20, landB s), (32, cntB bc), (35, cntB (nevK 0)), (36, cntB (G.set p vp))]) ⟨rfl, rfl, rfl, congrArg (fun x => some (B.cells x)) (set_cells (by omega)), trivial⟩⟩
  · rintro H c' hc' ⟨H0, rfl, hs⟩
    rw [hlm, List.take_length] at hs
    have hH := hasH_of_sub (l := [(20, landB s), (32, cntB bc), (35, cntB (nevK 0)), (36, cntB (setK val (cellsL s)))]) rfl hs
    have hgl := setK_len val (cellsL s)
    generalize setK val (cellsL s) = G at *
    refine Aw.keep (n := 37) (cst := [(8, .ref 35 0), (9, .ref 36 0)]) (v := []) (Hl := [(20, landB s), (32, cntB bc), (35, cntB (nevK 0)), (36, cntB (G))]) h37 ⟨.ref _ _ (by decide), .ref _ _ (by decide), trivial⟩ trivial (uH _)
      ⟨⟨.refl _, .refl _, trivial⟩, trivial, hH, hc'⟩ ?_
    refine Aw.sm tab_ok mb0 [(0, [.agg (G.map A.int)])] rfl rfl ?zo ?zk
    case zo =>
      repeat' apply AllP.cons
      all_goals first | exact trivial | exact Nat.le_of_ble_eq_true rfl | exact ld80 hgl | exact (show (0 : Nat) + 80 ≤ (G.map A.int).length by rw [List.length_map, hgl]; decide) | exact (show (G.map A.int).length = 80 by rw [List.length_map, hgl])
    case zk =>
    refine Aw.keep (n := 37) (cst := [(8, .ref 35 0)]) (v := [(3, A.un)]) (Hl := [(20, landB s), (32, cntB bc), (35, cntB G)]) h37 ⟨.ref _ _ (by decide), trivial⟩ ⟨.un, trivial⟩ ⟨⟨by decide, map_under _⟩, ⟨by decide, cntB_under _⟩, ⟨by decide, cntB_under _⟩, trivial⟩
      ⟨⟨.refl _, trivial⟩, ⟨⟨fun _ _ _ v _ => .un v, fun u p h => absurd h (by simp [spareOf])⟩, trivial⟩, ⟨rfl, rfl, congrArg (fun x => some (B.cells x)) (set80 hgl), trivial⟩, Nat.le_of_ble_eq_true rfl⟩ ?_
    exact Aw.ret ⟨_, .cons (resC rfl rfl rfl (by rw [Nat.ble_eq, List.length_map, hgl]; exact Nat.le_refl 80) (ld80 hgl)) .nil, rfl, ⟨rfl, rfl, trivial⟩⟩
end Go.Proofs.Ytohbjneaaahpcaa

namespace Go.Proofs.Ytohbjneaaahpcaa
open Go Go.AL Go.AL.Q Go.AL.Sh
theorem at2 {P : Program} {g : FuncId} {args : List A} {v : A} {i j : Nat} {a b : B} (h : RCall P g args (ofH [(i, a), (j, b)]) v) {H : Hp} (h1 : H i = some a) (h2 : H j = some b) : RCall P g args (onlyL H (idsOf [.mp i, .mp j])) v :=
  h.le rfl (fun _ _ => .refl _) fun id bx hb => by
    show cond (Nat.beq i id || (Nat.beq j id || false)) (H id) none = some bx
    simp only [ofH, updH_apply] at hb
    split at hb
    · rename_i e; subst e; cases hb; simp [h1]
    · split at hb
      · rename_i e; subst e; cases hb; simp [h2]
      · cases hb
theorem of2_lt {i j n : Nat} {a b : B} (hi : i < n) (hj : j < n) : ∀ id bx, ofH [(i, a), (j, b)] id = some bx → id < n := fun id bx hb => by
  simp only [ofH, updH_apply] at hb
  split at hb
  · rename_i e; subst e; exact hi
  · split at hb
    · rename_i e; subst e; exact hj
    · cases hb
theorem of2_nms {i j : Nat} {a b : B} {D : Nat → Prop} (ha : NmsB D a) (hb : NmsB D b) : ∀ id bx, ofH [(i, a), (j, b)] id = some bx → NmsB D bx := fun id bx h => by
  simp only [ofH, updH_apply] at h
  split at h
  · cases h; exact ha
  · split at h
    · cases h; exact hb
    · cases h
theorem cntB_nms (l : List Int) {D : Nat → Prop} : NmsB D (cntB l) := .cells _ fun x hx => by obtain ⟨v, _, rfl⟩ := List.mem_map.1 hx; exact .s _
theorem map_nms {D : Nat → Prop} (m : List (Sp × Bool)) : NmsB D (.map (encM plE valB m)) := .map _ fun p hp => ⟨(encM_free valB_free m p hp).1.nms, (encM_free valB_free m p hp).2.nms⟩
theorem ints_nms (l : List Int) {D : Nat → Prop} : Nms D (.agg (l.map A.int)) := .agg _ fun x hx => by obtain ⟨v, _, rfl⟩ := List.mem_map.1 hx; exact .s _
theorem log_nmsD (s : Sea) (l : List Rep) {D : Nat → Prop} (h : D 20) : ∀ x ∈ logA s (.mp 20) l, Nms D x := fun x hx => (List.mem_append.1 hx).elim (fun h1 => (List.mem_append.1 h1).elim (fun h => (s.free x h).nms) (all1 (.mp _ h) x)) (all1 (free_map (repC_free _) _ _ _).nms x)
theorem gone0_r (s : Sea) (ho : s.Ok) (l : List Rep) (hl : RepFit s l) (w : A) (hw : w = forthA s l ∨ w = backA s l) (hour : Int) :
    RCall Try.prog 80 [.agg (logA s (.mp 20) l), w, .int hour, .s (.pointer none)] (landH s) (.agg ((setK (fun p => untrueF s.wide l hour (placeP s.wide p)) (cellsL s)).map A.int)) :=
  RCall.of (enters_of Try.func80 rfl rfl) (landH_lt s) (landH_nms s) (allC (.agg _ (log_nms s l)) (allC (by rcases hw with rfl | rfl; exact forthA_nms s l; exact backA_nms s l) (allC (.s _) (all1 (.s _))))) (ints_nms _) (fun _ => rfl) (gone0_s s ho l hl w hw hour)
theorem goneF_r (s : Sea) (ho : s.Ok) (l : List Rep) (hl : RepFit s l) (hour : Int) (h0 : 0 ≤ hour - 1) (hd : hour - 1 < s.drift.length) (bc : List Int) (off : Nat) (hbl : off + 80 ≤ bc.length) (hbb : ∀ x ∈ bc, 0 ≤ x ∧ x ≤ 1048576) :
    RCall Try.prog 80 [.agg (logA s (.mp 20) l), forthA s l, .int hour, .ref 27 off] (ofH [(20, landB s), (27, cntB bc)]) (.agg ((setK (goneV s l hour (fun p : Nat => fromF s hour p) bc off) (cellsL s)).map A.int)) :=
  RCall.of (enters_of Try.func80 rfl rfl) (n := 35) (of2_lt (by decide) (by decide)) (of2_nms (map_nms _) (cntB_nms _)) (allC (.agg _ (log_nmsD s l rfl)) (allC (.agg _ (all1 (.fn _ _ _ (fun _ h => nomatch h) (all1 (.pt _ (log_nmsD s l rfl)))))) (allC (.s _) (all1 (.ref _ _ rfl))))) (ints_nms _) (fun _ => rfl) (goneF_s s ho l hl hour h0 hd bc off hbl hbb)
theorem goneR_r (s : Sea) (ho : s.Ok) (l : List Rep) (hl : RepFit s l) (hour : Int) (h0 : 0 ≤ hour) (hd : hour < s.drift.length) (bc : List Int) (off : Nat) (hbl : off + 80 ≤ bc.length) (hbb : ∀ x ∈ bc, 0 ≤ x ∧ x ≤ 1048576) :
    RCall Try.prog 80 [.agg (logA s (.mp 20) l), backA s l, .int hour, .ref 32 off] (ofH [(20, landB s), (32, cntB bc)]) (.agg ((setK (goneV s l hour (fun p : Nat => fromB s hour p) bc off) (cellsL s)).map A.int)) :=
  RCall.of (enters_of Try.func80 rfl rfl) (n := 35) (of2_lt (by decide) (by decide)) (of2_nms (map_nms _) (cntB_nms _)) (allC (.agg _ (log_nmsD s l rfl)) (allC (.agg _ (all1 (.fn _ _ _ (fun _ h => nomatch h) (all1 (.pt _ (log_nmsD s l rfl)))))) (allC (.s _) (all1 (.ref _ _ rfl))))) (ints_nms _) (fun _ => rfl) (goneR_s s ho l hl hour h0 hd bc off hbl hbb)
theorem fwR_len (s : Sea) (l : List Rep) (h : Nat) : (fwR s l h).length = 80 := by cases h <;> exact setK_len _ _
theorem bkR_len (s : Sea) (l : List Rep) (h : Nat) : (bkR s l h).length = 80 := by cases h <;> exact setK_len _ _
theorem fwR_no {s : Sea} {l : List Rep} {h q : Nat} (h8 : q < 80) (hq : q ∉ cellsL s) : (fwR s l h).getD q 0 = 1048576 := by cases h <;> exact setK_no _ h8 hq
theorem bkR_no {s : Sea} {l : List Rep} {h q : Nat} (h8 : q < 80) (hq : q ∉ cellsL s) : (bkR s l h).getD q 0 = 1048576 := by cases h <;> exact setK_no _ h8 hq
theorem fwR_bd {s : Sea} (ho : s.Ok) {l : List Rep} (hl : l.length ≤ 24) {h q : Nat} (hh : h < hrs s) (h8 : q < 80) : 0 ≤ (fwR s l h).getD q 0 ∧ (fwR s l h).getD q 0 ≤ 1048576 := by
  have hr : hrs s ≤ 12 := by have := ho.hr; unfold hrs; omega
  by_cases hq : q ∈ cellsL s
  · have k := fw_min ho hl h hh q hq
    exact ⟨k.nonneg, k.le fun n hn => by have := hn.le hl; omega⟩
  · rw [fwR_no h8 hq]; omega
theorem bkR_bd {s : Sea} (ho : s.Ok) {l : List Rep} (hl : l.length ≤ 24) {j q : Nat} (hh : j < hrs s) (h8 : q < 80) : 0 ≤ (bkR s l j).getD q 0 ∧ (bkR s l j).getD q 0 ≤ 1048576 := by
  have hr : hrs s ≤ 12 := by have := ho.hr; unfold hrs; omega
  by_cases hq : q ∈ cellsL s
  · have k := bk_min ho hl j hh q hq
    exact ⟨k.nonneg, k.le fun n hn => by have := hn.le hl; omega⟩
  · rw [bkR_no h8 hq]; omega
theorem goneB_blk {row : Nat → List Int} {n k : Nat} (h : ∀ i, i < n → (row i).length = 80) (hk : k < n) {F : List Int} (hF : ∀ o ∈ F, 0 ≤ o ∧ o < 80) : goneB (blk row n) (k * 80) F = leastOf (row k) F := by
  unfold goneB leastOf
  have key : ∀ (F : List Int) (b : Int), (∀ o ∈ F, 0 ≤ o ∧ o < 80) → F.foldl (fun b o => gmin b ((blk row n).getD (k * 80 + o.toNat) 0)) b = F.foldl (fun b o => gmin b ((row k).getD o.toNat 0)) b := by
    intro F
    induction F with
    | nil => intro b _; rfl
    | cons o F ih =>
      intro b hF
      have := hF o (by simp)
      rw [List.foldl_cons, List.foldl_cons, blk_getD h hk (by omega), ih _ fun x hx => hF x (by simp [hx])]
  exact key F _ hF
theorem blk_bd {row : Nat → List Int} {n : Nat} (h : ∀ i, i < n → (row i).length = 80) (hb : ∀ i q, i < n → q < 80 → 0 ≤ (row i).getD q 0 ∧ (row i).getD q 0 ≤ 1048576) : ∀ x ∈ blk row n, 0 ≤ x ∧ x ≤ 1048576 := fun x hx => by
  obtain ⟨m, hm, rfl⟩ := List.getElem_of_mem hx
  have hl := blk_len h
  have e : (blk row n)[m] = (row (m / 80)).getD (m % 80) 0 := by
    rw [← blk_getD h (by omega) (by omega), List.getD_eq_getElem?_getD, show m / 80 * 80 + m % 80 = m by omega, List.getElem?_eq_getElem hm]; rfl
  rw [e]
  exact hb _ _ (by omega) (by omega)
def row1 (s : Sea) (l : List Rep) (k : Nat) : Nat → List Int := fun i => if i < k then fwR s l i else zer80
def row2 (s : Sea) (l : List Rep) (j : Nat) : Nat → List Int := fun i => if hrs s - j ≤ i then bkR s l (hrs s - 1 - i) else zer80
def setP (s : Sea) (l : List Rep) (h : Nat) (L : List Nat) : List Int := L.foldl (fun a p => a.set p (thrV s l h p)) (fwR s l h)
def row3 (s : Sea) (l : List Rep) (h j : Nat) : Nat → List Int := fun i => if i < h then thrR s l i else if i = h then setP s l h ((cellsL s).take j) else fwR s l i
theorem row1_len (s : Sea) (l : List Rep) (k i : Nat) : (row1 s l k i).length = 80 := by unfold row1; split; exact fwR_len s l i; rfl
theorem row2_len (s : Sea) (l : List Rep) (k i : Nat) : (row2 s l k i).length = 80 := by unfold row2; split; exact bkR_len s l _; rfl
theorem setP_len (s : Sea) (l : List Rep) (h : Nat) (L : List Nat) : (setP s l h L).length = 80 := by
  have : ∀ (L : List Nat) (a : List Int), (L.foldl (fun a p => a.set p (thrV s l h p)) a).length = a.length := by
    intro L
    induction L with
    | nil => intro a; rfl
    | cons x L ih => intro a; rw [List.foldl_cons, ih, List.length_set]
  unfold setP; rw [this, fwR_len]
theorem row3_len (s : Sea) (l : List Rep) (h j i : Nat) : (row3 s l h j i).length = 80 := by unfold row3; split; exact setK_len _ _; split; exact setP_len s l h _; exact fwR_len s l i
theorem foldset_get (val : Nat → Int) (q : Nat) : ∀ (L : List Nat) (a : List Int), q < a.length → (L.foldl (fun a p => a.set p (val p)) a).getD q 0 = if q ∈ L then val q else a.getD q 0 := by
  intro L
  induction L with
  | nil => intro a _; simp
  | cons x l ih =>
    intro a ha
    rw [List.foldl_cons, ih _ (by rw [List.length_set]; exact ha)]
    by_cases h1 : q ∈ l
    · simp [h1]
    · by_cases h2 : x = q
      · subst h2; simp [h1, List.getD_eq_getElem?_getD, ha]
      · simp [h1, Ne.symm h2, List.getD_eq_getElem?_getD, List.getElem?_set, h2]
theorem ext80 {a b : List Int} (ha : a.length = 80) (hb : b.length = 80) (h : ∀ q, q < 80 → a.getD q 0 = b.getD q 0) : a = b := by
  refine List.ext_getElem (by omega) fun q h1 h2 => ?_
  have := h q (by omega)
  simpa [List.getD_eq_getElem?_getD, h1, h2] using this
theorem setP_all (s : Sea) (l : List Rep) (h : Nat) : setP s l h (cellsL s) = thrR s l h := by
  refine ext80 (setP_len s l h _) (setK_len _ _) fun q hq => ?_
  unfold setP thrR
  rw [foldset_get (thrV s l h) q _ _ (by rw [fwR_len]; exact hq), setK_get _ q _ hq]
  split
  · rfl
  · rename_i h1; exact fwR_no hq h1
theorem setP_get {s : Sea} {l : List Rep} {h j q : Nat} (hq : q < 80) (hn : q ∉ (cellsL s).take j) : (setP s l h ((cellsL s).take j)).getD q 0 = (fwR s l h).getD q 0 := by
  unfold setP
  rw [foldset_get (thrV s l h) q _ _ (by rw [fwR_len]; exact hq), if_neg hn]
theorem setP_succ {s : Sea} {l : List Rep} {h j p : Nat} (hp : (cellsL s)[j]? = some p) : setP s l h ((cellsL s).take (j + 1)) = (setP s l h ((cellsL s).take j)).set p (thrV s l h p) := by
  obtain ⟨hj, e⟩ := List.getElem?_eq_some_iff.1 hp
  unfold setP
  rw [List.take_succ_eq_append_getElem hj, List.foldl_append, e]; rfl
theorem cells_nodup (s : Sea) : (cellsL s).Nodup := List.nodup_range.filter _
theorem cells_take {s : Sea} {j p : Nat} (hp : (cellsL s)[j]? = some p) : p ∉ (cellsL s).take j := fun h => by
  obtain ⟨hj, e⟩ := List.getElem?_eq_some_iff.1 hp
  obtain ⟨i, hi, e2⟩ := List.getElem_of_mem h
  have hi2 : i < j := by simp at hi; omega
  rw [List.getElem_take] at e2
  exact List.pairwise_iff_getElem.1 (cells_nodup s) i j (by omega) hj hi2 (e2.trans e.symm)
def befF : Nat → A
  | 0 => .s (.pointer none)
  | k + 1 => .ref 27 (k * 80)
def befR (s : Sea) : Nat → A
  | 0 => .s (.pointer none)
  | j + 1 => .ref 32 ((hrs s - 1 - j) * 80)
theorem befF_under : ∀ k, Under 35 (befF k)
  | 0 => .s _
  | k + 1 => .ref _ _ (by decide)
theorem befR_under (s : Sea) : ∀ k, Under 35 (befR s k)
  | 0 => .s _
  | k + 1 => .ref _ _ (by decide)
def nsF (b : Nat) : Nat → List A
  | 0 => [.mp 20]
  | _ + 1 => [.mp 20, .mp b]
theorem goF_r (s : Sea) (ho : s.Ok) (l : List Rep) (hl : RepFit s l) {k : Nat} (hk : k < hrs s) {H : Hp} (h1 : H 20 = some (landB s)) (h2 : H 27 = some (cntB (blk (row1 s l k) (hrs s)))) :
    RCall Try.prog 80 [.agg (logA s (.mp 20) l), forthA s l, .int (k : Int), befF k] (onlyL H (idsOf (nsF 27 k))) (.agg ((fwR s l k).map A.int)) := by
  have hl24 := hl.len
  cases k with
  | zero => exact at20 (gone0_r s ho l hl _ (.inl rfl) _) h1
  | succ j =>
    have hdl := ho.dl
    have hhr := ho.hr
    have hrl : ∀ i, i < hrs s → (row1 s l (j + 1) i).length = 80 := fun i _ => row1_len s l (j + 1) i
    have := blk_len hrl
    have hhh : (hrs s : Int) = s.hours := by unfold hrs; omega
    have key := goneF_r s ho l hl ((j + 1 : Nat) : Int) (by omega) (by omega) (blk (row1 s l (j + 1)) (hrs s)) (j * 80) (by omega) (blk_bd hrl fun i q hi hq => by
      unfold row1; split
      · exact fwR_bd ho (by omega) hi hq
      · unfold zer80; rw [List.getD_eq_getElem?_getD, List.getElem?_replicate, if_pos hq]; exact ⟨by decide, by decide⟩)
    have e : (fun p : Nat => goneV s l ((j + 1 : Nat) : Int) (fun p : Nat => fromF s ((j + 1 : Nat) : Int) p) (blk (row1 s l (j + 1)) (hrs s)) (j * 80) p) = fun p : Nat => gmin 1048576 (leastOf (fwR s l j) (fromF s (j + 1 : Nat) p) + untrueF s.wide l (j + 1 : Nat) (placeP s.wide p)) := by
      funext p
      unfold goneV
      rw [show goneB (blk (row1 s l (j + 1)) (hrs s)) (j * 80) ((fun p : Nat => fromF s ((j + 1 : Nat) : Int) p) p) = leastOf (row1 s l (j + 1) j) (fromF s (j + 1 : Nat) p) from goneB_blk hrl (by omega) fun o h => goL_in s ho h]
      congr 2
      unfold row1; rw [if_pos (by omega)]
    have e2 : setK (goneV s l ((j + 1 : Nat) : Int) (fun p : Nat => fromF s ((j + 1 : Nat) : Int) p) (blk (row1 s l (j + 1)) (hrs s)) (j * 80)) (cellsL s) = fwR s l (j + 1) := congrArg (fun f => setK f (cellsL s)) e
    rw [e2] at key
    exact at2 key h1 h2
theorem goR_r (s : Sea) (ho : s.Ok) (l : List Rep) (hl : RepFit s l) {j : Nat} (hj : j < hrs s) {H : Hp} (h1 : H 20 = some (landB s)) (h2 : H 32 = some (cntB (blk (row2 s l j) (hrs s)))) :
    RCall Try.prog 80 [.agg (logA s (.mp 20) l), backA s l, .int (s.hours - 1 - j), befR s j] (onlyL H (idsOf (nsF 32 j))) (.agg ((bkR s l j).map A.int)) := by
  have hl24 := hl.len
  have hhr := ho.hr
  have hhh : (hrs s : Int) = s.hours := by unfold hrs; omega
  have hce : s.hours - 1 - (j : Int) = ((hrs s - 1 - j : Nat) : Int) := by omega
  rw [hce]
  cases j with
  | zero => exact at20 (gone0_r s ho l hl _ (.inr rfl) _) h1
  | succ j =>
    have hdl := ho.dl
    have hrl : ∀ i, i < hrs s → (row2 s l (j + 1) i).length = 80 := fun i _ => row2_len s l (j + 1) i
    have := blk_len hrl
    have key := goneR_r s ho l hl ((hrs s - 1 - (j + 1) : Nat) : Int) (by omega) (by omega) (blk (row2 s l (j + 1)) (hrs s)) ((hrs s - 1 - j) * 80) (by omega) (blk_bd hrl fun i q hi hq => by
      unfold row2; split
      · exact bkR_bd ho (by omega) (by omega) hq
      · unfold zer80; rw [List.getD_eq_getElem?_getD, List.getElem?_replicate, if_pos hq]; exact ⟨by decide, by decide⟩)
    have e : (fun p : Nat => goneV s l ((hrs s - 1 - (j + 1) : Nat) : Int) (fun p : Nat => fromB s ((hrs s - 1 - (j + 1) : Nat) : Int) p) (blk (row2 s l (j + 1)) (hrs s)) ((hrs s - 1 - j) * 80) p) = fun p : Nat => gmin 1048576 (leastOf (bkR s l j) (fromB s (hrs s - 1 - (j + 1) : Nat) p) + untrueF s.wide l (hrs s - 1 - (j + 1) : Nat) (placeP s.wide p)) := by
      funext p
      unfold goneV
      rw [show goneB (blk (row2 s l (j + 1)) (hrs s)) ((hrs s - 1 - j) * 80) ((fun p : Nat => fromB s ((hrs s - 1 - (j + 1) : Nat) : Int) p) p) = leastOf (row2 s l (j + 1) (hrs s - 1 - j)) (fromB s (hrs s - 1 - (j + 1) : Nat) p) from goneB_blk hrl (by omega) fun o h => goL_in s ho h]
      congr 2
      unfold row2; rw [if_pos (by omega), show hrs s - 1 - (hrs s - 1 - j) = j by omega]
    have e2 : setK (goneV s l ((hrs s - 1 - (j + 1) : Nat) : Int) (fun p : Nat => fromB s ((hrs s - 1 - (j + 1) : Nat) : Int) p) (blk (row2 s l (j + 1)) (hrs s)) ((hrs s - 1 - j) * 80)) (cellsL s) = bkR s l (j + 1) := congrArg (fun f => setK f (cellsL s)) e
    rw [e2] at key
    exact at2 key h1 h2
end Go.Proofs.Ytohbjneaaahpcaa

namespace Go.Proofs.Ytohbjneaaahpcaa
open Go Go.AL Go.AL.Q Go.AL.Sh
def rowsA (row : Nat → List Int) (n : Nat) : List (List A) := (List.range n).map fun i => (row i).map A.int
theorem rowsA_free (row : Nat → List Int) (n : Nat) (b : Bool) (c : Cap) : Free (.sl b c (rowsA row n)) := .sl _ _ _ fun e he x hx => by
  obtain ⟨i, _, rfl⟩ := List.mem_map.1 he
  obtain ⟨v, _, rfl⟩ := List.mem_map.1 hx; exact .s _
def msB (b : Nat) (n : Nat) : B := .cells [.ms b 0 n]
theorem msB_under {b m n : Nat} (h : b < m) : UnderB m (msB b n) := .cells _ (all1 (.ms _ _ _ h))
set_option maxRecDepth 20000 in
set_option maxHeartbeats 2000000 in
theorem through_s (s : Sea) (ho : s.Ok) (l : List Rep) (hl : RepFit s l) :
    SCall Try.prog 57 [.agg (logA s (.mp 20) l)] (landH s) 21 (fun v' H' _ => v' = .tup [.sl false .any (rowsA (thrR s l) (hrs s)), .sl false .any (rowsA (fun i => bkR s l (hrs s - 1 - i)) (hrs s))] ∧ ∀ id bx, landH s id = some bx → H' id = some bx) := by
  have hhr := ho.hr
  have hhh : s.hours = (hrs s : Int) := by unfold hrs; omega
  have hcl := cellsL_len s ho
  have hl24 : l.length ≤ 24 := by have := hl.len; omega
  have hlen : ∀ z ∈ (cellsL s).map fun k : Nat => [A.int k], z.length = 1 := fun z h => by obtain ⟨p, _, rfl⟩ := List.mem_map.1 h; rfl
  have hlm : ((cellsL s).map fun k : Nat => [A.int k]).length = (cellsL s).length := List.length_map _
  refine SCall.drop (post := fun v' H' _ => v' = .tup [.sl false .any (rowsA (thrR s l) (hrs s)), .sl false .any (rowsA (fun i => bkR s l (hrs s - 1 - i)) (hrs s))] ∧ HasH H' [(20, landB s)]) (SCall.of_bodyN tab_ok Try.func57 rfl Try.ntmps57 (Nat.le_of_ble_eq_true rfl) (all1 fun _ => rfl) fun E hE => ?_) (fun v H' c' h => ⟨_, h.2.ofH, h.1, fun id bx h => h⟩)
  have h35 : ∀ id, 35 ≤ id → E.φ0 id = none := fun id h => hE id (by omega)
  have h36 : ∀ id, 36 ≤ id → E.φ0 id = none := fun id h => hE id (by omega)
  have ulog : ∀ {n : Nat}, 20 < n → Under n (A.pt (logA s (.mp 20) l)) := fun h => .pt _ (logA_under s h l)
  have u35 := ulog (n := 35) (by decide)
  have u36 := ulog (n := 36) (by decide)
  have um : ∀ {n : Nat}, UnderB n (landB s) := map_under _
  have ubf := befF_under
  have ubr := befR_under s
  refine Aw.sm tab_ok mb0 [] rfl rfl ?zo ?zk
  case zo =>
    repeat' apply AllP.cons
    all_goals first | exact trivial
  case zk =>
  refine Aw.sd tab_ok mixed mb0 [] rfl (by kernel_rfl) rfl rfl ?zo ?zk
  case zo =>
    repeat' apply AllP.cons
    all_goals first | exact trivial | exact rfl | exact Nat.le_of_ble_eq_true rfl | exact (by simp only [Ob.of]; omega) | exact (show ((640 : Nat) : Int) * s.hours ≤ 140737488355328 by omega) | exact (show s.hours ≤ (maxLen : Int) by unfold maxLen; omega)
  case zk =>
  refine Aw.sm tab_ok mb0 [] rfl rfl ?zo ?zk
  case zo =>
    repeat' apply AllP.cons
    all_goals first | exact trivial
  case zk =>
  refine Aw.seq ?_
  refine Aw.sm tab_ok mb0 [] rfl rfl ?zo ?zk
  case zo =>
    repeat' apply AllP.cons
    all_goals first | exact trivial | exact Nat.le_of_ble_eq_true rfl
  case zk =>
  have hz := blk_zero (hrs s)
  refine Aw.block (Aw.rounds 35 h35 [(1, .pt (logA s (.mp 20) l)), (2, .ref 21 0), (3, .ref 22 0), (22, .int s.hours)] (fun k : Nat => [(4, befF k), (23, .int k)]) (fun k => [(20, landB s), (21, msB 27 (hrs s)), (22, msB 32 (hrs s)), (27, cntB (blk (row1 s l k) (hrs s))), (32, cntB (blk (row2 s l 0) (hrs s)))]) (fun k => k ≤ hrs s) (fun k => hrs s - k) 0 ?zg ⟨?zc, ?zv, ?zh, Nat.le_of_ble_eq_true rfl⟩ ?zu (fun k zhk => ?zw) (fun k zhk => ?zx) fun k hk => ?zr)
  case zg =>
    (repeat' (first | exact Nat.zero_le _ | exact Nat.le_refl _ | exact trivial | exact u35 | exact ubf _ | exact um | exact msB_under (by decide) | exact cntB_under _ | exact (by decide) | exact congrArg (fun x => some (B.cells x)) (hz.trans (congrArg (List.map A.int) (blk_congr fun i hi => by unfold row1; rw [if_neg (by omega)]))) | exact congrArg (fun x => some (B.cells x)) (hz.trans (congrArg (List.map A.int) (blk_congr fun i hi => by unfold row2; rw [if_neg (by omega)]))) | (refine And.intro ?_ ?_)))
  case zc =>
    (repeat' (first | (refine And.intro ?_ ?_) | exact trivial | exact A.Le.refl _ | exact rfl | exact u35 | exact ubf _ | exact um | exact msB_under (by decide) | exact cntB_under _ | exact (by decide) | exact congrArg (fun x => some (B.cells x)) (hz.trans (congrArg (List.map A.int) (blk_congr fun i hi => by unfold row1; rw [if_neg (by omega)]))) | exact congrArg (fun x => some (B.cells x)) (hz.trans (congrArg (List.map A.int) (blk_congr fun i hi => by unfold row2; rw [if_neg (by omega)])))))
  case zv =>
    (repeat' (first | (refine And.intro ?_ ?_) | exact trivial | exact A.Le.refl _ | exact rfl | exact u35 | exact ubf _ | exact um | exact msB_under (by decide) | exact cntB_under _ | exact (by decide) | exact congrArg (fun x => some (B.cells x)) (hz.trans (congrArg (List.map A.int) (blk_congr fun i hi => by unfold row1; rw [if_neg (by omega)]))) | exact congrArg (fun x => some (B.cells x)) (hz.trans (congrArg (List.map A.int) (blk_congr fun i hi => by unfold row2; rw [if_neg (by omega)])))))
  case zh =>
    (repeat' (first | (refine And.intro ?_ ?_) | exact trivial | exact A.Le.refl _ | exact rfl | exact u35 | exact ubf _ | exact um | exact msB_under (by decide) | exact cntB_under _ | exact (by decide) | exact congrArg (fun x => some (B.cells x)) (hz.trans (congrArg (List.map A.int) (blk_congr fun i hi => by unfold row1; rw [if_neg (by omega)]))) | exact congrArg (fun x => some (B.cells x)) (hz.trans (congrArg (List.map A.int) (blk_congr fun i hi => by unfold row2; rw [if_neg (by omega)])))))
  case zu =>
    (repeat' (first | exact trivial | exact Under.s _ | exact Under.un | assumption | exact (free_ints _ _ _).under | exact Under.ref _ _ (by decide) | exact Under.ms _ _ _ (by decide) | exact Under.mp _ (by decide) | exact (Free.agg _ (by assumption)).under | exact (Free.pt _ (by assumption)).under | exact grL_under _ | exact outA_under _ | exact Nat.le_of_ble_eq_true rfl | exact (fun _ _ => rfl) | exact u35 | exact ubf _ | exact um | exact msB_under (by decide) | exact cntB_under _ | exact (by decide) | exact congrArg (fun x => some (B.cells x)) (hz.trans (congrArg (List.map A.int) (blk_congr fun i hi => by unfold row1; rw [if_neg (by omega)]))) | exact congrArg (fun x => some (B.cells x)) (hz.trans (congrArg (List.map A.int) (blk_congr fun i hi => by unfold row2; rw [if_neg (by omega)]))) | (refine And.intro ?_ ?_)))
  case zw =>
    (repeat' (first | exact trivial | exact Under.s _ | exact Under.un | assumption | exact (free_ints _ _ _).under | exact Under.ref _ _ (by decide) | exact Under.ms _ _ _ (by decide) | exact Under.mp _ (by decide) | exact (Free.agg _ (by assumption)).under | exact (Free.pt _ (by assumption)).under | exact grL_under _ | exact outA_under _ | exact Nat.le_of_ble_eq_true rfl | exact (fun _ _ => rfl) | exact u35 | exact ubf _ | exact um | exact msB_under (by decide) | exact cntB_under _ | exact (by decide) | exact congrArg (fun x => some (B.cells x)) (hz.trans (congrArg (List.map A.int) (blk_congr fun i hi => by unfold row1; rw [if_neg (by omega)]))) | exact congrArg (fun x => some (B.cells x)) (hz.trans (congrArg (List.map A.int) (blk_congr fun i hi => by unfold row2; rw [if_neg (by omega)]))) | (refine And.intro ?_ ?_)))
  case zx =>
    (repeat' (first | exact trivial | exact Under.s _ | exact Under.un | assumption | exact (free_ints _ _ _).under | exact Under.ref _ _ (by decide) | exact Under.ms _ _ _ (by decide) | exact Under.mp _ (by decide) | exact (Free.agg _ (by assumption)).under | exact (Free.pt _ (by assumption)).under | exact grL_under _ | exact outA_under _ | exact Nat.le_of_ble_eq_true rfl | exact (fun _ _ => rfl) | exact u35 | exact ubf _ | exact um | exact msB_under (by decide) | exact cntB_under _ | exact (by decide) | exact congrArg (fun x => some (B.cells x)) (hz.trans (congrArg (List.map A.int) (blk_congr fun i hi => by unfold row1; rw [if_neg (by omega)]))) | exact congrArg (fun x => some (B.cells x)) (hz.trans (congrArg (List.map A.int) (blk_congr fun i hi => by unfold row2; rw [if_neg (by omega)]))) | (refine And.intro ?_ ?_)))
  case zr =>
  refine Aw.sm tab_ok mb0 [] rfl rfl ?zo ?zk
  case zo =>
    repeat' apply AllP.cons
    all_goals first | exact trivial
  case zk =>
  refine Aw.seq (Aw.cond rfl (fun h1 => Aw.skip1 ?_) (fun h1 => Aw.exit2 ?_))
  · have hlt : k < hrs s := by have := of_decide_eq_true h1; omega
    have hrl : ∀ i, i < hrs s → (row1 s l k i).length = 80 := fun i _ => row1_len s l k i
    have hbl := blk_len hrl
    have hrow := blk_row hrl (fwR_len s l k) hlt
    have hnx : blk (updR (row1 s l k) k (fwR s l k)) (hrs s) = blk (row1 s l (k + 1)) (hrs s) := blk_congr fun i _ => by
      unfold updR row1
      by_cases e : i = k
      · subst e; rw [if_pos rfl, if_pos (by omega)]
      · rw [if_neg e]
        by_cases e2 : i < k
        · rw [if_pos e2, if_pos (by omega)]
        · rw [if_neg e2, if_neg (by omega)]
    have hf80 := fwR_len s l k
    have hgo := @goF_r s ho l hl k hlt
    have kk : Int.toNat (k : Int) = k := Int.toNat_natCast k
    generalize fwR s l k = fr at *
    generalize hx : blk (row1 s l k) (hrs s) = X at *
    refine Aw.seq (Aw.block ?_)
    refine Aw.sm tab_ok mb0 [] rfl rfl ?zo ?zk
    case zo =>
      repeat' apply AllP.cons
      all_goals first | exact trivial
    case zk =>
    cases k with
    | zero =>
      have hgo' : ∀ {H : Hp}, H 20 = some (landB s) → H 27 = some (cntB X) → RCall Try.prog 80 [.agg (logA s (.mp 20) l), forthA s l, .int ((0 : Nat) : Int), befF 0] (onlyL H (idsOf [.mp 20])) (.agg (fr.map A.int)) := fun a b => hgo a b
      refine Aw.sd tab_ok mixed mb0 [(4, [forthA s l, .tup [.mp 20]]), (7, [.agg (fr.map A.int), .tup [.mp 20]])] rfl (by kernel_rfl) rfl rfl ?zo ?zk
      case zo =>
        repeat' apply AllP.cons
        all_goals first | exact trivial | exact Nat.le_of_ble_eq_true rfl | exact Int.natCast_nonneg _ | exact at20 (forthA_r s l) rfl | exact hgo' rfl rfl | exact (by simp only [Ob.of]; omega) | exact (show 0 + Int.toNat ((0 : Nat) : Int) * 80 + 80 ≤ (X.map A.int).length by rw [List.length_map]; omega) | exact (show (fr.map A.int).length = 80 by rw [List.length_map, hf80])
      case zk =>
      refine Aw.em tab_ok mb0 [] rfl rfl ?zo ?zk
      case zo =>
        repeat' apply AllP.cons
        all_goals first | exact trivial | exact Nat.le_of_ble_eq_true rfl | exact Int.natCast_nonneg _ | exact (by simp only [Ob.of]; omega)
      case zk =>
      refine Aw.em tab_ok mb0 [] rfl rfl ?zo ?zk
      case zo =>
        repeat' apply AllP.cons
        all_goals first | exact trivial | exact inrk 0 (by decide)
      case zk =>
      refine ⟨1, ?zg, ?zm, ⟨?zc, ?zv, ?zh, Nat.le_of_ble_eq_true rfl⟩⟩
      case zg =>
        (repeat' (first | assumption | omega | exact congrArg (fun x => some (B.cells x)) (hrow.trans (congrArg (List.map A.int) hnx)) | (refine And.intro ?_ ?_)))
      case zm =>
        (repeat' (first | omega | exact congrArg (fun x => some (B.cells x)) (hrow.trans (congrArg (List.map A.int) hnx)) | (refine And.intro ?_ ?_)))
      case zc =>
        (repeat' (first | (refine And.intro ?_ ?_) | exact trivial | exact A.Le.refl _ | exact rfl | exact congrArg (fun x => some (B.cells x)) (hrow.trans (congrArg (List.map A.int) hnx))))
      case zv =>
        (repeat' (first | (refine And.intro ?_ ?_) | exact trivial | exact A.Le.refl _ | exact rfl | exact congrArg (fun x => some (B.cells x)) (hrow.trans (congrArg (List.map A.int) hnx))))
      case zh =>
        (repeat' (first | (refine And.intro ?_ ?_) | exact trivial | exact A.Le.refl _ | exact rfl | exact congrArg (fun x => some (B.cells x)) (hrow.trans (congrArg (List.map A.int) hnx))))
    | succ k =>
      have hgo' : ∀ {H : Hp}, H 20 = some (landB s) → H 27 = some (cntB X) → RCall Try.prog 80 [.agg (logA s (.mp 20) l), forthA s l, .int ((k + 1 : Nat) : Int), .ref 27 (k * 80)] (onlyL H (idsOf [.mp 20, .mp 27])) (.agg (fr.map A.int)) := fun a b => hgo a b
      refine Aw.sd tab_ok mixed mb0 [(4, [forthA s l, .tup [.mp 20]]), (7, [.agg (fr.map A.int), .tup [.mp 20, .mp 27]])] rfl (by kernel_rfl) rfl rfl ?zo ?zk
      case zo =>
        repeat' apply AllP.cons
        all_goals first | exact trivial | exact Nat.le_of_ble_eq_true rfl | exact Int.natCast_nonneg _ | exact at20 (forthA_r s l) rfl | exact hgo' rfl rfl | exact (by simp only [Ob.of]; omega) | exact (show 0 + Int.toNat ((k + 1 : Nat) : Int) * 80 + 80 ≤ (X.map A.int).length by rw [List.length_map, kk]; omega) | exact (show (fr.map A.int).length = 80 by rw [List.length_map, hf80])
      case zk =>
      refine Aw.em tab_ok mb0 [] rfl rfl ?zo ?zk
      case zo =>
        repeat' apply AllP.cons
        all_goals first | exact trivial | exact Nat.le_of_ble_eq_true rfl | exact Int.natCast_nonneg _ | exact (by simp only [Ob.of]; omega)
      case zk =>
      refine Aw.em tab_ok mb0 [] rfl rfl ?zo ?zk
      case zo =>
        repeat' apply AllP.cons
        all_goals first | exact trivial | exact inrk _ (by omega)
      case zk =>
      refine ⟨k + 2, ?zg, ?zm, ⟨?zc, ?zv, ?zh, Nat.le_of_ble_eq_true rfl⟩⟩
      case zg =>
        (repeat' (first | assumption | omega | exact (by rw [kk] at *; exact congrArg (fun x => some (B.cells x)) (hrow.trans (congrArg (List.map A.int) hnx))) | exact .of_eq (show A.ref 27 ((k + 1) * 80) = A.ref 27 (0 + Int.toNat ((k + 1 : Nat) : Int) * 80) by rw [kk, Nat.zero_add]) | (refine And.intro ?_ ?_)))
      case zm =>
        (repeat' (first | omega | exact (by rw [kk] at *; exact congrArg (fun x => some (B.cells x)) (hrow.trans (congrArg (List.map A.int) hnx))) | exact .of_eq (show A.ref 27 ((k + 1) * 80) = A.ref 27 (0 + Int.toNat ((k + 1 : Nat) : Int) * 80) by rw [kk, Nat.zero_add]) | (refine And.intro ?_ ?_)))
      case zc =>
        (repeat' (first | (refine And.intro ?_ ?_) | exact trivial | exact A.Le.refl _ | exact rfl | exact (by rw [kk] at *; exact congrArg (fun x => some (B.cells x)) (hrow.trans (congrArg (List.map A.int) hnx))) | exact .of_eq (show A.ref 27 ((k + 1) * 80) = A.ref 27 (0 + Int.toNat ((k + 1 : Nat) : Int) * 80) by rw [kk, Nat.zero_add])))
      case zv =>
        (repeat' (first | (refine And.intro ?_ ?_) | exact trivial | exact A.Le.refl _ | exact rfl | exact (by rw [kk] at *; exact congrArg (fun x => some (B.cells x)) (hrow.trans (congrArg (List.map A.int) hnx))) | exact .of_eq (show A.ref 27 ((k + 1) * 80) = A.ref 27 (0 + Int.toNat ((k + 1 : Nat) : Int) * 80) by rw [kk, Nat.zero_add])))
      case zh =>
        (repeat' (first | (refine And.intro ?_ ?_) | exact trivial | exact A.Le.refl _ | exact rfl | exact (by rw [kk] at *; exact congrArg (fun x => some (B.cells x)) (hrow.trans (congrArg (List.map A.int) hnx))) | exact .of_eq (show A.ref 27 ((k + 1) * 80) = A.ref 27 (0 + Int.toNat ((k + 1 : Nat) : Int) * 80) by rw [kk, Nat.zero_add])))
  have hle : k = hrs s := by have := of_decide_eq_false h1; omega
  subst hle
  refine Aw.sm tab_ok mb0 [] rfl rfl ?zo ?zk
  case zo =>
    repeat' apply AllP.cons
    all_goals first | exact trivial
  case zk =>
  refine Aw.seq ?_
  refine Aw.sm tab_ok mb0 [] rfl rfl ?zo ?zk
  case zo =>
    repeat' apply AllP.cons
    all_goals first | exact trivial | exact Nat.le_of_ble_eq_true rfl | exact (by simp only [Ob.of, inR]; omega)
  case zk =>
  refine Aw.block (Aw.rounds 35 h35 [(1, .pt (logA s (.mp 20) l)), (2, .ref 21 0), (3, .ref 22 0)] (fun j : Nat => [(4, befR s j), (6, .int (s.hours - 1 - j))]) (fun j => [(20, landB s), (21, msB 27 (hrs s)), (22, msB 32 (hrs s)), (27, cntB (blk (row1 s l (hrs s)) (hrs s))), (32, cntB (blk (row2 s l j) (hrs s)))]) (fun j => j ≤ hrs s) (fun j => hrs s - j) 0 ?zg ⟨?zc, ?zv, ?zh, Nat.le_of_ble_eq_true rfl⟩ ?zu (fun j zhk => ?zw) (fun j zhk => ?zx) fun j hk => ?zr)
  case zg =>
    (repeat' (first | exact Nat.zero_le _ | exact Nat.le_refl _ | exact trivial | exact u35 | exact ubr _ | exact um | exact msB_under (by decide) | exact cntB_under _ | exact (by decide) | exact .of_eq (congrArg A.int (by omega)) | (refine And.intro ?_ ?_)))
  case zc =>
    (repeat' (first | (refine And.intro ?_ ?_) | exact trivial | exact A.Le.refl _ | exact rfl | exact u35 | exact ubr _ | exact um | exact msB_under (by decide) | exact cntB_under _ | exact (by decide) | exact .of_eq (congrArg A.int (by omega))))
  case zv =>
    (repeat' (first | (refine And.intro ?_ ?_) | exact trivial | exact A.Le.refl _ | exact rfl | exact u35 | exact ubr _ | exact um | exact msB_under (by decide) | exact cntB_under _ | exact (by decide) | exact .of_eq (congrArg A.int (by omega))))
  case zh =>
    (repeat' (first | (refine And.intro ?_ ?_) | exact trivial | exact A.Le.refl _ | exact rfl | exact u35 | exact ubr _ | exact um | exact msB_under (by decide) | exact cntB_under _ | exact (by decide) | exact .of_eq (congrArg A.int (by omega))))
  case zu =>
    (repeat' (first | exact trivial | exact Under.s _ | exact Under.un | assumption | exact (free_ints _ _ _).under | exact Under.ref _ _ (by decide) | exact Under.ms _ _ _ (by decide) | exact Under.mp _ (by decide) | exact (Free.agg _ (by assumption)).under | exact (Free.pt _ (by assumption)).under | exact grL_under _ | exact outA_under _ | exact Nat.le_of_ble_eq_true rfl | exact (fun _ _ => rfl) | exact u35 | exact ubr _ | exact um | exact msB_under (by decide) | exact cntB_under _ | exact (by decide) | exact .of_eq (congrArg A.int (by omega)) | (refine And.intro ?_ ?_)))
  case zw =>
    (repeat' (first | exact trivial | exact Under.s _ | exact Under.un | assumption | exact (free_ints _ _ _).under | exact Under.ref _ _ (by decide) | exact Under.ms _ _ _ (by decide) | exact Under.mp _ (by decide) | exact (Free.agg _ (by assumption)).under | exact (Free.pt _ (by assumption)).under | exact grL_under _ | exact outA_under _ | exact Nat.le_of_ble_eq_true rfl | exact (fun _ _ => rfl) | exact u35 | exact ubr _ | exact um | exact msB_under (by decide) | exact cntB_under _ | exact (by decide) | exact .of_eq (congrArg A.int (by omega)) | (refine And.intro ?_ ?_)))
  case zx =>
    (repeat' (first | exact trivial | exact Under.s _ | exact Under.un | assumption | exact (free_ints _ _ _).under | exact Under.ref _ _ (by decide) | exact Under.ms _ _ _ (by decide) | exact Under.mp _ (by decide) | exact (Free.agg _ (by assumption)).under | exact (Free.pt _ (by assumption)).under | exact grL_under _ | exact outA_under _ | exact Nat.le_of_ble_eq_true rfl | exact (fun _ _ => rfl) | exact u35 | exact ubr _ | exact um | exact msB_under (by decide) | exact cntB_under _ | exact (by decide) | exact .of_eq (congrArg A.int (by omega)) | (refine And.intro ?_ ?_)))
  case zr =>
  refine Aw.seq ?_
  refine Aw.sm tab_ok mb0 [] rfl rfl ?zo ?zk
  case zo =>
    repeat' apply AllP.cons
    all_goals first | exact trivial
  case zk =>
  refine Aw.cond rfl (fun h1 => Aw.skip ?_) (fun h1 => ?_)
  · have hlt : j < hrs s := by have := of_decide_eq_true h1; omega
    have hrl : ∀ i, i < hrs s → (row2 s l j i).length = 80 := fun i _ => row2_len s l j i
    have hbl := blk_len hrl
    have kk : Int.toNat (s.hours - 1 - (j : Int)) = hrs s - 1 - j := by omega
    have hrow := blk_row (k := Int.toNat (s.hours - 1 - (j : Int))) hrl (bkR_len s l j) (by omega)
    have hnx : blk (updR (row2 s l j) (Int.toNat (s.hours - 1 - (j : Int))) (bkR s l j)) (hrs s) = blk (row2 s l (j + 1)) (hrs s) := blk_congr fun i _ => by
      unfold updR row2
      by_cases e : i = Int.toNat (s.hours - 1 - (j : Int))
      · rw [if_pos e, if_pos (by omega), show hrs s - 1 - i = j by omega]
      · rw [if_neg e]
        by_cases e2 : hrs s - j ≤ i
        · rw [if_pos e2, if_pos (by omega)]
        · rw [if_neg e2, if_neg (by omega)]
    have hf80 := bkR_len s l j
    have hgo := @goR_r s ho l hl j hlt
    generalize bkR s l j = fr at *
    generalize hx : blk (row2 s l j) (hrs s) = X at *
    refine Aw.seq (Aw.block ?_)
    cases j with
    | zero =>
      have hgo' : ∀ {H : Hp}, H 20 = some (landB s) → H 32 = some (cntB X) → RCall Try.prog 80 [.agg (logA s (.mp 20) l), backA s l, .int (s.hours - 1 - ((0 : Nat) : Int)), .s (.pointer none)] (onlyL H (idsOf [.mp 20])) (.agg (fr.map A.int)) := fun a b => hgo a b
      refine Aw.sd tab_ok mixed mb0 [(4, [backA s l, .tup [.mp 20]]), (7, [.agg (fr.map A.int), .tup [.mp 20]])] rfl (by kernel_rfl) rfl rfl ?zo ?zk
      case zo =>
        repeat' apply AllP.cons
        all_goals first | exact trivial | exact Nat.le_of_ble_eq_true rfl | exact at20 (backA_r s l) rfl | exact hgo' rfl rfl | exact (by simp only [Ob.of]; omega) | exact (show 0 + Int.toNat (s.hours - 1 - ((0 : Nat) : Int)) * 80 + 80 ≤ (X.map A.int).length by rw [List.length_map]; omega) | exact (show (fr.map A.int).length = 80 by rw [List.length_map, hf80])
      case zk =>
      refine Aw.em tab_ok mb0 [] rfl rfl ?zo ?zk
      case zo =>
        repeat' apply AllP.cons
        all_goals first | exact trivial | exact Nat.le_of_ble_eq_true rfl | exact (by simp only [Ob.of]; omega)
      case zk =>
      refine Aw.em tab_ok mb0 [] rfl rfl ?zo ?zk
      case zo =>
        repeat' apply AllP.cons
        all_goals first | exact trivial | exact (by simp only [Ob.of, inR]; omega)
      case zk =>
      refine ⟨1, ?zg, ?zm, ⟨?zc, ?zv, ?zh, Nat.le_of_ble_eq_true rfl⟩⟩
      case zg =>
        (repeat' (first | assumption | omega | exact congrArg (fun x => some (B.cells x)) (hrow.trans (congrArg (List.map A.int) hnx)) | exact .of_eq (show A.ref 32 ((hrs s - 1 - 0) * 80) = A.ref 32 (0 + Int.toNat (s.hours - 1 - ((0 : Nat) : Int)) * 80) by rw [kk, Nat.zero_add]) | exact .of_eq (congrArg A.int (by omega)) | (refine And.intro ?_ ?_)))
      case zm =>
        (repeat' (first | omega | exact congrArg (fun x => some (B.cells x)) (hrow.trans (congrArg (List.map A.int) hnx)) | exact .of_eq (show A.ref 32 ((hrs s - 1 - 0) * 80) = A.ref 32 (0 + Int.toNat (s.hours - 1 - ((0 : Nat) : Int)) * 80) by rw [kk, Nat.zero_add]) | exact .of_eq (congrArg A.int (by omega)) | (refine And.intro ?_ ?_)))
      case zc =>
        (repeat' (first | (refine And.intro ?_ ?_) | exact trivial | exact A.Le.refl _ | exact rfl | exact congrArg (fun x => some (B.cells x)) (hrow.trans (congrArg (List.map A.int) hnx)) | exact .of_eq (show A.ref 32 ((hrs s - 1 - 0) * 80) = A.ref 32 (0 + Int.toNat (s.hours - 1 - ((0 : Nat) : Int)) * 80) by rw [kk, Nat.zero_add]) | exact .of_eq (congrArg A.int (by omega))))
      case zv =>
        (repeat' (first | (refine And.intro ?_ ?_) | exact trivial | exact A.Le.refl _ | exact rfl | exact congrArg (fun x => some (B.cells x)) (hrow.trans (congrArg (List.map A.int) hnx)) | exact .of_eq (show A.ref 32 ((hrs s - 1 - 0) * 80) = A.ref 32 (0 + Int.toNat (s.hours - 1 - ((0 : Nat) : Int)) * 80) by rw [kk, Nat.zero_add]) | exact .of_eq (congrArg A.int (by omega))))
      case zh =>
        (repeat' (first | (refine And.intro ?_ ?_) | exact trivial | exact A.Le.refl _ | exact rfl | exact congrArg (fun x => some (B.cells x)) (hrow.trans (congrArg (List.map A.int) hnx)) | exact .of_eq (show A.ref 32 ((hrs s - 1 - 0) * 80) = A.ref 32 (0 + Int.toNat (s.hours - 1 - ((0 : Nat) : Int)) * 80) by rw [kk, Nat.zero_add]) | exact .of_eq (congrArg A.int (by omega))))
    | succ j =>
      have hgo' : ∀ {H : Hp}, H 20 = some (landB s) → H 32 = some (cntB X) → RCall Try.prog 80 [.agg (logA s (.mp 20) l), backA s l, .int (s.hours - 1 - ((j + 1 : Nat) : Int)), .ref 32 ((hrs s - 1 - j) * 80)] (onlyL H (idsOf [.mp 20, .mp 32])) (.agg (fr.map A.int)) := fun a b => hgo a b
      refine Aw.sd tab_ok mixed mb0 [(4, [backA s l, .tup [.mp 20]]), (7, [.agg (fr.map A.int), .tup [.mp 20, .mp 32]])] rfl (by kernel_rfl) rfl rfl ?zo ?zk
      case zo =>
        repeat' apply AllP.cons
        all_goals first | exact trivial | exact Nat.le_of_ble_eq_true rfl | exact at20 (backA_r s l) rfl | exact hgo' rfl rfl | exact (by simp only [Ob.of]; omega) | exact (show 0 + Int.toNat (s.hours - 1 - ((j + 1 : Nat) : Int)) * 80 + 80 ≤ (X.map A.int).length by rw [List.length_map]; omega) | exact (show (fr.map A.int).length = 80 by rw [List.length_map, hf80])
      case zk =>
      refine Aw.em tab_ok mb0 [] rfl rfl ?zo ?zk
      case zo =>
        repeat' apply AllP.cons
        all_goals first | exact trivial | exact Nat.le_of_ble_eq_true rfl | exact (by simp only [Ob.of]; omega)
      case zk =>
      refine Aw.em tab_ok mb0 [] rfl rfl ?zo ?zk
      case zo =>
        repeat' apply AllP.cons
        all_goals first | exact trivial | exact (by simp only [Ob.of, inR]; omega)
      case zk =>
      refine ⟨j + 2, ?zg, ?zm, ⟨?zc, ?zv, ?zh, Nat.le_of_ble_eq_true rfl⟩⟩
      case zg =>
        (repeat' (first | assumption | omega | exact congrArg (fun x => some (B.cells x)) (hrow.trans (congrArg (List.map A.int) hnx)) | exact .of_eq (show A.ref 32 ((hrs s - 1 - (j + 1)) * 80) = A.ref 32 (0 + Int.toNat (s.hours - 1 - ((j + 1 : Nat) : Int)) * 80) by rw [kk, Nat.zero_add]) | exact .of_eq (congrArg A.int (by omega)) | (refine And.intro ?_ ?_)))
      case zm =>
        (repeat' (first | omega | exact congrArg (fun x => some (B.cells x)) (hrow.trans (congrArg (List.map A.int) hnx)) | exact .of_eq (show A.ref 32 ((hrs s - 1 - (j + 1)) * 80) = A.ref 32 (0 + Int.toNat (s.hours - 1 - ((j + 1 : Nat) : Int)) * 80) by rw [kk, Nat.zero_add]) | exact .of_eq (congrArg A.int (by omega)) | (refine And.intro ?_ ?_)))
      case zc =>
        (repeat' (first | (refine And.intro ?_ ?_) | exact trivial | exact A.Le.refl _ | exact rfl | exact congrArg (fun x => some (B.cells x)) (hrow.trans (congrArg (List.map A.int) hnx)) | exact .of_eq (show A.ref 32 ((hrs s - 1 - (j + 1)) * 80) = A.ref 32 (0 + Int.toNat (s.hours - 1 - ((j + 1 : Nat) : Int)) * 80) by rw [kk, Nat.zero_add]) | exact .of_eq (congrArg A.int (by omega))))
      case zv =>
        (repeat' (first | (refine And.intro ?_ ?_) | exact trivial | exact A.Le.refl _ | exact rfl | exact congrArg (fun x => some (B.cells x)) (hrow.trans (congrArg (List.map A.int) hnx)) | exact .of_eq (show A.ref 32 ((hrs s - 1 - (j + 1)) * 80) = A.ref 32 (0 + Int.toNat (s.hours - 1 - ((j + 1 : Nat) : Int)) * 80) by rw [kk, Nat.zero_add]) | exact .of_eq (congrArg A.int (by omega))))
      case zh =>
        (repeat' (first | (refine And.intro ?_ ?_) | exact trivial | exact A.Le.refl _ | exact rfl | exact congrArg (fun x => some (B.cells x)) (hrow.trans (congrArg (List.map A.int) hnx)) | exact .of_eq (show A.ref 32 ((hrs s - 1 - (j + 1)) * 80) = A.ref 32 (0 + Int.toNat (s.hours - 1 - ((j + 1 : Nat) : Int)) * 80) by rw [kk, Nat.zero_add]) | exact .of_eq (congrArg A.int (by omega))))
  have hle : j = hrs s := by have := of_decide_eq_false h1; omega
  subst hle
  refine Aw.exit2 ?_
  refine Aw.seq ?_
  refine Aw.sm tab_ok mb0 [] rfl rfl ?zo ?zk
  case zo =>
    repeat' apply AllP.cons
    all_goals first | exact trivial | exact Nat.le_of_ble_eq_true rfl
  case zk =>
  have hb0 : blk (row1 s l (hrs s)) (hrs s) = blk (row3 s l 0 0) (hrs s) := blk_congr fun i hi => by
    unfold row1 row3 setP
    rw [if_pos hi, if_neg (by omega)]
    split
    · rename_i e; subst e; rfl
    · rfl
  have hb1 : blk (row2 s l (hrs s)) (hrs s) = blk (fun i => bkR s l (hrs s - 1 - i)) (hrs s) := blk_congr fun i hi => by unfold row2; rw [if_pos (by omega)]
  rw [hb0, hb1]
  have hbl2 := blk_len (row := fun i => bkR s l (hrs s - 1 - i)) (n := hrs s) fun i _ => bkR_len s l _
  refine Aw.block (Aw.rounds 35 h35 [(1, .pt (logA s (.mp 20) l)), (2, .ref 21 0), (3, .ref 22 0), (63, .int s.hours)] (fun h : Nat => [(64, .int h)]) (fun h => [(20, landB s), (21, msB 27 (hrs s)), (22, msB 32 (hrs s)), (27, cntB (blk (row3 s l h 0) (hrs s))), (32, cntB (blk (fun i => bkR s l (hrs s - 1 - i)) (hrs s)))]) (fun h => h ≤ hrs s) (fun h => hrs s - h) 0 ?zg ⟨?zc, ?zv, ?zh, Nat.le_of_ble_eq_true rfl⟩ ?zu (fun h zhk => ?zw) (fun h zhk => ?zx) fun h hk => ?zr)
  case zg =>
    (repeat' (first | exact Nat.zero_le _ | exact Nat.le_refl _ | exact trivial | exact u35 | exact um | exact msB_under (by decide) | exact cntB_under _ | exact (by decide) | (refine And.intro ?_ ?_)))
  case zc =>
    (repeat' (first | (refine And.intro ?_ ?_) | exact trivial | exact A.Le.refl _ | exact rfl | exact u35 | exact um | exact msB_under (by decide) | exact cntB_under _ | exact (by decide)))
  case zv =>
    (repeat' (first | (refine And.intro ?_ ?_) | exact trivial | exact A.Le.refl _ | exact rfl | exact u35 | exact um | exact msB_under (by decide) | exact cntB_under _ | exact (by decide)))
  case zh =>
    (repeat' (first | (refine And.intro ?_ ?_) | exact trivial | exact A.Le.refl _ | exact rfl | exact u35 | exact um | exact msB_under (by decide) | exact cntB_under _ | exact (by decide)))
  case zu =>
    (repeat' (first | exact trivial | exact Under.s _ | exact Under.un | assumption | exact (free_ints _ _ _).under | exact Under.ref _ _ (by decide) | exact Under.ms _ _ _ (by decide) | exact Under.mp _ (by decide) | exact (Free.agg _ (by assumption)).under | exact (Free.pt _ (by assumption)).under | exact grL_under _ | exact outA_under _ | exact Nat.le_of_ble_eq_true rfl | exact (fun _ _ => rfl) | exact u35 | exact um | exact msB_under (by decide) | exact cntB_under _ | exact (by decide) | (refine And.intro ?_ ?_)))
  case zw =>
    (repeat' (first | exact trivial | exact Under.s _ | exact Under.un | assumption | exact (free_ints _ _ _).under | exact Under.ref _ _ (by decide) | exact Under.ms _ _ _ (by decide) | exact Under.mp _ (by decide) | exact (Free.agg _ (by assumption)).under | exact (Free.pt _ (by assumption)).under | exact grL_under _ | exact outA_under _ | exact Nat.le_of_ble_eq_true rfl | exact (fun _ _ => rfl) | exact u35 | exact um | exact msB_under (by decide) | exact cntB_under _ | exact (by decide) | (refine And.intro ?_ ?_)))
  case zx =>
    (repeat' (first | exact trivial | exact Under.s _ | exact Under.un | assumption | exact (free_ints _ _ _).under | exact Under.ref _ _ (by decide) | exact Under.ms _ _ _ (by decide) | exact Under.mp _ (by decide) | exact (Free.agg _ (by assumption)).under | exact (Free.pt _ (by assumption)).under | exact grL_under _ | exact outA_under _ | exact Nat.le_of_ble_eq_true rfl | exact (fun _ _ => rfl) | exact u35 | exact um | exact msB_under (by decide) | exact cntB_under _ | exact (by decide) | (refine And.intro ?_ ?_)))
  case zr =>
  refine Aw.sm tab_ok mb0 [] rfl rfl ?zo ?zk
  case zo =>
    repeat' apply AllP.cons
    all_goals first | exact trivial
  case zk =>
  refine Aw.seq (Aw.cond rfl (fun h1 => Aw.skip1 ?_) (fun h1 => Aw.exit2 ?_))
  · have hlt : h < hrs s := by have := of_decide_eq_true h1; omega
    have kk : Int.toNat (h : Int) = h := Int.toNat_natCast h
    refine Aw.seq (Aw.block ?_)
    refine Aw.sm tab_ok mb0 [] rfl rfl ?zo ?zk
    case zo =>
      repeat' apply AllP.cons
      all_goals first | exact trivial | exact rfl | exact Nat.le_of_ble_eq_true rfl
    case zk =>
    refine Aw.sm tab_ok mb0 [(2, [.fn (.func 84) [] [.pt (seaA s (.mp 20))], .tup [.mp 20]])] rfl rfl ?zo ?zk
    case zo =>
      repeat' apply AllP.cons
      all_goals first | exact trivial | exact Nat.le_of_ble_eq_true rfl | exact at20 (cells_r s) rfl
    case zk =>
    have usa : Under 36 (A.pt (seaA s (.mp 20))) := .pt _ (sea_under s (by decide))
    have ufn : Under 36 (A.fn (.func 84) [] [.pt (seaA s (.mp 20))]) := .fn _ _ _ (fun _ h => nomatch h) (all1 usa)
    have ucst : UnderL 36 [(1, .pt (logA s (.mp 20) l)), (2, .ref 21 0), (3, .ref 22 0), (7, .ref 35 0), (63, .int s.hours)] := ⟨u36, .ref _ _ (by decide), .ref _ _ (by decide), .ref _ _ (by decide), .s _, trivial⟩
    have uH : ∀ b : List Int, UnderH 36 [(20, landB s), (21, msB 27 (hrs s)), (22, msB 32 (hrs s)), (27, cntB b), (32, cntB (blk (fun i => bkR s l (hrs s - 1 - i)) (hrs s))), (35, .cells [.int h])] := fun b => ⟨⟨by decide, um⟩, ⟨by decide, msB_under (by decide)⟩, ⟨by decide, msB_under (by decide)⟩, ⟨by decide, cntB_under _⟩, ⟨by decide, cntB_under _⟩, ⟨by decide, .cells _ (all1 (.s _))⟩, trivial⟩
    refine Aw.keep (n := 36) (cst := [(1, .pt (logA s (.mp 20) l)), (2, .ref 21 0), (3, .ref 22 0), (7, .ref 35 0), (63, .int s.hours)]) (v := [(64, .int h), (69, .fn (.func 84) [] [.pt (seaA s (.mp 20))])]) (Hl := [(20, landB s), (21, msB 27 (hrs s)), (22, msB 32 (hrs s)), (27, cntB (blk (row3 s l h 0) (hrs s))), (32, cntB (blk (fun i => bkR s l (hrs s - 1 - i)) (hrs s))), (35, .cells [.int h])]) h36 ?zu ?zw ?zx ⟨?zc, ?zv, ?zh, Nat.le_of_ble_eq_true rfl⟩ ?zr
    case zu =>
      (repeat' (first | exact trivial | exact Under.s _ | exact Under.un | assumption | exact (free_ints _ _ _).under | exact Under.ref _ _ (by decide) | exact Under.ms _ _ _ (by decide) | exact Under.mp _ (by decide) | exact (Free.agg _ (by assumption)).under | exact (Free.pt _ (by assumption)).under | exact grL_under _ | exact outA_under _ | exact Nat.le_of_ble_eq_true rfl | exact (fun _ _ => rfl) | exact ucst | exact uH _ | (refine And.intro ?_ ?_)))
    case zw =>
      (repeat' (first | exact trivial | exact Under.s _ | exact Under.un | assumption | exact (free_ints _ _ _).under | exact Under.ref _ _ (by decide) | exact Under.ms _ _ _ (by decide) | exact Under.mp _ (by decide) | exact (Free.agg _ (by assumption)).under | exact (Free.pt _ (by assumption)).under | exact grL_under _ | exact outA_under _ | exact Nat.le_of_ble_eq_true rfl | exact (fun _ _ => rfl) | exact ucst | exact uH _ | (refine And.intro ?_ ?_)))
    case zx =>
      (repeat' (first | exact trivial | exact Under.s _ | exact Under.un | assumption | exact (free_ints _ _ _).under | exact Under.ref _ _ (by decide) | exact Under.ms _ _ _ (by decide) | exact Under.mp _ (by decide) | exact (Free.agg _ (by assumption)).under | exact (Free.pt _ (by assumption)).under | exact grL_under _ | exact outA_under _ | exact Nat.le_of_ble_eq_true rfl | exact (fun _ _ => rfl) | exact ucst | exact uH _ | (refine And.intro ?_ ?_)))
    case zc =>
      (repeat' (first | (refine And.intro ?_ ?_) | exact trivial | exact A.Le.refl _ | exact rfl | exact ucst | exact uH _))
    case zv =>
      (repeat' (first | (refine And.intro ?_ ?_) | exact trivial | exact A.Le.refl _ | exact rfl | exact ucst | exact uH _))
    case zh =>
      (repeat' (first | (refine And.intro ?_ ?_) | exact trivial | exact A.Le.refl _ | exact rfl | exact ucst | exact uH _))
    case zr =>
    refine Aw.block (Aw.iterM rfl (enters_of Try.func84 rfl rfl) ((cellsL s).map fun k : Nat => [A.int k]) (fun j H => H = ofH [(20, landB s), (21, msB 27 (hrs s)), (22, msB 32 (hrs s)), (27, cntB (blk (row3 s l h j) (hrs s))), (32, cntB (blk (fun i => bkR s l (hrs s - 1 - i)) (hrs s))), (35, .cells [.int h])]) (fun _ _ => False) rfl hlen
      (ofL2_under (UnderL.app (l := [(64, .int h), (69, .fn (.func 84) [] [.pt (seaA s (.mp 20))])]) ⟨.s _, ufn, trivial⟩ ucst))
      (by rintro j H rfl; exact UnderH.ofH (uH _)) (fun _ _ h => h.elim)
      (fun it hIJ H hI => by rw [hlm]; exact cells1_t s ho it (Nat.lt_succ_self _) (Nat.le_of_ble_eq_true rfl) (fun k H h => by obtain ⟨H0, rfl, h2⟩ := hIJ k H h; rw [h2 20 (Nat.ne_of_beq_eq_false rfl)]; rfl) hI) rfl ?_ ?_ (fun _ _ _ _ ⟨_, h, _⟩ => h.elim))
    · intro lpB ulp j as' ha H hI E2 b2 hE2
      subst hI
      obtain ⟨p, hp, rfl⟩ : ∃ p, (cellsL s)[j]? = some p ∧ [A.int (p : Nat)] = as' := by
        rw [List.getElem?_map] at ha
        cases e : (cellsL s)[j]? with
        | none => rw [e] at ha; cases ha
        | some p => rw [e] at ha; exact ⟨p, rfl, by simpa using ha⟩
      have hpc := cellsL_in s ho hp
      have hpm : p ∈ cellsL s := List.mem_of_getElem? hp
      have hrl : ∀ i, i < hrs s → (row3 s l h j i).length = 80 := fun i _ => row3_len s l h j i
      have hbl := blk_len hrl
      have pp : Int.toNat ((p : Nat) : Int) = p := Int.toNat_natCast p
      have g1 : (blk (row3 s l h j) (hrs s)).getD (h * 80 + p) 0 = (fwR s l h).getD p 0 := by
        rw [blk_getD hrl hlt (by omega)]
        unfold row3; rw [if_neg (by omega), if_pos rfl, setP_get (by omega) (cells_take hp)]
      have g2 : (blk (fun i => bkR s l (hrs s - 1 - i)) (hrs s)).getD (h * 80 + p) 0 = (bkR s l (hrs s - 1 - h)).getD p 0 := blk_getD (row := fun i => bkR s l (hrs s - 1 - i)) (fun i _ => bkR_len s l _) hlt (by omega)
      have b1 := fwR_bd ho hl24 hlt (show p < 80 by omega) (l := l)
      have b2 := bkR_bd ho hl24 (j := hrs s - 1 - h) (by omega) (show p < 80 by omega) (l := l)
      have hub := untrue_bd s l hl h (placeP s.wide p)
      have hur := untrue_t s ho l hl 20 h p (by omega)
      have hv : thrV s l h p = gmin 1048576 ((fwR s l h).getD p 0 + (bkR s l (hrs s - 1 - h)).getD p 0 - untrueF s.wide l h (placeP s.wide p)) := rfl
      have hnx : blk (updR (row3 s l h j) h ((row3 s l h j h).set p (thrV s l h p))) (hrs s) = blk (row3 s l h (j + 1)) (hrs s) := blk_congr fun i _ => by
        unfold updR row3
        by_cases e : i = h
        · subst e; simp only [if_true, Nat.lt_irrefl, if_false]; rw [setP_succ hp]
        · rw [if_neg e, if_neg e, if_neg e]
      have hcell := blk_cell (v := thrV s l h p) hrl hlt (show p < 80 by omega)
      generalize (fwR s l h).getD p 0 = fa at *
      generalize (bkR s l (hrs s - 1 - h)).getD p 0 = fb at *
      generalize untrueF s.wide l h (placeP s.wide p) = u at *
      generalize thrV s l h p = vp at *
      generalize hX : blk (row3 s l h j) (hrs s) = X at *
      generalize hY : blk (fun i => bkR s l (hrs s - 1 - i)) (hrs s) = Y at *
      have hlv := hv ▸ least1_t 1048576 (fa + fb - u)
      have l1 : 0 + Int.toNat (h : Int) * 80 + Int.toNat ((p : Nat) : Int) * 1 < (X.map A.int).length := by rw [List.length_map, kk, pp]; omega
      have l2 : 0 + Int.toNat (h : Int) * 80 + Int.toNat ((p : Nat) : Int) * 1 < (Y.map A.int).length := by rw [List.length_map, kk, pp]; omega
      have e1 : ((X.map A.int).getD (0 + Int.toNat (h : Int) * 80 + Int.toNat ((p : Nat) : Int) * 1) .un).down = .int fa := by rw [kk, pp, Nat.zero_add, Nat.mul_one, getD_ints (by omega), g1]
      have e2 : ((Y.map A.int).getD (0 + Int.toNat (h : Int) * 80 + Int.toNat ((p : Nat) : Int) * 1) .un).down = .int fb := by rw [kk, pp, Nat.zero_add, Nat.mul_one, getD_ints (by omega), g2]
      refine Aw.em tab_ok mb0 [] rfl rfl ?zo ?zk
      case zo =>
        repeat' apply AllP.cons
        all_goals first | exact trivial
      case zk =>
      refine ⟨rfl, rfl, ?_⟩
      refine Aw.block ?_
      refine Aw.ed tab_ok mixed mb0 [(8, [.int fa]), (14, [.int fb]), (19, [.int u]), (22, [.int vp])] rfl (by kernel_rfl) rfl rfl ?zo ?zk
      case zo =>
        repeat' apply AllP.cons
        all_goals first | exact trivial | exact rfl | exact Nat.le_of_ble_eq_true rfl | exact Int.natCast_nonneg _ | exact e1 | exact e2 | exact l1 | exact l2 | exact hur | exact hlv | exact (by simp only [Ob.of]; omega) | exact (by simp only [Ob.of, inR]; omega)
      case zk =>
      exact ⟨⟨_, _, rfl⟩, Nat.le_of_ble_eq_true rfl, _, rfl, HasH.ofH (l := [(20, landB s), (21, msB 27 (hrs s)), (22, msB 32 (hrs s)), (27, cntB (blk (row3 s l h (j + 1)) (hrs s))), (32, cntB Y), (35, .cells [.int h])]) ⟨rfl, rfl, rfl, (show some (B.cells (setSeg (X.map A.int) (0 + Int.toNat (h : Int) * 80 + Int.toNat ((p : Nat) : Int) * 1) [A.int vp])) = some (cntB (blk (row3 s l h (j + 1)) (hrs s))) by rw [kk, pp, hcell, hnx]; rfl), rfl, rfl, trivial⟩⟩
    · rintro H c' hc' ⟨H0, rfl, hs⟩
      rw [hlm] at hs
      obtain ⟨q1, q2, q3, q4, q5, q6, _⟩ := hasH_of_sub (l := [(20, landB s), (21, msB 27 (hrs s)), (22, msB 32 (hrs s)), (27, cntB (blk (row3 s l h (cellsL s).length) (hrs s))), (32, cntB (blk (fun i => bkR s l (hrs s - 1 - i)) (hrs s))), (35, .cells [.int h])]) rfl hs
      have hnx : blk (row3 s l h (cellsL s).length) (hrs s) = blk (row3 s l (h + 1) 0) (hrs s) := blk_congr fun i hi => by
        unfold row3
        rw [List.take_length, setP_all]
        by_cases e : i < h
        · rw [if_pos e, if_pos (by omega)]
        · by_cases e2 : i = h
          · rw [if_neg e, if_pos e2, if_pos (by omega), e2]
          · rw [if_neg e, if_neg e2, if_neg (by omega)]
            by_cases e3 : i = h + 1
            · rw [if_pos e3, e3]; rfl
            · rw [if_neg e3]
      rw [hnx] at q4
      refine Aw.keep (n := 35) (cst := [(1, .pt (logA s (.mp 20) l)), (2, .ref 21 0), (3, .ref 22 0), (63, .int s.hours)]) (v := [(64, .int h)]) (Hl := [(20, landB s), (21, msB 27 (hrs s)), (22, msB 32 (hrs s)), (27, cntB (blk (row3 s l (h + 1) 0) (hrs s))), (32, cntB (blk (fun i => bkR s l (hrs s - 1 - i)) (hrs s)))]) h35 ⟨u35, .ref _ _ (by decide), .ref _ _ (by decide), .s _, trivial⟩ ⟨.s _, trivial⟩ ⟨⟨by decide, um⟩, ⟨by decide, msB_under (by decide)⟩, ⟨by decide, msB_under (by decide)⟩, ⟨by decide, cntB_under _⟩, ⟨by decide, cntB_under _⟩, trivial⟩
        ⟨⟨.refl _, .refl _, .refl _, .refl _, trivial⟩, ⟨.refl _, trivial⟩, ⟨q1, q2, q3, q4, q5, trivial⟩, Nat.le_trans (show 35 ≤ 36 by decide) hc'⟩ ?_
      refine Aw.em tab_ok mb0 [] rfl rfl ?zo ?zk
      case zo =>
        repeat' apply AllP.cons
        all_goals first | exact trivial | exact inrk h (by omega)
      case zk =>
      refine ⟨h + 1, ?zg, ?zm, ⟨?zc, ?zv, ?zh, Nat.le_of_ble_eq_true rfl⟩⟩
      case zg =>
        (repeat' (first | assumption | omega | (refine And.intro ?_ ?_)))
      case zm =>
        (repeat' (first | omega | (refine And.intro ?_ ?_)))
      case zc =>
        (repeat' (first | (refine And.intro ?_ ?_) | exact trivial | exact A.Le.refl _ | exact rfl))
      case zv =>
        (repeat' (first | (refine And.intro ?_ ?_) | exact trivial | exact A.Le.refl _ | exact rfl))
      case zh =>
        (repeat' (first | (refine And.intro ?_ ?_) | exact trivial | exact A.Le.refl _ | exact rfl))
  have hle : h = hrs s := by have := of_decide_eq_false h1; omega
  subst hle
  have hb3 : blk (row3 s l (hrs s) 0) (hrs s) = blk (thrR s l) (hrs s) := blk_congr fun i hi => by unfold row3; rw [if_pos hi]
  rw [hb3]
  refine Aw.sd tab_ok mixed mb0 [] rfl (by kernel_rfl) rfl rfl ?zo ?zk
  case zo =>
    repeat' apply AllP.cons
    all_goals first | exact trivial | exact rfl | exact Nat.le_of_ble_eq_true rfl
  case zk =>
  refine Aw.keep (n := 35) (cst := [(2, .ref 21 0), (3, .ref 22 0)]) (v := []) (Hl := [(20, landB s), (21, msB 27 (hrs s)), (22, msB 32 (hrs s)), (27, cntB (blk (thrR s l) (hrs s))), (32, cntB (blk (fun i => bkR s l (hrs s - 1 - i)) (hrs s)))]) h35 ?zu ?zw ?zx ⟨?zc, ?zv, ?zh, Nat.le_of_ble_eq_true rfl⟩ ?zr
  case zu =>
    (repeat' (first | exact trivial | exact Under.s _ | exact Under.un | assumption | exact (free_ints _ _ _).under | exact Under.ref _ _ (by decide) | exact Under.ms _ _ _ (by decide) | exact Under.mp _ (by decide) | exact (Free.agg _ (by assumption)).under | exact (Free.pt _ (by assumption)).under | exact grL_under _ | exact outA_under _ | exact Nat.le_of_ble_eq_true rfl | exact (fun _ _ => rfl) | exact um | exact msB_under (by decide) | exact cntB_under _ | exact (by decide) | (refine And.intro ?_ ?_)))
  case zw =>
    (repeat' (first | exact trivial | exact Under.s _ | exact Under.un | assumption | exact (free_ints _ _ _).under | exact Under.ref _ _ (by decide) | exact Under.ms _ _ _ (by decide) | exact Under.mp _ (by decide) | exact (Free.agg _ (by assumption)).under | exact (Free.pt _ (by assumption)).under | exact grL_under _ | exact outA_under _ | exact Nat.le_of_ble_eq_true rfl | exact (fun _ _ => rfl) | exact um | exact msB_under (by decide) | exact cntB_under _ | exact (by decide) | (refine And.intro ?_ ?_)))
  case zx =>
    (repeat' (first | exact trivial | exact Under.s _ | exact Under.un | assumption | exact (free_ints _ _ _).under | exact Under.ref _ _ (by decide) | exact Under.ms _ _ _ (by decide) | exact Under.mp _ (by decide) | exact (Free.agg _ (by assumption)).under | exact (Free.pt _ (by assumption)).under | exact grL_under _ | exact outA_under _ | exact Nat.le_of_ble_eq_true rfl | exact (fun _ _ => rfl) | exact um | exact msB_under (by decide) | exact cntB_under _ | exact (by decide) | (refine And.intro ?_ ?_)))
  case zc =>
    (repeat' (first | (refine And.intro ?_ ?_) | exact trivial | exact A.Le.refl _ | exact rfl | exact um | exact msB_under (by decide) | exact cntB_under _ | exact (by decide)))
  case zv =>
    (repeat' (first | (refine And.intro ?_ ?_) | exact trivial | exact A.Le.refl _ | exact rfl | exact um | exact msB_under (by decide) | exact cntB_under _ | exact (by decide)))
  case zh =>
    (repeat' (first | (refine And.intro ?_ ?_) | exact trivial | exact A.Le.refl _ | exact rfl | exact um | exact msB_under (by decide) | exact cntB_under _ | exact (by decide)))
  case zr =>
  refine Aw.freezeC (id := 27) (id2 := 21) (j := 0) (sz := 80) (rowsA (thrR s l) (hrs s)) rfl rfl (by decide) Nat.zero_lt_one rfl (blk_rows fun i _ => setK_len _ _) (by simp [rowsA]) ?_
  refine Aw.freezeC (id := 32) (id2 := 22) (j := 0) (sz := 80) (rowsA (fun i => bkR s l (hrs s - 1 - i)) (hrs s)) rfl rfl (by decide) Nat.zero_lt_one rfl (blk_rows fun i _ => bkR_len s l _) (by simp [rowsA]) ?_
  exact Aw.ret ⟨_, .cons (resO rfl rfl (fun h => nomatch h) rfl rfl rfl) (.cons (resO rfl rfl (fun h => nomatch h) rfl rfl rfl) .nil), rfl, ⟨rfl, trivial⟩⟩
theorem through_r (s : Sea) (ho : s.Ok) (l : List Rep) (hl : RepFit s l) :
    RCall Try.prog 57 [.agg (logA s (.mp 20) l)] (landH s) (.tup [.sl false .any (rowsA (thrR s l) (hrs s)), .sl false .any (rowsA (fun i => bkR s l (hrs s - 1 - i)) (hrs s))]) :=
  RCall.of (enters_of Try.func57 rfl rfl) (landH_lt s) (landH_nms s) (all1 (.agg _ (log_nms s l))) (.tup _ (allC (rowsA_free _ _ _ _).nms (all1 (rowsA_free _ _ _ _).nms))) (fun _ => rfl) (through_s s ho l hl)
end Go.Proofs.Ytohbjneaaahpcaa

namespace Go.Proofs.Ytohbjneaaahpcaa
open Go Go.AL Go.AL.Q Go.AL.Sh
set_option maxRecDepth 100000 in
theorem part3 (xs : Array Value) (i : Nat) (x : Value) (h : xs[i]? = some x) (_ : ∃ a : Int, x = Value.int .i64 a) : pureRun Try.prog (part 3 xs (i * 1)) = some x := by
  have h5 : pureRun Try.prog (isAgg 3) = some false := rfl
  simp [part, pureRun_bind, h5, h, pr_pure]
theorem eg99 : Try.prog.eqGuardType Try.prog.depth 99 = false := by kernel_rfl
set_option maxRecDepth 100000 in
theorem und99 : pureRun Try.prog (underlying 99) = some (.array 80 3) := by
  have h : pureRun Try.prog (underlying 99) = Try.prog.underlying 99 := rfl
  rw [h, Try.underlying99]
set_option maxRecDepth 100000 in
theorem ne99 (x y : Operand) {l m : List Int} (hl : l.length = 80) (hm : m.length = 80) : EqIs tab .neq 99 x y (.agg (l.map A.int)) (.agg (m.map A.int)) (!(l == m)) :=
  (EqIs.row (T := tab) (P := Try.prog) tab_ok und99 rfl eg99 (Value.int .i64) part3 eq3 hl hm x y).1
def fewK (row : Nat → List Int) : Nat → Int
  | 0 => (row 0).foldl gmin ((row 0).getD 0 0)
  | k + 1 => if row (k + 1) == row k then fewK row k else (row (k + 1)).foldl gmin (fewK row k)
theorem rows_at {row : Nat → List Int} {n i : Nat} (h : i < n) : (rowsA row n)[i]? = some ((row i).map A.int) := by simp [rowsA, h]
theorem leastR_t (a : Int) {r : List Int} (hr : r.length = 80) : Ans Try.prog 83 [.int a, .sl false .exact (((r.map A.int).take 80).map fun c => [c])] (.int (r.foldl gmin a)) := by
  have e : ((r.map A.int).take 80).map (fun c => [c]) = ints r := by rw [List.take_of_length_le (by simp [hr])]; simp [ints]
  rw [e]
  exact least_t a false .exact r (by omega) fun _ => rfl
theorem fewest_t (row : Nat → List Int) (n : Nat) (h0 : 0 < n) (hn : n ≤ 12) (hr : ∀ i, i < n → (row i).length = 80) : Ans Try.prog 58 [.sl false .any (rowsA row n)] (.int (fewK row (n - 1))) := by
  have hfr := rowsA_free row n false .any
  have hln : ((rowsA row n).length : Int) = n := by simp [rowsA]
  have hr0 := hr 0 h0
  have e0 : (((row 0).map A.int).drop (Int.toNat 0 * 1)).getD 0 .un = .int ((row 0).getD 0 0) := by
    show ((row 0).map A.int).getD 0 .un = _
    simp [List.getD_eq_getElem?_getD, show 0 < (row 0).length by omega]
  refine told Try.func58 rfl rfl (Pure.of tab_ok Try.func58 rfl Try.ntmps58 rfl (all1 (hfr)) (all1 (fun _ => rfl)) (by first | exact .s _ | assumption | exact .tup _ (by intro x hx; simp only [List.mem_cons, List.not_mem_nil, or_false] at hx; rcases hx with rfl | rfl | rfl | rfl <;> first | exact .s _ | (simp_all; done))) fun E hE => ?_)
  refine Aw.sm tab_ok mb0 [] rfl rfl ?zo ?zk
  case zo =>
    repeat' apply AllP.cons
    all_goals first | exact trivial
  case zk =>
  refine Aw.sd tab_ok mixed mb0 [(1, (row 0).map A.int), (3, [.int ((row 0).getD 0 0)]), (5, (row 0).map A.int), (7, [.int ((row 0).foldl gmin ((row 0).getD 0 0))])] rfl (by kernel_rfl) rfl rfl ?zo ?zk
  case zo =>
    repeat' apply AllP.cons
    all_goals first | exact trivial | exact Nat.le_of_ble_eq_true rfl | exact Int.natCast_nonneg _ | exact rows_at h0 | exact (show ((row 0).map A.int).length = 80 by simp [hr0]) | exact (congrArg A.down e0) | exact leastR_t _ hr0 | exact (show 80 ≤ ((row 0).map A.int).length by simp [hr0]) | exact (show 0 < (((row 0).map A.int).drop (Int.toNat 0 * 1)).length by simp [hr0])
  case zk =>
  refine Aw.seq ?_
  refine Aw.sm tab_ok mb0 [] rfl rfl ?zo ?zk
  case zo =>
    repeat' apply AllP.cons
    all_goals first | exact trivial
  case zk =>
  refine Aw.block (Aw.rounds 0 hE [(0, .sl false .any (rowsA row n))] (fun k : Nat => [(3, .int (fewK row k)), (4, .int (k + 1 : Nat))]) (fun k => []) (fun k => k < n) (fun k => n - k) 0 ?zg ⟨?zc, ?zv, ?zh, Nat.le_of_ble_eq_true rfl⟩ ?zu (fun k zhk => ?zw) (fun k zhk => ?zx) fun k hk => ?zr)
  case zg =>
    (repeat' (first | exact Nat.zero_le _ | exact Nat.le_refl _ | exact trivial | exact h0 | exact hfr.under | (refine And.intro ?_ ?_)))
  case zc =>
    (repeat' (first | (refine And.intro ?_ ?_) | exact trivial | exact A.Le.refl _ | exact rfl | exact h0 | exact hfr.under))
  case zv =>
    (repeat' (first | (refine And.intro ?_ ?_) | exact trivial | exact A.Le.refl _ | exact rfl | exact h0 | exact hfr.under))
  case zh =>
    (repeat' (first | (refine And.intro ?_ ?_) | exact trivial | exact A.Le.refl _ | exact rfl | exact h0 | exact hfr.under))
  case zu =>
    (repeat' (first | exact trivial | exact Under.s _ | exact Under.un | assumption | exact (free_ints _ _ _).under | exact Under.ref _ _ (by decide) | exact Under.ms _ _ _ (by decide) | exact Under.mp _ (by decide) | exact (Free.agg _ (by assumption)).under | exact (Free.pt _ (by assumption)).under | exact grL_under _ | exact outA_under _ | exact Nat.le_of_ble_eq_true rfl | exact (fun _ _ => rfl) | exact h0 | exact hfr.under | (refine And.intro ?_ ?_)))
  case zw =>
    (repeat' (first | exact trivial | exact Under.s _ | exact Under.un | assumption | exact (free_ints _ _ _).under | exact Under.ref _ _ (by decide) | exact Under.ms _ _ _ (by decide) | exact Under.mp _ (by decide) | exact (Free.agg _ (by assumption)).under | exact (Free.pt _ (by assumption)).under | exact grL_under _ | exact outA_under _ | exact Nat.le_of_ble_eq_true rfl | exact (fun _ _ => rfl) | exact h0 | exact hfr.under | (refine And.intro ?_ ?_)))
  case zx =>
    (repeat' (first | exact trivial | exact Under.s _ | exact Under.un | assumption | exact (free_ints _ _ _).under | exact Under.ref _ _ (by decide) | exact Under.ms _ _ _ (by decide) | exact Under.mp _ (by decide) | exact (Free.agg _ (by assumption)).under | exact (Free.pt _ (by assumption)).under | exact grL_under _ | exact outA_under _ | exact Nat.le_of_ble_eq_true rfl | exact (fun _ _ => rfl) | exact h0 | exact hfr.under | (refine And.intro ?_ ?_)))
  case zr =>
  refine Aw.seq ?_
  refine Aw.sm tab_ok mb0 [] rfl rfl ?zo ?zk
  case zo =>
    repeat' apply AllP.cons
    all_goals first | exact trivial
  case zk =>
  refine Aw.cond rfl (fun h1 => Aw.skip ?_) (fun h1 => ?_)
  · have hlt : k + 1 < n := by have := of_decide_eq_true h1; omega
    have hr1 := hr (k + 1) hlt
    have hr2 := hr k (by omega)
    have i1 : (rowsA row n)[Int.toNat ((k + 1 : Nat) : Int)]? = some ((row (k + 1)).map A.int) := by rw [Int.toNat_natCast]; exact rows_at hlt
    have i2 : (rowsA row n)[Int.toNat (((k + 1 : Nat) : Int) - 1)]? = some ((row k).map A.int) := by rw [show Int.toNat (((k + 1 : Nat) : Int) - 1) = k by omega]; exact rows_at hk
    have t1 : A.agg (((row (k + 1)).map A.int).take 80) = .agg ((row (k + 1)).map A.int) := by rw [List.take_of_length_le (by simp [hr1])]
    have t2 : A.agg (((row k).map A.int).take 80) = .agg ((row k).map A.int) := by rw [List.take_of_length_le (by simp [hr2])]
    have hf : fewK row (k + 1) = if row (k + 1) == row k then fewK row k else (row (k + 1)).foldl gmin (fewK row k) := rfl
    obtain ⟨fn, hfn⟩ : ∃ x, x = fewK row (k + 1) := ⟨_, rfl⟩
    rw [← hfn] at hf
    refine Aw.seq (Aw.block ?_)
    refine Aw.sd tab_ok mixed mb0 [(2, (row (k + 1)).map A.int), (3, [.agg ((row (k + 1)).map A.int)]), (7, (row k).map A.int), (8, [.agg ((row k).map A.int)]), (9, [.bool (!(row (k + 1) == row k))])] rfl (by kernel_rfl) rfl rfl ?zo ?zk
    case zo =>
      repeat' apply AllP.cons
      all_goals first | exact trivial | exact Int.natCast_nonneg _ | exact i1 | exact i2 | exact t1 | exact t2 | exact ne99 _ _ hr1 hr2 | exact (show ((row (k + 1)).map A.int).length = 80 by simp [hr1]) | exact (show ((row k).map A.int).length = 80 by simp [hr2]) | exact (show 80 ≤ ((row (k + 1)).map A.int).length by simp [hr1]) | exact (show 80 ≤ ((row k).map A.int).length by simp [hr2]) | exact (by simp only [Ob.of, inR]; omega)
    case zk =>
    refine Aw.cond rfl (fun h2 => ?_) (fun h2 => Aw.skip ?_)
    · have h2 : (!(row (k + 1) == row k)) = true := h2
      have h3 : (row (k + 1) == row k) = false := by simpa using h2
      rw [h3] at hf
      refine Aw.em tab_ok mb0 [(3, (row (k + 1)).map A.int), (5, [.int fn])] rfl rfl ?zo ?zk
      case zo =>
        repeat' apply AllP.cons
        all_goals first | exact trivial | exact Nat.le_of_ble_eq_true rfl | exact Int.natCast_nonneg _ | exact i1 | exact (show ((row (k + 1)).map A.int).length = 80 by simp [hr1]) | exact (show 80 ≤ ((row (k + 1)).map A.int).length by simp [hr1]) | exact hf ▸ leastR_t _ hr1
      case zk =>
      refine Aw.em tab_ok mb0 [] rfl rfl ?zo ?zk
      case zo =>
        repeat' apply AllP.cons
        all_goals first | exact trivial | exact inrk _ (by omega)
      case zk =>
      refine ⟨k + 1, ?zg, ?zm, ⟨?zc, ?zv, ?zh, Nat.le_of_ble_eq_true rfl⟩⟩
      case zg =>
        (repeat' (first | assumption | omega | exact .of_eq (congrArg A.int hfn.symm) | (refine And.intro ?_ ?_)))
      case zm =>
        (repeat' (first | omega | exact .of_eq (congrArg A.int hfn.symm) | (refine And.intro ?_ ?_)))
      case zc =>
        (repeat' (first | (refine And.intro ?_ ?_) | exact trivial | exact A.Le.refl _ | exact rfl | exact .of_eq (congrArg A.int hfn.symm)))
      case zv =>
        (repeat' (first | (refine And.intro ?_ ?_) | exact trivial | exact A.Le.refl _ | exact rfl | exact .of_eq (congrArg A.int hfn.symm)))
      case zh =>
        (repeat' (first | (refine And.intro ?_ ?_) | exact trivial | exact A.Le.refl _ | exact rfl | exact .of_eq (congrArg A.int hfn.symm)))
    · have h2 : (!(row (k + 1) == row k)) = false := h2
      have h3 : (row (k + 1) == row k) = true := by simpa using h2
      rw [h3] at hf
      refine Aw.em tab_ok mb0 [] rfl rfl ?zo ?zk
      case zo =>
        repeat' apply AllP.cons
        all_goals first | exact trivial | exact inrk _ (by omega)
      case zk =>
      refine ⟨k + 1, ?zg, ?zm, ⟨?zc, ?zv, ?zh, Nat.le_of_ble_eq_true rfl⟩⟩
      case zg =>
        (repeat' (first | assumption | omega | exact .of_eq (congrArg A.int (hfn.symm.trans hf)) | (refine And.intro ?_ ?_)))
      case zm =>
        (repeat' (first | omega | exact .of_eq (congrArg A.int (hfn.symm.trans hf)) | (refine And.intro ?_ ?_)))
      case zc =>
        (repeat' (first | (refine And.intro ?_ ?_) | exact trivial | exact A.Le.refl _ | exact rfl | exact .of_eq (congrArg A.int (hfn.symm.trans hf))))
      case zv =>
        (repeat' (first | (refine And.intro ?_ ?_) | exact trivial | exact A.Le.refl _ | exact rfl | exact .of_eq (congrArg A.int (hfn.symm.trans hf))))
      case zh =>
        (repeat' (first | (refine And.intro ?_ ?_) | exact trivial | exact A.Le.refl _ | exact rfl | exact .of_eq (congrArg A.int (hfn.symm.trans hf))))
  have hle : k = n - 1 := by have := of_decide_eq_false h1; omega
  subst hle
  refine Aw.exit2 ?_
  refine Aw.sm tab_ok mb0 [] rfl rfl ?zo ?zk
  case zo =>
    repeat' apply AllP.cons
    all_goals first | exact trivial
  case zk =>
  exact Aw.ret ⟨_, .cons (.tmp _) .nil, rfl⟩
end Go.Proofs.Ytohbjneaaahpcaa

namespace Go.Proofs.Ytohbjneaaahpcaa
open Go Go.AL Go.AL.Q Go.AL.Sh
def canA : List Int → A
  | [] => .sl true .exact []
  | x :: l => .sl false .exact (ints (x :: l))
theorem canA_free : ∀ l : List Int, Free (canA l)
  | [] => .sl _ _ _ fun _ h => nomatch h
  | x :: l => free_ints _ _ _
def canF (s : Sea) (l : List Rep) (wrong hour : Int) : List Int := goL s (fun c => decide ((thrR s l hour.toNat).getD c 0 ≤ wrong)) (cellsL s).length
def canE (G : List Int) : Int := if G.isEmpty then 12 else 0
set_option maxRecDepth 20000 in
theorem can_s (s : Sea) (ho : s.Ok) (l : List Rep) (hl : RepFit s l) (wrong hour : Int) (h0 : 0 ≤ hour) (h1 : hour < s.hours) :
    SCall Try.prog 63 [.agg (logA s (.mp 20) l), .int wrong, .int hour] (landH s) 21 (fun v' H' _ => v' = .tup [canA (canF s l wrong hour), .int (canE (canF s l wrong hour))] ∧ ∀ id bx, landH s id = some bx → H' id = some bx) := by
  have hhr := ho.hr
  have hlt : hour.toNat < hrs s := by unfold hrs; omega
  have hlen : ∀ z ∈ (cellsL s).map fun k : Nat => [A.int k], z.length = 1 := fun z h => by obtain ⟨p, _, rfl⟩ := List.mem_map.1 h; rfl
  have hlm : ((cellsL s).map fun k : Nat => [A.int k]).length = (cellsL s).length := List.length_map _
  have hcl := cellsL_len s ho
  have hfr := rowsA_free (thrR s l) (hrs s) false .any
  have hrow : (rowsA (thrR s l) (hrs s))[hour.toNat]? = some ((thrR s l hour.toNat).map A.int) := rows_at hlt
  have hr80 : (thrR s l hour.toNat).length = 80 := setK_len _ _
  have hth := through_r s ho l hl
  unfold canF
  generalize thrR s l hour.toNat = R at *
  generalize rowsA (thrR s l) (hrs s) = RA at *
  generalize hP : (fun c : Nat => decide (R.getD c 0 ≤ wrong)) = P
  refine SCall.drop (post := fun v' H' _ => v' = .tup [canA (goL s P (cellsL s).length), .int (canE (goL s P (cellsL s).length))] ∧ HasH H' [(20, landB s)]) (SCall.of_bodyN tab_ok Try.func63 rfl Try.ntmps63 (Nat.le_of_ble_eq_true rfl) (allC (fun _ => rfl) (allC (fun _ => rfl) (all1 fun _ => rfl))) fun E hE => ?_)
    (fun v H' c' h => ⟨_, h.2.ofH, h.1, fun id bx h => h⟩)
  have h23 : ∀ id, 23 ≤ id → E.φ0 id = none := fun id h => hE id (by omega)
  have ulog : Under 23 (A.pt (logA s (.mp 20) l)) := .pt _ (logA_under s (by decide) l)
  have usa : Under 23 (A.pt (seaA s (.mp 20))) := .pt _ (sea_under s (by decide))
  have ufn : Under 23 (A.fn (.func 84) [] [.pt (seaA s (.mp 20))]) := .fn _ _ _ (fun _ h => nomatch h) (all1 usa)
  have uh : Under 23 (A.pt [A.int hour]) := .pt _ (all1 (.s _))
  have uw : Under 23 (A.pt [A.int wrong]) := .pt _ (all1 (.s _))
  have ucst : UnderL 23 [(3, .pt (logA s (.mp 20) l)), (4, .pt [.int wrong]), (5, .pt [.int hour]), (8, .ref 21 0), (10, .ref 22 0)] := ⟨ulog, uw, uh, .ref _ _ (by decide), .ref _ _ (by decide), trivial⟩
  have uH : ∀ G : List Int, UnderH 23 [(20, landB s), (21, .cells [.sl false .any RA]), (22, .cells [grL 3 G])] := fun G => ⟨⟨by decide, map_under _⟩, ⟨by decide, .cells _ (all1 hfr.under)⟩, ⟨by decide, .cells _ (all1 (grL_under _))⟩, trivial⟩
  refine Aw.sm tab_ok mb0 [] rfl rfl ?zo ?zk
  case zo =>
    repeat' apply AllP.cons
    all_goals first | exact trivial
  case zk =>
  refine Aw.sm tab_ok mb0 [(1, [.tup [.sl false .any RA, .sl false .any (rowsA (fun i => bkR s l (hrs s - 1 - i)) (hrs s))], .tup [.mp 20]])] rfl rfl ?zo ?zk
  case zo =>
    repeat' apply AllP.cons
    all_goals first | exact trivial | exact rfl | exact Nat.le_of_ble_eq_true rfl | exact at20 hth rfl
  case zk =>
  refine Aw.sm tab_ok mb0 [] rfl rfl ?zo ?zk
  case zo =>
    repeat' apply AllP.cons
    all_goals first | exact trivial
  case zk =>
  refine Aw.seq ?_
  refine Aw.sm tab_ok mb0 [(2, [.fn (.func 84) [] [.pt (seaA s (.mp 20))], .tup [.mp 20]])] rfl rfl ?zo ?zk
  case zo =>
    repeat' apply AllP.cons
    all_goals first | exact trivial | exact Nat.le_of_ble_eq_true rfl | exact at20 (cells_r s) rfl
  case zk =>
  refine Aw.keep (n := 23) (cst := [(3, .pt (logA s (.mp 20) l)), (4, .pt [.int wrong]), (5, .pt [.int hour]), (8, .ref 21 0), (10, .ref 22 0)]) (v := [(19, .fn (.func 84) [] [.pt (seaA s (.mp 20))])]) (Hl := [(20, landB s), (21, .cells [.sl false .any RA]), (22, .cells [grL 3 (goL s P 0)])]) h23 ?zu ?zw ?zx ⟨?zc, ?zv, ?zh, Nat.le_of_ble_eq_true rfl⟩ ?zr
  case zu =>
    (repeat' (first | exact trivial | exact Under.s _ | exact Under.un | assumption | exact (free_ints _ _ _).under | exact Under.ref _ _ (by decide) | exact Under.ms _ _ _ (by decide) | exact Under.mp _ (by decide) | exact (Free.agg _ (by assumption)).under | exact (Free.pt _ (by assumption)).under | exact grL_under _ | exact outA_under _ | exact Nat.le_of_ble_eq_true rfl | exact (fun _ _ => rfl) | exact ucst | exact uH _ | (refine And.intro ?_ ?_)))
  case zw =>
    (repeat' (first | exact trivial | exact Under.s _ | exact Under.un | assumption | exact (free_ints _ _ _).under | exact Under.ref _ _ (by decide) | exact Under.ms _ _ _ (by decide) | exact Under.mp _ (by decide) | exact (Free.agg _ (by assumption)).under | exact (Free.pt _ (by assumption)).under | exact grL_under _ | exact outA_under _ | exact Nat.le_of_ble_eq_true rfl | exact (fun _ _ => rfl) | exact ucst | exact uH _ | (refine And.intro ?_ ?_)))
  case zx =>
    (repeat' (first | exact trivial | exact Under.s _ | exact Under.un | assumption | exact (free_ints _ _ _).under | exact Under.ref _ _ (by decide) | exact Under.ms _ _ _ (by decide) | exact Under.mp _ (by decide) | exact (Free.agg _ (by assumption)).under | exact (Free.pt _ (by assumption)).under | exact grL_under _ | exact outA_under _ | exact Nat.le_of_ble_eq_true rfl | exact (fun _ _ => rfl) | exact ucst | exact uH _ | (refine And.intro ?_ ?_)))
  case zc =>
    (repeat' (first | (refine And.intro ?_ ?_) | exact trivial | exact A.Le.refl _ | exact rfl | exact ucst | exact uH _))
  case zv =>
    (repeat' (first | (refine And.intro ?_ ?_) | exact trivial | exact A.Le.refl _ | exact rfl | exact ucst | exact uH _))
  case zh =>
    (repeat' (first | (refine And.intro ?_ ?_) | exact trivial | exact A.Le.refl _ | exact rfl | exact ucst | exact uH _))
  case zr =>
  refine Aw.block (Aw.iterM rfl (enters_of Try.func84 rfl rfl) ((cellsL s).map fun k : Nat => [A.int k]) (fun j H => H = ofH [(20, landB s), (21, .cells [.sl false .any RA]), (22, .cells [grL 3 (goL s P j)])]) (fun _ _ => False) rfl hlen
    (ofL2_under (UnderL.app (l := [(19, .fn (.func 84) [] [.pt (seaA s (.mp 20))])]) ⟨ufn, trivial⟩ ucst))
    (by rintro j H rfl; exact UnderH.ofH (uH _)) (fun _ _ h => h.elim)
    (fun it hIJ H hI => by rw [hlm]; exact cells1_t s ho it (Nat.lt_succ_self _) (Nat.le_of_ble_eq_true rfl) (fun k H h => by obtain ⟨H0, rfl, h2⟩ := hIJ k H h; rw [h2 20 (Nat.ne_of_beq_eq_false rfl)]; rfl) hI) rfl ?_ ?_ (fun _ _ _ _ ⟨_, h, _⟩ => h.elim))
  · intro lpB ulp j as' ha H hI E2 b2 hE2
    subst hI
    obtain ⟨p, hp, rfl⟩ : ∃ p, (cellsL s)[j]? = some p ∧ [A.int (p : Nat)] = as' := by
      rw [List.getElem?_map] at ha
      cases e : (cellsL s)[j]? with
      | none => rw [e] at ha; cases ha
      | some p => rw [e] at ha; exact ⟨p, rfl, by simpa using ha⟩
    have hgo := goL_succ s P hp
    have hgl := goL_len s P j
    have hpc := cellsL_in s ho hp
    have pp : Int.toNat ((p : Nat) : Int) = p := Int.toNat_natCast p
    have hPp : P p = decide (R.getD p 0 ≤ wrong) := by rw [← hP]
    have hld : (((R.map A.int).drop (Int.toNat ((p : Nat) : Int) * 1)).getD 0 .un).down = .int (R.getD p 0) := by
      rw [pp, Nat.mul_one, getD_drop, Nat.add_zero, getD_ints (by omega)]
    have hld2 : 0 < ((R.map A.int).drop (Int.toNat ((p : Nat) : Int) * 1)).length := by rw [pp, List.length_drop, List.length_map]; omega
    refine Aw.em tab_ok mb0 [] rfl rfl ?zo ?zk
    case zo =>
      repeat' apply AllP.cons
      all_goals first | exact trivial
    case zk =>
    refine ⟨rfl, rfl, ?_⟩
    refine Aw.block ?_
    refine Aw.sd tab_ok mixed mb0 [(3, R.map A.int), (5, [.int (R.getD p 0)])] rfl (by kernel_rfl) rfl rfl ?zo ?zk
    case zo =>
      repeat' apply AllP.cons
      all_goals first | exact trivial | exact Nat.le_of_ble_eq_true rfl | exact Int.natCast_nonneg _ | exact hrow | exact (show (R.map A.int).length = 80 by simp [hr80]) | exact hld | exact hld2 | exact (by simp only [Ob.of]; omega)
    case zk =>
    generalize goL s P j = G at *
    generalize goL s P (j + 1) = G' at *
    refine Aw.cond rfl (fun h2 => ?_) (fun h2 => Aw.skip ?_)
    · have h2 : decide (R.getD p 0 ≤ wrong) = true := h2
      rw [if_pos (hPp.trans h2)] at hgo
      subst hgo
      cases G with
      | nil =>
        refine Aw.em tab_ok mb0 [] rfl rfl ?zo ?zk
        case zo =>
          repeat' apply AllP.cons
          all_goals first | exact trivial | exact rfl | exact Nat.le_of_ble_eq_true rfl | exact (show ∀ z ∈ [] ++ [[A.int _]], z.length = 1 from fun z hz => by simp at hz; subst hz; rfl)
        case zk =>
        exact ⟨⟨_, _, rfl⟩, Nat.le_of_ble_eq_true rfl, _, rfl, HasH.ofH (l := [(20, landB s), (21, .cells [.sl false .any RA]), (22, .cells [grL 3 [(p : Int)]])]) ⟨rfl, rfl, rfl, trivial⟩⟩
      | cons x t =>
        have hlen2 : (ints (x :: t)).length ≤ 1000 := by simp only [ints, List.length_map]; omega
        have hz : ∀ z ∈ ints (x :: t), z.length = 1 := fun z hz => by obtain ⟨i, _, rfl⟩ := List.mem_map.1 hz; rfl
        refine Aw.em tab_ok mb0 [] rfl rfl ?zo ?zk
        case zo =>
          repeat' apply AllP.cons
          all_goals first | exact trivial | exact rfl | exact Nat.le_of_ble_eq_true rfl | exact (show ∀ z ∈ [[A.int _]], z.length = 1 from fun z hz => by simp at hz; subst hz; rfl) | exact hz | exact (show ((ints (x :: t)).length + 1) * 8 ≤ 140737488355328 by omega) | exact (show (ints (x :: t)).length + 1 ≤ maxLen by unfold maxLen; omega)
        case zk =>
        exact ⟨⟨_, _, rfl⟩, Nat.le_of_ble_eq_true rfl, _, rfl, HasH.ofH (l := [(20, landB s), (21, .cells [.sl false .any RA]), (22, .cells [grL 3 ((x :: t) ++ [(p : Int)])])]) ⟨rfl, rfl, by simp [grL, ints]; rfl, trivial⟩⟩
    · have h2 : decide (R.getD p 0 ≤ wrong) = false := h2
      rw [if_neg (ne_true_of_eq_false (hPp.trans h2))] at hgo
      subst hgo
      exact ⟨⟨_, _, rfl⟩, Nat.le_of_ble_eq_true rfl, _, rfl, HasH.ofH (l := [(20, landB s), (21, .cells [.sl false .any RA]), (22, .cells [grL 3 G'])]) ⟨rfl, rfl, rfl, trivial⟩⟩
  · rintro H c' hc' ⟨H0, rfl, hs⟩
    rw [hlm] at hs
    have hH := hasH_of_sub (l := [(20, landB s), (21, .cells [.sl false .any RA]), (22, .cells [grL 3 (goL s P (cellsL s).length)])]) rfl hs
    refine Aw.keep (n := 23) (cst := [(10, .ref 22 0)]) (v := []) (Hl := [(20, landB s), (21, .cells [.sl false .any RA]), (22, .cells [grL 3 (goL s P (cellsL s).length)])]) h23 ⟨.ref _ _ (by decide), trivial⟩ trivial (uH _)
      ⟨⟨.refl _, trivial⟩, trivial, hH, hc'⟩ ?_
    generalize goL s P (cellsL s).length = G at *
    cases G with
    | nil =>
      refine Aw.seq ?_
      refine Aw.sm tab_ok mb0 [] rfl rfl ?zo ?zk
      case zo =>
        repeat' apply AllP.cons
        all_goals first | exact trivial | exact Nat.le_of_ble_eq_true rfl
      case zk =>
      refine Aw.cond rfl (fun h => ?_) (fun h => absurd h (by decide))
      refine Aw.sm tab_ok mb0 [] rfl rfl ?zo ?zk
      case zo =>
        repeat' apply AllP.cons
        all_goals first | exact trivial
      case zk =>
      exact Aw.ret ⟨_, .cons (.tmp _) (.cons (.tmp _) .nil), rfl, ⟨rfl, trivial⟩⟩
    | cons x t =>
      refine Aw.seq ?_
      refine Aw.sm tab_ok mb0 [] rfl rfl ?zo ?zk
      case zo =>
        repeat' apply AllP.cons
        all_goals first | exact trivial | exact Nat.le_of_ble_eq_true rfl
      case zk =>
      refine Aw.cond rfl (fun h => absurd (of_decide_eq_true h) (show ¬ (((ints (x :: t)).length : Int) = 0) by simp [ints]; omega)) (fun h => Aw.skip ?_)
      refine Aw.sm tab_ok mb0 [] rfl rfl ?zo ?zk
      case zo =>
        repeat' apply AllP.cons
        all_goals first | exact trivial | exact rfl | exact Nat.le_of_ble_eq_true rfl | exact Int.natCast_nonneg _ | exact (by simp only [Ob.of]; omega)
      case zk =>
      have e : (ints (x :: t)).take (Int.toNat ((ints (x :: t)).length : Int)) = ints (x :: t) := by rw [Int.toNat_natCast, List.take_length]
      exact Aw.ret ⟨_, .cons (.tmp _) (.cons (.tmp _) .nil), congrArg (fun r => A.tup [.sl false .exact r, .int 0]) e, ⟨rfl, trivial⟩⟩
end Go.Proofs.Ytohbjneaaahpcaa

namespace Go.Proofs.Ytohbjneaaahpcaa
open Go Go.AL Go.AL.Q Go.AL.Sh
theorem can_r (s : Sea) (ho : s.Ok) (l : List Rep) (hl : RepFit s l) (wrong hour : Int) (h0 : 0 ≤ hour) (h1 : hour < s.hours) :
    RCall Try.prog 63 [.agg (logA s (.mp 20) l), .int wrong, .int hour] (landH s) (.tup [canA (canF s l wrong hour), .int (canE (canF s l wrong hour))]) :=
  RCall.of (enters_of Try.func63 rfl rfl) (landH_lt s) (landH_nms s) (allC (.agg _ (log_nms s l)) (allC (.s _) (all1 (.s _)))) (.tup _ (allC (canA_free _).nms (all1 (.s _)))) (fun _ => rfl) (can_s s ho l hl wrong hour h0 h1)
def askedB (s : Sea) (wrong hour : Int) : Bool := cond (wi wrong 0 24) (wi hour 0 (s.hours - 1)) false
theorem asked_iff {s : Sea} {wrong hour : Int} : askedB s wrong hour = true ↔ (0 ≤ wrong ∧ wrong ≤ 24) ∧ 0 ≤ hour ∧ hour < s.hours := by
  unfold askedB
  constructor
  · intro h; have h1 := wi_iff.1 (ac1 h); have h2 := wi_iff.1 (ac2 h); omega
  · rintro ⟨h1, h2, h3⟩; rw [wi_iff.2 h1, wi_iff.2 (show 0 ≤ hour ∧ hour ≤ s.hours - 1 by omega)]; rfl
def CanR (s : Sea) (l : List Rep) (wrong hour : Int) : List Int × Int :=
  if s.ok then if s.repsOk l then if askedB s wrong hour then (canF s l wrong hour, canE (canF s l wrong hour)) else ([], 7) else ([], 11) else ([], 10)
theorem Can_t (s : Sea) (hf : SeaFit s) (b : Bool) (l : List Rep) (hl : (l.length : Int) ≤ 9223372036854775806) (wrong hour : Int) :
    Ans Try.prog 24 [.agg s.c, .sl b .any (l.map Rep.c), .int wrong, .int hour] (.tup [canA (CanR s l wrong hour).1, .int (CanR s l wrong hour).2]) := by
  have hfr : Free (.tup [canA (CanR s l wrong hour).1, .int (CanR s l wrong hour).2]) := .tup _ (allC (canA_free _) (all1 (.s _)))
  refine told Try.func24 rfl rfl (Pure.of tab_ok Try.func24 rfl Try.ntmps24 rfl (allC (.agg _ s.free) (allC (free_map Rep.free _ _ _) (allC (.s _) (all1 (.s _))))) (allC (fun _ => rfl) (allC (fun _ => rfl) (allC (fun _ => rfl) (all1 (fun _ => rfl))))) (by first | exact .s _ | assumption | exact .tup _ (by intro x hx; simp only [List.mem_cons, List.not_mem_nil, or_false] at hx; rcases hx with rfl | rfl | rfl | rfl <;> first | exact .s _ | (simp_all; done))) fun E hE => ?_)
  refine Aw.sm tab_ok mb0 [] rfl rfl ?zo ?zk
  case zo =>
    repeat' apply AllP.cons
    all_goals first | exact trivial
  case zk =>
  cases hok : s.ok with
  | false =>
    have e : CanR s l wrong hour = ([], 10) := by simp [CanR, hok]
    rw [e]
    refine Aw.sm tab_ok mb0 [(2, [.tup [.agg zeroLog, .int 10]])] rfl rfl ?zo ?zk
    case zo =>
      repeat' apply AllP.cons
      all_goals first | exact trivial | exact rfl | exact Nat.le_of_ble_eq_true rfl | exact read_no s hf b l hok
    case zk =>
    refine Aw.seq (Aw.block ?_)
    refine Aw.sm tab_ok mb0 [] rfl rfl ?zo ?zk
    case zo =>
      repeat' apply AllP.cons
      all_goals first | exact trivial
    case zk =>
    refine Aw.cond rfl (fun h => ?_) (fun h => absurd h (by decide))
    refine Aw.sm tab_ok mb0 [] rfl rfl ?zo ?zk
    case zo =>
      repeat' apply AllP.cons
      all_goals first | exact trivial
    case zk =>
    exact Aw.ret ⟨_, .cons (.tmp _) (.cons (.tmp _) .nil), rfl⟩
  | true =>
  cases hr : s.repsOk l with
  | false =>
    have e : CanR s l wrong hour = ([], 11) := by simp [CanR, hok, hr]
    rw [e]
    refine Aw.sm tab_ok mb0 [(2, [.tup [.agg zeroLog, .int 11]])] rfl rfl ?zo ?zk
    case zo =>
      repeat' apply AllP.cons
      all_goals first | exact trivial | exact rfl | exact Nat.le_of_ble_eq_true rfl | exact read_bad s hf b l hl hok hr
    case zk =>
    refine Aw.seq (Aw.block ?_)
    refine Aw.sm tab_ok mb0 [] rfl rfl ?zo ?zk
    case zo =>
      repeat' apply AllP.cons
      all_goals first | exact trivial
    case zk =>
    refine Aw.cond rfl (fun h => ?_) (fun h => absurd h (by decide))
    refine Aw.sm tab_ok mb0 [] rfl rfl ?zo ?zk
    case zo =>
      repeat' apply AllP.cons
      all_goals first | exact trivial
    case zk =>
    exact Aw.ret ⟨_, .cons (.tmp _) (.cons (.tmp _) .nil), rfl⟩
  | true =>
  have ho := Sea.ok_of hok
  have hrf := reps_fit hr
  refine Aw.raise (c' := 20) (Nat.le_of_ble_eq_true rfl) ?_
  refine Aw.sm tab_ok mb0 [(2, [.tup [.agg (logA s (.mp 20) l), .int 0], .sl false .any (kvsTo (encM plE valB (landF s.wide s.land)))])] rfl rfl ?zo ?zk
  case zo =>
    repeat' apply AllP.cons
    all_goals first | exact trivial | exact rfl | exact Nat.le_of_ble_eq_true rfl | exact read_n s hf b l hok hr 20
  case zk =>
  refine Aw.seq (Aw.block ?_)
  refine Aw.sm tab_ok mb0 [] rfl rfl ?zo ?zk
  case zo =>
    repeat' apply AllP.cons
    all_goals first | exact trivial
  case zk =>
  refine Aw.cond rfl (fun h => absurd h (by decide)) (fun h => ?_)
  cases ha : askedB s wrong hour with
  | false =>
    have e : CanR s l wrong hour = ([], 7) := by simp [CanR, hok, hr, ha]
    rw [e]
    refine Aw.sm tab_ok mb0 [(3, [.bool false])] rfl rfl ?zo ?zk
    case zo =>
      repeat' apply AllP.cons
      all_goals first | exact trivial | exact Nat.le_of_ble_eq_true rfl | exact ha ▸ isAsked_t s ho l 20 wrong hour
    case zk =>
    refine Aw.cond rfl (fun h => ?_) (fun h => absurd h (by decide))
    refine Aw.sm tab_ok mb0 [] rfl rfl ?zo ?zk
    case zo =>
      repeat' apply AllP.cons
      all_goals first | exact trivial
    case zk =>
    exact Aw.ret ⟨_, .cons (.tmp _) (.cons (.tmp _) .nil), rfl⟩
  | true =>
    have e : CanR s l wrong hour = (canF s l wrong hour, canE (canF s l wrong hour)) := by simp [CanR, hok, hr, ha]
    have hh := asked_iff.1 ha
    have hcr := can_r s ho l hrf wrong hour hh.2.1 hh.2.2
    rw [e]
    refine Aw.sm tab_ok mb0 [(3, [.bool true])] rfl rfl ?zo ?zk
    case zo =>
      repeat' apply AllP.cons
      all_goals first | exact trivial | exact Nat.le_of_ble_eq_true rfl | exact ha ▸ isAsked_t s ho l 20 wrong hour
    case zk =>
    refine Aw.cond rfl (fun h => absurd h (by decide)) (fun h => Aw.skip ?_)
    generalize canF s l wrong hour = G at *
    cases G with
    | nil =>
      refine Aw.sm tab_ok mb0 [(3, [.tup [canA [], .int 12], .tup [.mp 20]])] rfl rfl ?zo ?zk
      case zo =>
        repeat' apply AllP.cons
        all_goals first | exact trivial | exact Nat.le_of_ble_eq_true rfl | exact at20 hcr (congrArg (fun x => some (B.map x)) (kvs_to _))
      case zk =>
      exact Aw.ret ⟨_, .cons (.tmp _) (.cons (.tmp _) .nil), rfl⟩
    | cons x t =>
      refine Aw.sm tab_ok mb0 [(3, [.tup [canA (x :: t), .int 0], .tup [.mp 20]])] rfl rfl ?zo ?zk
      case zo =>
        repeat' apply AllP.cons
        all_goals first | exact trivial | exact Nat.le_of_ble_eq_true rfl | exact at20 hcr (congrArg (fun x => some (B.map x)) (kvs_to _))
      case zk =>
      exact Aw.ret ⟨_, .cons (.tmp _) (.cons (.tmp _) .nil), rfl⟩
def trkAt (s : Sea) (t : List Int) (k : Nat) : Bool :=
  cond (wi (t.getD k 0) 0 (s.many - 1)) (cond (!isLand s.wide s.land (placeP s.wide (t.getD k 0))) (cond (decide ((k : Int) > 0)) (s.steps ((k : Int) - 1) (placeP s.wide (t.getD (k - 1) 0)) (placeP s.wide (t.getD k 0))) true) false) false
def trkSum (s : Sea) (l : List Rep) (t : List Int) : Nat → Int
  | 0 => 0
  | k + 1 => trkSum s l t k + untrueF s.wide l k (placeP s.wide (t.getD k 0))
def TrackR (s : Sea) (l : List Rep) (t : List Int) : Int × Bool × Int :=
  if s.ok then if s.repsOk l then if (t.length : Int) = s.hours ∧ ((List.range t.length).all (trkAt s t)) = true then (trkSum s l t t.length, true, 0) else (0, false, 0) else (0, false, 11) else (0, false, 10)
end Go.Proofs.Ytohbjneaaahpcaa

namespace Go.Proofs.Ytohbjneaaahpcaa
open Go Go.AL Go.AL.Q Go.AL.Sh
theorem trkSum_bd (s : Sea) {l : List Rep} (hl : RepFit s l) (t : List Int) : ∀ k, 0 ≤ trkSum s l t k ∧ trkSum s l t k ≤ 24 * k
  | 0 => ⟨Int.le_refl _, Int.le_refl _⟩
  | k + 1 => by
    have := trkSum_bd s hl t k
    have := untrue_bd s l hl k (placeP s.wide (t.getD k 0))
    rw [trkSum]; omega
theorem g7 {w1 : Bool} (h : gq (!w1) false = true) : w1 = true := by have := gq_of h; simpa using this
theorem g17 {w1 w2 : Bool} (h : gq (cond (!w1) true w2) false = true) : w1 = true ∧ w2 = false := by have := gq_of h; cases w1 <;> cases w2 <;> simp_all
theorem g20 {w1 w2 y : Bool} (h : cond (gq (cond (!w1) true w2) false) (gq y true) false = true) : w1 = true ∧ w2 = false ∧ y = true := by
  have := gq_c2 h; have h1 := g17 this.1; exact ⟨h1.1, h1.2, this.2⟩
def lgH (s : Sea) (l : List Rep) : List (Nat × B) := [(20, landB s), (21, .cells (logA s (.mp 20) l))]
theorem lgH_under (s : Sea) (l : List Rep) {n : Nat} (h : 21 < n) : UnderH n (lgH s l) := ⟨⟨by omega, map_under _⟩, ⟨h, .cells _ (logA_under s (by omega) l)⟩, trivial⟩
set_option maxRecDepth 20000 in
theorem IsTrack_t (s : Sea) (hf : SeaFit s) (b : Bool) (l : List Rep) (hl : (l.length : Int) ≤ 9223372036854775806) (tb : Bool) (t : List Int) (ht : (t.length : Int) ≤ 9223372036854775806) :
    Ans Try.prog 16 [.agg s.c, .sl b .any (l.map Rep.c), .sl tb .any (ints t)] (.tup [.int (TrackR s l t).1, .bool (TrackR s l t).2.1, .int (TrackR s l t).2.2]) := by
  have hfr : Free (.tup [.int (TrackR s l t).1, .bool (TrackR s l t).2.1, .int (TrackR s l t).2.2]) := .tup _ (allC (.s _) (allC (.s _) (all1 (.s _))))
  have ftb : Free (.sl tb .any (ints t)) := free_ints _ _ _
  have lt' : ((ints t).length : Int) = t.length := by simp [ints]
  refine told Try.func16 rfl rfl (Pure.of tab_ok Try.func16 rfl Try.ntmps16 rfl (allC (.agg _ s.free) (allC (free_map Rep.free _ _ _) (all1 (ftb)))) (allC (fun _ => rfl) (allC (fun _ => rfl) (all1 (fun _ => rfl)))) (by first | exact .s _ | assumption | exact .tup _ (by intro x hx; simp only [List.mem_cons, List.not_mem_nil, or_false] at hx; rcases hx with rfl | rfl | rfl | rfl <;> first | exact .s _ | (simp_all; done))) fun E hE => ?_)
  refine Aw.sm tab_ok mb0 [] rfl rfl ?zo ?zk
  case zo =>
    repeat' apply AllP.cons
    all_goals first | exact trivial
  case zk =>
  cases hok : s.ok with
  | false =>
    have e : TrackR s l t = (0, false, 10) := by simp [TrackR, hok]
    rw [e]
    refine Aw.sm tab_ok mb0 [(2, [.tup [.agg zeroLog, .int 10]])] rfl rfl ?zo ?zk
    case zo =>
      repeat' apply AllP.cons
      all_goals first | exact trivial | exact rfl | exact Nat.le_of_ble_eq_true rfl | exact read_no s hf b l hok
    case zk =>
    refine Aw.seq ?_
    refine Aw.sm tab_ok mb0 [] rfl rfl ?zo ?zk
    case zo =>
      repeat' apply AllP.cons
      all_goals first | exact trivial
    case zk =>
    refine Aw.cond rfl (fun h => ?_) (fun h => absurd h (by decide))
    refine Aw.sm tab_ok mb0 [] rfl rfl ?zo ?zk
    case zo =>
      repeat' apply AllP.cons
      all_goals first | exact trivial
    case zk =>
    exact Aw.ret ⟨_, .cons (.tmp _) (.cons (.tmp _) (.cons (.tmp _) .nil)), rfl⟩
  | true =>
  cases hr : s.repsOk l with
  | false =>
    have e : TrackR s l t = (0, false, 11) := by simp [TrackR, hok, hr]
    rw [e]
    refine Aw.sm tab_ok mb0 [(2, [.tup [.agg zeroLog, .int 11]])] rfl rfl ?zo ?zk
    case zo =>
      repeat' apply AllP.cons
      all_goals first | exact trivial | exact rfl | exact Nat.le_of_ble_eq_true rfl | exact read_bad s hf b l hl hok hr
    case zk =>
    refine Aw.seq ?_
    refine Aw.sm tab_ok mb0 [] rfl rfl ?zo ?zk
    case zo =>
      repeat' apply AllP.cons
      all_goals first | exact trivial
    case zk =>
    refine Aw.cond rfl (fun h => ?_) (fun h => absurd h (by decide))
    refine Aw.sm tab_ok mb0 [] rfl rfl ?zo ?zk
    case zo =>
      repeat' apply AllP.cons
      all_goals first | exact trivial
    case zk =>
    exact Aw.ret ⟨_, .cons (.tmp _) (.cons (.tmp _) (.cons (.tmp _) .nil)), rfl⟩
  | true =>
  have ho := Sea.ok_of hok
  have hrf := reps_fit hr
  have hm := ho.many
  refine Aw.raise (c' := 20) (Nat.le_of_ble_eq_true rfl) ?_
  refine Aw.sm tab_ok mb0 [(2, [.tup [.agg (logA s (.mp 20) l), .int 0], .sl false .any (kvsTo (encM plE valB (landF s.wide s.land)))])] rfl rfl ?zo ?zk
  case zo =>
    repeat' apply AllP.cons
    all_goals first | exact trivial | exact rfl | exact Nat.le_of_ble_eq_true rfl | exact read_n s hf b l hok hr 20
  case zk =>
  have h22 : ∀ id, 22 ≤ id → E.φ0 id = none := fun id _ => hE id (Nat.zero_le _)
  have utb : Under 22 (.sl tb .any (ints t)) := ftb.under
  have ulg : UnderH 22 [(20, landB s), (21, .cells (logA s (.mp 20) l))] := lgH_under s l (by decide)
  refine Aw.seq ?_
  refine Aw.sm tab_ok mb0 [] rfl rfl ?zo ?zk
  case zo =>
    repeat' apply AllP.cons
    all_goals first | exact trivial
  case zk =>
  refine Aw.cond rfl (fun h => absurd h (by decide)) (fun h => Aw.skip ?_)
  refine Aw.seq ?_
  refine Aw.sm tab_ok mb0 [] rfl rfl ?zo ?zk
  case zo =>
    repeat' apply AllP.cons
    all_goals first | exact trivial | exact Nat.le_of_ble_eq_true rfl
  case zk =>
  refine Aw.cond rfl (fun h => ?_) (fun h => Aw.skip ?_)
  · have h : (((ints t).length : Int) != s.hours) = true := h
    have hne : ¬ ((t.length : Int) = s.hours) := by rw [lt'] at h; simpa using h
    have e : TrackR s l t = (0, false, 0) := by simp [TrackR, hok, hr, hne]
    rw [e]
    refine Aw.sm tab_ok mb0 [] rfl rfl ?zo ?zk
    case zo =>
      repeat' apply AllP.cons
      all_goals first | exact trivial
    case zk =>
    exact Aw.ret ⟨_, .cons (.tmp _) (.cons (.tmp _) (.cons (.tmp _) .nil)), rfl⟩
  have h : (((ints t).length : Int) != s.hours) = false := h
  have heq : (t.length : Int) = s.hours := by rw [lt'] at h; simpa using h
  have hhr := ho.hr
  have hdl := ho.dl
  refine Aw.seq ?_
  refine Aw.sm tab_ok mb0 [] rfl rfl ?zo ?zk
  case zo =>
    repeat' apply AllP.cons
    all_goals first | exact trivial
  case zk =>
  refine Aw.block (Aw.rounds 22 h22 [(2, .sl tb .any (ints t)), (9, .ref 21 0), (28, .sl tb .any (ints t)), (29, .int t.length)] (fun k : Nat => [(6, .int (trkSum s l t k)), (30, .int k)]) (fun k => [(20, landB s), (21, .cells (logA s (.mp 20) l))]) (fun k => k ≤ t.length ∧ ∀ i, i < k → trkAt s t i = true) (fun k => t.length - k) 0 ?zg ⟨?zc, ?zv, ?zh, Nat.le_of_ble_eq_true rfl⟩ ?zu (fun k zhk => ?zw) (fun k zhk => ?zx) fun k hk => ?zr)
  case zg =>
    (repeat' (first | exact Nat.zero_le _ | exact Nat.le_refl _ | exact trivial | exact ⟨Nat.zero_le _, fun i h => absurd h (Nat.not_lt_zero _)⟩ | exact .of_eq (congrArg A.int lt'.symm) | exact congrArg (fun x => some (B.map x)) (kvs_to _).symm | exact congrArg (fun x => some (B.map x)) (kvs_to _) | exact utb | exact ulg | (refine And.intro ?_ ?_)))
  case zc =>
    (repeat' (first | (refine And.intro ?_ ?_) | exact trivial | exact A.Le.refl _ | exact rfl | exact ⟨Nat.zero_le _, fun i h => absurd h (Nat.not_lt_zero _)⟩ | exact .of_eq (congrArg A.int lt'.symm) | exact congrArg (fun x => some (B.map x)) (kvs_to _).symm | exact congrArg (fun x => some (B.map x)) (kvs_to _) | exact utb | exact ulg))
  case zv =>
    (repeat' (first | (refine And.intro ?_ ?_) | exact trivial | exact A.Le.refl _ | exact rfl | exact ⟨Nat.zero_le _, fun i h => absurd h (Nat.not_lt_zero _)⟩ | exact .of_eq (congrArg A.int lt'.symm) | exact congrArg (fun x => some (B.map x)) (kvs_to _).symm | exact congrArg (fun x => some (B.map x)) (kvs_to _) | exact utb | exact ulg))
  case zh =>
    (repeat' (first | (refine And.intro ?_ ?_) | exact trivial | exact A.Le.refl _ | exact rfl | exact ⟨Nat.zero_le _, fun i h => absurd h (Nat.not_lt_zero _)⟩ | exact .of_eq (congrArg A.int lt'.symm) | exact congrArg (fun x => some (B.map x)) (kvs_to _).symm | exact congrArg (fun x => some (B.map x)) (kvs_to _) | exact utb | exact ulg))
  case zu =>
    (repeat' (first | exact trivial | exact Under.s _ | exact Under.un | assumption | exact (free_ints _ _ _).under | exact Under.ref _ _ (by decide) | exact Under.ms _ _ _ (by decide) | exact Under.mp _ (by decide) | exact (Free.agg _ (by assumption)).under | exact (Free.pt _ (by assumption)).under | exact grL_under _ | exact outA_under _ | exact Nat.le_of_ble_eq_true rfl | exact (fun _ _ => rfl) | exact ⟨Nat.zero_le _, fun i h => absurd h (Nat.not_lt_zero _)⟩ | exact .of_eq (congrArg A.int lt'.symm) | exact congrArg (fun x => some (B.map x)) (kvs_to _).symm | exact congrArg (fun x => some (B.map x)) (kvs_to _) | exact utb | exact ulg | (refine And.intro ?_ ?_)))
  case zw =>
    (repeat' (first | exact trivial | exact Under.s _ | exact Under.un | assumption | exact (free_ints _ _ _).under | exact Under.ref _ _ (by decide) | exact Under.ms _ _ _ (by decide) | exact Under.mp _ (by decide) | exact (Free.agg _ (by assumption)).under | exact (Free.pt _ (by assumption)).under | exact grL_under _ | exact outA_under _ | exact Nat.le_of_ble_eq_true rfl | exact (fun _ _ => rfl) | exact ⟨Nat.zero_le _, fun i h => absurd h (Nat.not_lt_zero _)⟩ | exact .of_eq (congrArg A.int lt'.symm) | exact congrArg (fun x => some (B.map x)) (kvs_to _).symm | exact congrArg (fun x => some (B.map x)) (kvs_to _) | exact utb | exact ulg | (refine And.intro ?_ ?_)))
  case zx =>
    (repeat' (first | exact trivial | exact Under.s _ | exact Under.un | assumption | exact (free_ints _ _ _).under | exact Under.ref _ _ (by decide) | exact Under.ms _ _ _ (by decide) | exact Under.mp _ (by decide) | exact (Free.agg _ (by assumption)).under | exact (Free.pt _ (by assumption)).under | exact grL_under _ | exact outA_under _ | exact Nat.le_of_ble_eq_true rfl | exact (fun _ _ => rfl) | exact ⟨Nat.zero_le _, fun i h => absurd h (Nat.not_lt_zero _)⟩ | exact .of_eq (congrArg A.int lt'.symm) | exact congrArg (fun x => some (B.map x)) (kvs_to _).symm | exact congrArg (fun x => some (B.map x)) (kvs_to _) | exact utb | exact ulg | (refine And.intro ?_ ?_)))
  case zr =>
  obtain ⟨hk, hgo⟩ := hk
  refine Aw.sm tab_ok mb0 [] rfl rfl ?zo ?zk
  case zo =>
    repeat' apply AllP.cons
    all_goals first | exact trivial
  case zk =>
  refine Aw.seq (Aw.cond rfl (fun h1 => Aw.skip1 ?_) (fun h1 => Aw.exit2 ?_))
  · have hlt : k < t.length := by have := of_decide_eq_true h1; omega
    have hbd := trkSum_bd s hrf t k
    have hub := untrue_bd s l hrf k (placeP s.wide (t.getD k 0))
    have htk : t.getD k 0 = t[k] := by simp [List.getD_eq_getElem?_getD, hlt]
    have hcc := ints_get hlt
    have hat : trkAt s t k = cond (wi (t.getD k 0) 0 (s.many - 1)) (cond (!isLand s.wide s.land (placeP s.wide (t.getD k 0))) (cond (decide ((k : Int) > 0)) (s.steps ((k : Int) - 1) (placeP s.wide (t.getD (k - 1) 0)) (placeP s.wide (t.getD k 0))) true) false) false := rfl
    have hsum : trkSum s l t (k + 1) = trkSum s l t k + untrueF s.wide l k (placeP s.wide (t.getD k 0)) := rfl
    have hpv : ∀ h : 0 < k, (ints t)[((k : Int) - 1).toNat]? = some [.int (t.getD (k - 1) 0)] := fun h => by
      rw [show ((k : Int) - 1).toNat = k - 1 by omega, ints_get (by omega)]; simp [List.getD_eq_getElem?_getD, show k - 1 < t.length by omega]
    have hpr : 0 < k → 0 ≤ t.getD (k - 1) 0 ∧ t.getD (k - 1) 0 ≤ s.many - 1 := fun h => by
      have := hgo (k - 1) (by omega)
      unfold trkAt at this
      exact wi_iff.1 (ac1 this)
    rw [htk] at hat hsum hub
    generalize t.getD (k - 1) 0 = pv at *
    generalize t[k] = cc at *
    have k0 : ∀ {w1 w2 : Bool}, cond (gq (cond (!w1) true w2) false) (gq (decide ((k : Int) > 0)) true) false = true → 0 < k := fun h => by
      have := of_decide_eq_true (g20 h).2.2; omega
    have pv1 : 0 < k → -1000 ≤ pv ∧ pv ≤ 1000 := fun h => by have := hpr h; omega
    have cc1 : wi cc 0 (s.many - 1) = true → -1000 ≤ cc ∧ cc ≤ 1000 := fun h => by have := wi_iff.1 h; omega
    refine Aw.seq (Aw.block ?_)
    refine Aw.sm tab_ok mb0 [(1, [.int cc])] rfl rfl ?zo ?zk
    case zo =>
      repeat' apply AllP.cons
      all_goals first | exact trivial | exact rfl | exact Nat.le_of_ble_eq_true rfl | exact Int.natCast_nonneg _ | exact hcc
    case zk =>
    refine Aw.seq ?_
    refine Aw.sd tab_ok mixed mb0 [(3, [.int s.many]), (5, [.bool (wi cc 0 (s.many - 1))]), (14, [.agg (placeP s.wide cc).c]), (15, [.bool (isLand s.wide s.land (placeP s.wide cc)), .bool (mget (landF s.wide s.land) (placeP s.wide cc)).isSome]), (30, [.int pv]), (32, [.agg (placeP s.wide pv).c]), (36, [.agg (placeP s.wide cc).c]), (37, [.bool (s.steps ((k : Int) - 1) (placeP s.wide pv) (placeP s.wide cc))])] rfl (by kernel_rfl) rfl rfl ?zo ?zk
    case zo =>
      repeat' apply AllP.cons
      all_goals first | exact trivial | exact id | exact fun _ => rfl | exact Nat.le_of_ble_eq_true rfl | exact fun _ => Nat.le_of_ble_eq_true rfl | exact within_t _ _ _ | exact gq_f | exact gq_c | exact fun _ _ => rfl | exact many_t s ho 20 | exact fun _ => lk_land s _ | exact fun h => plc_t s ho 20 cc (cc1 (g7 h)) | exact fun h => plc_t s ho 20 cc (cc1 (g20 h).1) | exact fun h => plc_t s ho 20 pv (pv1 (k0 h)) | exact fun h => hpv (k0 h) | exact fun h => (show (0 : Int) ≤ (k : Int) - 1 by have := k0 h; omega) | exact fun h => steps_t s ho 20 ((k : Int) - 1) (by have := k0 h; omega) (by omega) _ _ (placeP_bd ho.w (pv1 (k0 h))).1 (placeP_bd ho.w (pv1 (k0 h))).2 (placeP_near ho.w (cc1 (g20 h).1)) | exact fun _ => (by simp only [Ob.of, inR]; omega) | exact (by simp only [Ob.of, inR]; omega)
    case zk =>
    refine Aw.cond rfl (fun h2 => ?_) (fun h2 => Aw.skip ?_)
    · have h2 : cond (cond (!wi cc 0 (s.many - 1)) true (isLand s.wide s.land (placeP s.wide cc))) true (cond (decide ((k : Int) > 0)) (!s.steps ((k : Int) - 1) (placeP s.wide pv) (placeP s.wide cc)) false) = true := h2
      have hno : trkAt s t k = false := by
        rw [hat]
        revert h2
        cases wi cc 0 (s.many - 1) <;> cases isLand s.wide s.land (placeP s.wide cc) <;> cases decide ((k : Int) > 0) <;> cases s.steps ((k : Int) - 1) (placeP s.wide pv) (placeP s.wide cc) <;> simp
      have e : TrackR s l t = (0, false, 0) := by
        have : ¬ ((List.range t.length).all (trkAt s t) = true) := fun h => by
          have := List.all_eq_true.1 h k (List.mem_range.2 hlt)
          rw [hno] at this; cases this
        simp only [TrackR, hok, hr, if_true]
        rw [if_neg (fun h => this h.2)]
      rw [e]
      refine Aw.sm tab_ok mb0 [] rfl rfl ?zo ?zk
      case zo =>
        repeat' apply AllP.cons
        all_goals first | exact trivial
      case zk =>
      exact Aw.ret ⟨_, .cons (.tmp _) (.cons (.tmp _) (.cons (.tmp _) .nil)), rfl⟩
    · have h2 : cond (cond (!wi cc 0 (s.many - 1)) true (isLand s.wide s.land (placeP s.wide cc))) true (cond (decide ((k : Int) > 0)) (!s.steps ((k : Int) - 1) (placeP s.wide pv) (placeP s.wide cc)) false) = false := h2
      have hyes : trkAt s t k = true ∧ wi cc 0 (s.many - 1) = true := by
        rw [hat]
        revert h2
        cases wi cc 0 (s.many - 1) <;> cases isLand s.wide s.land (placeP s.wide cc) <;> cases decide ((k : Int) > 0) <;> cases s.steps ((k : Int) - 1) (placeP s.wide pv) (placeP s.wide cc) <;> simp
      have hur := untrue_t s ho l hrf 20 k cc (cc1 hyes.2)
      refine Aw.em tab_ok mb0 [(4, [.int (untrueF s.wide l k (placeP s.wide cc))])] rfl rfl ?zo ?zk
      case zo =>
        repeat' apply AllP.cons
        all_goals first | exact trivial | exact Nat.le_of_ble_eq_true rfl | exact hur | exact (by simp only [Ob.of, inR]; omega)
      case zk =>
      refine Aw.em tab_ok mb0 [] rfl rfl ?zo ?zk
      case zo =>
        repeat' apply AllP.cons
        all_goals first | exact trivial | exact inrk k (by omega)
      case zk =>
      refine ⟨k + 1, ?zg, ?zm, ⟨?zc, ?zv, ?zh, Nat.le_of_ble_eq_true rfl⟩⟩
      case zg =>
        (repeat' (first | assumption | omega | exact ⟨hlt, fun i hi => by rcases Nat.lt_or_ge i k with h | h; exact hgo i h; rw [show i = k by omega]; exact hyes.1⟩ | exact .of_eq (congrArg A.int hsum) | (refine And.intro ?_ ?_)))
      case zm =>
        (repeat' (first | omega | exact ⟨hlt, fun i hi => by rcases Nat.lt_or_ge i k with h | h; exact hgo i h; rw [show i = k by omega]; exact hyes.1⟩ | exact .of_eq (congrArg A.int hsum) | (refine And.intro ?_ ?_)))
      case zc =>
        (repeat' (first | (refine And.intro ?_ ?_) | exact trivial | exact A.Le.refl _ | exact rfl | exact ⟨hlt, fun i hi => by rcases Nat.lt_or_ge i k with h | h; exact hgo i h; rw [show i = k by omega]; exact hyes.1⟩ | exact .of_eq (congrArg A.int hsum)))
      case zv =>
        (repeat' (first | (refine And.intro ?_ ?_) | exact trivial | exact A.Le.refl _ | exact rfl | exact ⟨hlt, fun i hi => by rcases Nat.lt_or_ge i k with h | h; exact hgo i h; rw [show i = k by omega]; exact hyes.1⟩ | exact .of_eq (congrArg A.int hsum)))
      case zh =>
        (repeat' (first | (refine And.intro ?_ ?_) | exact trivial | exact A.Le.refl _ | exact rfl | exact ⟨hlt, fun i hi => by rcases Nat.lt_or_ge i k with h | h; exact hgo i h; rw [show i = k by omega]; exact hyes.1⟩ | exact .of_eq (congrArg A.int hsum)))
  have hle : k = t.length := by have := of_decide_eq_false h1; omega
  subst hle
  have e : TrackR s l t = (trkSum s l t t.length, true, 0) := by
    have : (List.range t.length).all (trkAt s t) = true := List.all_eq_true.2 fun i hi => hgo i (List.mem_range.1 hi)
    simp [TrackR, hok, hr, heq, this]
  rw [e]
  refine Aw.sm tab_ok mb0 [] rfl rfl ?zo ?zk
  case zo =>
    repeat' apply AllP.cons
    all_goals first | exact trivial
  case zk =>
  exact Aw.ret ⟨_, .cons (.tmp _) (.cons (.tmp _) (.cons (.tmp _) .nil)), rfl⟩
end Go.Proofs.Ytohbjneaaahpcaa

namespace Go.Proofs.Ytohbjneaaahpcaa
open Go Go.AL Go.AL.Q Go.AL.Sh
def TrA (s : Sea) (l : List Rep) (n : Nat) : Prop := ∃ T, Trk s T ∧ costW s l 0 T = n
theorem TrA.le {s : Sea} (ho : s.Ok) {l : List Rep} (hl : l.length ≤ 24) {n : Nat} (h : TrA s l n) : n ≤ 288 := by
  obtain ⟨T, ⟨h1, _⟩, rfl⟩ := h
  have := costW_le s hl T 0
  have hr : hrs s ≤ 12 := by have := ho.hr; unfold hrs; omega
  omega
theorem TrA.at {s : Sea} (ho : s.Ok) {l : List Rep} {h : Nat} (hh : h < hrs s) (n : Nat) : (∃ q ∈ List.range 80, q ∈ cellsL s ∧ TrP s l h q n) ↔ TrA s l n := by
  constructor
  · rintro ⟨q, _, _, T, h1, _, h3⟩; exact ⟨T, h1, h3⟩
  · rintro ⟨T, h1, h3⟩
    have hlt : h < T.length := by rw [h1.len]; exact hh
    have hm := okW_mem s h1.ok T[h] (List.getElem_mem hlt)
    exact ⟨T[h], List.mem_range.2 (wat_lt ho hm), hm, T, h1, List.getElem?_eq_getElem hlt, h3⟩
theorem row_range {r : List Int} (hr : r.length = 80) : (List.range 80).map (fun q => r.getD q 0) = r := by
  refine List.ext_getElem (by simp [hr]) fun i h1 h2 => ?_
  simp [List.getD_eq_getElem?_getD, h2]
theorem thr_cell {s : Sea} (ho : s.Ok) {l : List Rep} (hl : l.length ≤ 24) {h : Nat} (hh : h < hrs s) {q : Nat} (hq : q < 80) : MinIs 1048576 (fun n => q ∈ cellsL s ∧ TrP s l h q n) ((thrR s l h).getD q 0) := by
  by_cases hc : q ∈ cellsL s
  · exact (thr_min ho hl hh hc).congr fun n => by simp [hc]
  · rw [show (thrR s l h).getD q 0 = 1048576 from setK_no _ hq hc]
    exact MinIs.none.congr fun n => by simp [hc]
theorem TrP.a {s : Sea} {l : List Rep} {h q n : Nat} (k : TrP s l h q n) : TrA s l n := by obtain ⟨T, h1, _, h3⟩ := k; exact ⟨T, h1, h3⟩
theorem row_fold {s : Sea} (ho : s.Ok) {l : List Rep} (hl : l.length ≤ 24) {h : Nat} (hh : h < hrs s) (Q : Nat → Prop) (b : Int) (hb : MinIs 1048576 Q b) (hQ : ∀ n, Q n → TrA s l n) : MinIs 1048576 (TrA s l) ((thrR s l h).foldl gmin b) := by
  have e : (thrR s l h).foldl gmin b = (List.range 80).foldl (fun b q => gmin b ((thrR s l h).getD q 0)) b := by
    conv => lhs; rw [← row_range (show (thrR s l h).length = 80 from setK_len _ _)]
    rw [List.foldl_map]
  rw [e]
  refine (MinIs.fold (fun q n => q ∈ cellsL s ∧ TrP s l h q n) _ (List.range 80) Q b hb (fun q hq => thr_cell ho hl hh (List.mem_range.1 hq)) (fun n h => by have := (hQ n h).le ho hl; omega) fun q _ n h => by have := h.2.a.le ho hl; omega).congr fun n => ?_
  rw [TrA.at ho hh]
  exact ⟨fun h => h.elim (hQ n) id, .inr⟩
theorem few_min {s : Sea} (ho : s.Ok) {l : List Rep} (hl : l.length ≤ 24) : ∀ k, k < hrs s → MinIs 1048576 (TrA s l) (fewK (thrR s l) k)
  | 0, h => row_fold ho hl h (fun n => 0 ∈ cellsL s ∧ TrP s l 0 0 n) _ (thr_cell ho hl h (by decide)) fun n h => h.2.a
  | k + 1, h => by
    have ih := few_min ho hl k (by omega)
    rw [fewK]
    split
    · exact ih
    · exact row_fold ho hl h _ _ ih fun n h => h
def fewF (s : Sea) (l : List Rep) : Int := fewK (thrR s l) (hrs s - 1)
theorem hrs_pos {s : Sea} (ho : s.Ok) : 0 < hrs s ∧ hrs s ≤ 12 ∧ (hrs s : Int) = s.hours := by have := ho.hr; unfold hrs; omega
theorem fewF_min {s : Sea} (ho : s.Ok) {l : List Rep} (hl : l.length ≤ 24) : MinIs 1048576 (TrA s l) (fewF s l) := few_min ho hl _ (by have := hrs_pos ho; omega)
def selP (s : Sea) (l : List Rep) (h : Nat) (t : List Nat) (left : Int) (c : Nat) : Bool := ((bkR s l (hrs s - 1 - h)).getD c 0 == left) && (h == 0 || stp s (h - 1) (t.getD (h - 1) 0) c)
def trkN (s : Sea) (l : List Rep) (n : Int) : Nat → List Nat × Int
  | 0 => ([], n)
  | h + 1 => match (cellsL s).find? (selP s l h (trkN s l n h).1 (trkN s l n h).2) with
    | some c => ((trkN s l n h).1 ++ [c], (trkN s l n h).2 - untrueF s.wide l h (placeP s.wide c))
    | none => trkN s l n h
theorem okW_snoc {s : Sea} {t : List Nat} {c : Nat} (ht : okW s 0 t) (hc : c ∈ cellsL s) (hs : t.length = 0 ∨ stp s (t.length - 1) (t.getD (t.length - 1) 0) c = true) : okW s 0 (t ++ [c]) := by
  by_cases h : t = []
  · subst h; exact ⟨hc, fun d e => by simp at e, trivial⟩
  · obtain ⟨t0, o, rfl⟩ : ∃ t0 o, t = t0 ++ [o] := ⟨t.dropLast, t.getLast h, (List.dropLast_concat_getLast h).symm⟩
    rw [List.append_assoc, List.singleton_append, okW_app]
    have h2 : stp s t0.length o c = true := by
      rcases hs with hs | hs
      · simp at hs
      · simpa [List.getD_eq_getElem?_getD] using hs
    exact ⟨ht, (okW_mem s ht o (by simp)), fun d e => by cases e; rw [Nat.zero_add]; exact h2, hc, fun d e => by simp at e, trivial⟩
theorem BwP.mem {s : Sea} {l : List Rep} {h c n : Nat} (k : BwP s l h c n) : c ∈ cellsL s := by obtain ⟨t, _, k, _⟩ := k; exact k.1
theorem BwP.zero {s : Sea} {l : List Rep} {c n : Nat} (k : BwP s l 0 c n) : TrA s l n := by obtain ⟨t, h1, h2, h3⟩ := k; exact ⟨c :: t, ⟨by simp only [List.length_cons]; omega, h2⟩, h3⟩
structure SelInv (s : Sea) (l : List Rep) (n : Int) (h : Nat) (t : List Nat) (left : Int) : Prop where
  len : t.length = h
  ok : okW s 0 t
  sum : left + costW s l 0 t = n
  bd : 0 ≤ left ∧ left ≤ 288
  nx : h < hrs s → ∃ c ∈ cellsL s, selP s l h t left c = true
  fin : h = hrs s → left = 0
theorem bk_at {s : Sea} (ho : s.Ok) {l : List Rep} (hl : l.length ≤ 24) {h : Nat} (hh : h < hrs s) {c : Nat} (hc : c ∈ cellsL s) : MinIs 1048576 (BwP s l h c) ((bkR s l (hrs s - 1 - h)).getD c 0) := by
  have := bk_min ho hl (hrs s - 1 - h) (by omega) c hc
  rwa [show hrs s - 1 - (hrs s - 1 - h) = h by omega] at this
theorem sel_zero {s : Sea} (ho : s.Ok) {l : List Rep} (hl : l.length ≤ 24) (hn : fewF s l < 1048576) : SelInv s l (fewF s l) 0 [] (fewF s l) := by
  have hm := fewF_min ho hl
  have hp := hrs_pos ho
  rcases hm.or with ⟨e, _⟩ | ⟨n, e, ⟨T, hT, hc⟩, hmin⟩
  · omega
  · have hle := TrA.le ho hl ⟨T, hT, hc⟩
    refine ⟨rfl, trivial, by simp [costW], by omega, fun _ => ?_, fun h => by omega⟩
    obtain ⟨c, T', rfl⟩ : ∃ c T', T = c :: T' := by
      cases T with
      | nil => have := hT.len; simp at this; omega
      | cons c T' => exact ⟨c, T', rfl⟩
    have hb : BwP s l 0 c n := ⟨T', by have := hT.len; simp only [List.length_cons] at this; omega, hT.ok, hc⟩
    refine ⟨c, hb.mem, ?_⟩
    have h2 := bk_at ho hl hp.1 hb.mem
    have : (bkR s l (hrs s - 1 - 0)).getD c 0 = fewF s l := by
      rcases h2.or with ⟨_, h3⟩ | ⟨m, e3, h3, h4⟩
      · exact absurd hb (h3 n)
      · have := h4 n hb; have := hmin m h3.zero; omega
    unfold selP; rw [this]; simp
theorem sel_succ {s : Sea} (ho : s.Ok) {l : List Rep} (hl : l.length ≤ 24) {n : Int} {h : Nat} {t : List Nat} {left : Int} (k : SelInv s l n h t left) (hh : h < hrs s) :
    ∃ c, (cellsL s).find? (selP s l h t left) = some c ∧ c ∈ cellsL s ∧ SelInv s l n (h + 1) (t ++ [c]) (left - untrueF s.wide l h (placeP s.wide c)) := by
  obtain ⟨c0, hc0, hs0⟩ := k.nx hh
  cases hf : (cellsL s).find? (selP s l h t left) with
  | none => exact absurd hs0 (by simpa using List.find?_eq_none.1 hf c0 hc0)
  | some c =>
    have hsel := List.find?_some hf
    have hc := List.mem_of_find?_eq_some hf
    simp only [selP, Bool.and_eq_true, beq_iff_eq, Bool.or_eq_true] at hsel
    obtain ⟨h1, h2⟩ := hsel
    have hmin := bk_at ho hl hh hc
    have hbd := k.bd
    have hlen := k.len
    rw [h1] at hmin
    rcases hmin.or with ⟨e, _⟩ | ⟨m, e, hb, hle⟩
    · omega
    have hg := hb.ge
    have hcost : costW s l 0 (t ++ [c]) = costW s l 0 t + unN s l h c := by rw [costW_app, hlen]; simp [costW]
    refine ⟨c, rfl, hc, ?_⟩
    rw [unN_eq]
    refine ⟨by simp [hlen], okW_snoc k.ok hc (by rw [hlen]; exact h2), by have := k.sum; rw [hcost]; omega, by omega, fun hh1 => ?_, fun hh1 => ?_⟩
    · obtain ⟨m', ⟨o, ho1, hbo⟩, em⟩ := (BwP.succ hh1 hc m).1 hb
      obtain ⟨ho2, ho3⟩ := List.mem_filter.1 ho1
      refine ⟨o, ho2, ?_⟩
      have h3 := bk_at ho hl hh1 ho2
      have h4 : (bkR s l (hrs s - 1 - (h + 1))).getD o 0 = left - (unN s l h c : Int) := by
        rcases h3.or with ⟨_, h5⟩ | ⟨m2, e5, h5, h6⟩
        · exact absurd hbo (h5 m')
        · have := h6 m' hbo
          have := hle (m2 + unN s l h c) ((BwP.succ hh1 hc _).2 ⟨m2, ⟨o, ho1, h5⟩, rfl⟩)
          omega
      have h5 : (t ++ [c]).getD h 0 = c := by rw [List.getD_eq_getElem?_getD, List.getElem?_append_right (by omega), hlen, Nat.sub_self]; rfl
      have h4' : (bkR s l (hrs s - 1 - (h + 1)))[o]?.getD 0 = left - (unN s l h c : Int) := by rw [← List.getD_eq_getElem?_getD]; exact h4
      rw [selP, h4, Nat.add_sub_cancel, h5, ho3]; simp
    · have := (BwP.last (show h + 1 = hrs s by omega) hc m).1 hb
      omega
theorem trkN_inv {s : Sea} (ho : s.Ok) {l : List Rep} (hl : l.length ≤ 24) (hn : fewF s l < 1048576) : ∀ h, h ≤ hrs s → SelInv s l (fewF s l) h (trkN s l (fewF s l) h).1 (trkN s l (fewF s l) h).2
  | 0, _ => sel_zero ho hl hn
  | h + 1, hh => by
    obtain ⟨c, h1, h2, h3⟩ := sel_succ ho hl (trkN_inv ho hl hn h (by omega)) (by omega)
    rw [trkN, h1]; exact h3
def LeastR (s : Sea) (l : List Rep) : Int × List Int × Int :=
  if s.ok then if s.repsOk l then if fewF s l < 1048576 then (fewF s l, (trkN s l (fewF s l) (hrs s)).1.map Int.ofNat, 0) else (0, [], 4) else (0, [], 11) else (0, [], 10)
end Go.Proofs.Ytohbjneaaahpcaa

namespace Go.Proofs.Ytohbjneaaahpcaa
open Go Go.AL Go.AL.Q Go.AL.Sh
theorem fewest_f (s : Sea) (ho : s.Ok) (l : List Rep) : Ans Try.prog 58 [.sl false .any (rowsA (thrR s l) (hrs s))] (.int (fewF s l)) := by
  have hp := hrs_pos ho
  exact fewest_t (thrR s l) (hrs s) hp.1 hp.2.1 fun i _ => setK_len _ _
theorem find_at {L : List Nat} {P : Nat → Bool} {k p : Nat} (hp : L[k]? = some p) (hP : P p = true) (hn : ∀ c ∈ L.take k, P c = false) : L.find? P = some p := by
  obtain ⟨hk, e⟩ := List.getElem?_eq_some_iff.1 hp
  refine List.find?_eq_some_iff_append.2 ⟨hP, L.take k, L.drop (k + 1), ?_, fun a ha => by simp [hn a ha]⟩
  rw [← e, ← List.drop_eq_getElem_cons hk, List.take_append_drop]
def tI (t : List Nat) : List Int := t.map Int.ofNat
def lsH (s : Sea) (l : List Rep) (RB : List (List A)) (T : List Int) (left : Int) : List (Nat × B) := [(0, .cells [grL 3 T]), (20, landB s), (21, .cells (logA s (.mp 20) l)), (22, .cells [.sl false .any RB]), (23, .cells [.int left])]
set_option maxRecDepth 20000 in
set_option maxHeartbeats 1000000 in
theorem Least_t (s : Sea) (hf : SeaFit s) (b : Bool) (l : List Rep) (hl : (l.length : Int) ≤ 9223372036854775806) :
    Ans Try.prog 20 [.agg s.c, .sl b .any (l.map Rep.c)] (.tup [.int (LeastR s l).1, canA (LeastR s l).2.1, .int (LeastR s l).2.2]) := by
  have hfr : Free (.tup [.int (LeastR s l).1, canA (LeastR s l).2.1, .int (LeastR s l).2.2]) := .tup _ (allC (.s _) (allC (canA_free _) (all1 (.s _))))
  refine told Try.func20 rfl rfl (Pure.of tab_ok Try.func20 rfl Try.ntmps20 rfl (allC (.agg _ s.free) (all1 (free_map Rep.free _ _ _))) (allC (fun _ => rfl) (all1 (fun _ => rfl))) (by first | exact .s _ | assumption | exact .tup _ (by intro x hx; simp only [List.mem_cons, List.not_mem_nil, or_false] at hx; rcases hx with rfl | rfl | rfl | rfl <;> first | exact .s _ | (simp_all; done))) fun E hE => ?_)
  refine Aw.sm tab_ok mb0 [] rfl rfl ?zo ?zk
  case zo =>
    repeat' apply AllP.cons
    all_goals first | exact trivial
  case zk =>
  refine Aw.scope ?_
  cases hok : s.ok with
  | false =>
    have e : LeastR s l = (0, [], 10) := by simp [LeastR, hok]
    rw [e]
    refine Aw.sm tab_ok mb0 [(2, [.tup [.agg zeroLog, .int 10]])] rfl rfl ?zo ?zk
    case zo =>
      repeat' apply AllP.cons
      all_goals first | exact trivial | exact rfl | exact Nat.le_of_ble_eq_true rfl | exact read_no s hf b l hok
    case zk =>
    refine Aw.seq ?_
    refine Aw.sm tab_ok mb0 [] rfl rfl ?zo ?zk
    case zo =>
      repeat' apply AllP.cons
      all_goals first | exact trivial
    case zk =>
    refine Aw.cond rfl (fun h => ?_) (fun h => absurd h (by decide))
    refine Aw.sm tab_ok mb0 [] rfl rfl ?zo ?zk
    case zo =>
      repeat' apply AllP.cons
      all_goals first | exact trivial | exact rfl | exact Nat.le_of_ble_eq_true rfl
    case zk =>
    exact Aw.ret ⟨_, .cons (.tmp _) (.cons (resO rfl rfl (by decide) rfl rfl rfl) (.cons (.tmp _) .nil)), rfl⟩
  | true =>
  cases hr : s.repsOk l with
  | false =>
    have e : LeastR s l = (0, [], 11) := by simp [LeastR, hok, hr]
    rw [e]
    refine Aw.sm tab_ok mb0 [(2, [.tup [.agg zeroLog, .int 11]])] rfl rfl ?zo ?zk
    case zo =>
      repeat' apply AllP.cons
      all_goals first | exact trivial | exact rfl | exact Nat.le_of_ble_eq_true rfl | exact read_bad s hf b l hl hok hr
    case zk =>
    refine Aw.seq ?_
    refine Aw.sm tab_ok mb0 [] rfl rfl ?zo ?zk
    case zo =>
      repeat' apply AllP.cons
      all_goals first | exact trivial
    case zk =>
    refine Aw.cond rfl (fun h => ?_) (fun h => absurd h (by decide))
    refine Aw.sm tab_ok mb0 [] rfl rfl ?zo ?zk
    case zo =>
      repeat' apply AllP.cons
      all_goals first | exact trivial | exact rfl | exact Nat.le_of_ble_eq_true rfl
    case zk =>
    exact Aw.ret ⟨_, .cons (.tmp _) (.cons (resO rfl rfl (by decide) rfl rfl rfl) (.cons (.tmp _) .nil)), rfl⟩
  | true =>
  have ho := Sea.ok_of hok
  have hrf := reps_fit hr
  have hm := ho.many
  have hp := hrs_pos ho
  have hl24 : l.length ≤ 24 := by have := hrf.len; omega
  refine Aw.raise (c' := 20) (Nat.le_of_ble_eq_true rfl) ?_
  refine Aw.sm tab_ok mb0 [(2, [.tup [.agg (logA s (.mp 20) l), .int 0], .sl false .any (kvsTo (encM plE valB (landF s.wide s.land)))])] rfl rfl ?zo ?zk
  case zo =>
    repeat' apply AllP.cons
    all_goals first | exact trivial | exact rfl | exact Nat.le_of_ble_eq_true rfl | exact read_n s hf b l hok hr 20
  case zk =>
  have hland : some (B.map (kvsOf (kvsTo (encM plE valB (landF s.wide s.land))))) = some (landB s) := congrArg (fun x => some (B.map x)) (kvs_to _)
  refine Aw.seq ?_
  refine Aw.sm tab_ok mb0 [] rfl rfl ?zo ?zk
  case zo =>
    repeat' apply AllP.cons
    all_goals first | exact trivial
  case zk =>
  refine Aw.cond rfl (fun h => absurd h (by decide)) (fun h => Aw.skip ?_)
  have hth := through_r s ho l hrf
  have hfw := fewest_f s ho l
  have hfree := rowsA_free (fun i => bkR s l (hrs s - 1 - i)) (hrs s) false .any
  have hRB : ∀ {h : Nat}, h < hrs s → (rowsA (fun i => bkR s l (hrs s - 1 - i)) (hrs s))[h]? = some ((bkR s l (hrs s - 1 - h)).map A.int) := fun h => rows_at (row := fun i => bkR s l (hrs s - 1 - i)) h
  generalize rowsA (fun i => bkR s l (hrs s - 1 - i)) (hrs s) = RB at *
  refine Aw.sm tab_ok mb0 [(1, [.tup [.sl false .any (rowsA (thrR s l) (hrs s)), .sl false .any RB], .tup [.mp 20]])] rfl rfl ?zo ?zk
  case zo =>
    repeat' apply AllP.cons
    all_goals first | exact trivial | exact rfl | exact Nat.le_of_ble_eq_true rfl | exact at20 hth hland
  case zk =>
  refine Aw.sm tab_ok mb0 [(1, [.int (fewF s l)])] rfl rfl ?zo ?zk
  case zo =>
    repeat' apply AllP.cons
    all_goals first | exact trivial | exact hfw
  case zk =>
  refine Aw.seq ?_
  refine Aw.sm tab_ok mb0 [] rfl rfl ?zo ?zk
  case zo =>
    repeat' apply AllP.cons
    all_goals first | exact trivial
  case zk =>
  refine Aw.cond rfl (fun h => ?_) (fun h => Aw.skip ?_)
  · have h := of_decide_eq_true h
    have e : LeastR s l = (0, [], 4) := by simp only [LeastR, hok, hr, if_true]; rw [if_neg (by omega)]
    rw [e]
    refine Aw.sm tab_ok mb0 [] rfl rfl ?zo ?zk
    case zo =>
      repeat' apply AllP.cons
      all_goals first | exact trivial | exact rfl | exact Nat.le_of_ble_eq_true rfl
    case zk =>
    exact Aw.ret ⟨_, .cons (.tmp _) (.cons (resO rfl rfl (by decide) rfl rfl rfl) (.cons (.tmp _) .nil)), rfl⟩
  have h := of_decide_eq_false h
  have hlt : fewF s l < 1048576 := by omega
  have e : LeastR s l = (fewF s l, tI (trkN s l (fewF s l) (hrs s)).1, 0) := by simp only [LeastR, hok, hr, if_true]; rw [if_pos hlt]; rfl
  have inv := fun h hh => trkN_inv ho hl24 hlt h hh
  have stp0 : ∀ h, trkN s l (fewF s l) (h + 1) = match (cellsL s).find? (selP s l h (trkN s l (fewF s l) h).1 (trkN s l (fewF s l) h).2) with
    | some c => ((trkN s l (fewF s l) h).1 ++ [c], (trkN s l (fewF s l) h).2 - untrueF s.wide l h (placeP s.wide c))
    | none => trkN s l (fewF s l) h := fun h => rfl
  rw [e]
  have tz : trkN s l (fewF s l) 0 = ([], fewF s l) := rfl
  generalize hF : trkN s l (fewF s l) = F at *
  generalize fewF s l = n at *
  have h24 : ∀ id, 24 ≤ id → E.φ0 id = none := fun id _ => hE id (Nat.zero_le _)
  have h25 : ∀ id, 25 ≤ id → E.φ0 id = none := fun id _ => hE id (Nat.zero_le _)
  refine Aw.sm tab_ok mb0 [] rfl rfl ?zo ?zk
  case zo =>
    repeat' apply AllP.cons
    all_goals first | exact trivial | exact rfl | exact Nat.le_of_ble_eq_true rfl
  case zk =>
  refine Aw.seq (Aw.label ?_)
  refine Aw.seq ?_
  refine Aw.sm tab_ok mb0 [] rfl rfl ?zo ?zk
  case zo =>
    repeat' apply AllP.cons
    all_goals first | exact trivial | exact Nat.le_of_ble_eq_true rfl
  case zk =>
  have uLs : ∀ (T : List Int) (x : Int) {m : Nat}, 23 < m → UnderH m (lsH s l RB T x) := fun T x m h => ⟨⟨by omega, .cells _ (all1 (grL_under _))⟩, ⟨by omega, map_under _⟩, ⟨by omega, .cells _ (logA_under s (by omega) l)⟩, ⟨by omega, .cells _ (all1 hfree.under)⟩, ⟨by omega, .cells _ (all1 (.s _))⟩, trivial⟩
  refine Aw.block (Aw.rounds 24 h24 [(5, .ref 0 0), (7, .ref 21 0), (9, .ref 22 0), (10, .int n), (11, .ref 23 0), (36, .int s.hours)] (fun h : Nat => [(37, .int h)]) (fun h => lsH s l RB (tI (F h).1) (F h).2) (fun h => h ≤ hrs s) (fun h => hrs s - h) 0 ?zg ⟨?zc, ?zv, ?zh, Nat.le_of_ble_eq_true rfl⟩ ?zu (fun h zhk => ?zw) (fun h zhk => ?zx) fun h hk => ?zr)
  case zg =>
    (repeat' (first | exact Nat.zero_le _ | exact Nat.le_refl _ | exact trivial | exact uLs _ _ (by decide) | exact hland | exact (by rw [tz]; rfl) | (refine And.intro ?_ ?_)))
  case zc =>
    (repeat' (first | (refine And.intro ?_ ?_) | exact trivial | exact A.Le.refl _ | exact rfl | exact uLs _ _ (by decide) | exact hland | exact (by rw [tz]; rfl)))
  case zv =>
    (repeat' (first | (refine And.intro ?_ ?_) | exact trivial | exact A.Le.refl _ | exact rfl | exact uLs _ _ (by decide) | exact hland | exact (by rw [tz]; rfl)))
  case zh =>
    (repeat' (first | (refine And.intro ?_ ?_) | exact trivial | exact A.Le.refl _ | exact rfl | exact uLs _ _ (by decide) | exact hland | exact (by rw [tz]; rfl)))
  case zu =>
    (repeat' (first | exact trivial | exact Under.s _ | exact Under.un | assumption | exact (free_ints _ _ _).under | exact Under.ref _ _ (by decide) | exact Under.ms _ _ _ (by decide) | exact Under.mp _ (by decide) | exact (Free.agg _ (by assumption)).under | exact (Free.pt _ (by assumption)).under | exact grL_under _ | exact outA_under _ | exact Nat.le_of_ble_eq_true rfl | exact (fun _ _ => rfl) | exact uLs _ _ (by decide) | exact hland | exact (by rw [tz]; rfl) | (refine And.intro ?_ ?_)))
  case zw =>
    (repeat' (first | exact trivial | exact Under.s _ | exact Under.un | assumption | exact (free_ints _ _ _).under | exact Under.ref _ _ (by decide) | exact Under.ms _ _ _ (by decide) | exact Under.mp _ (by decide) | exact (Free.agg _ (by assumption)).under | exact (Free.pt _ (by assumption)).under | exact grL_under _ | exact outA_under _ | exact Nat.le_of_ble_eq_true rfl | exact (fun _ _ => rfl) | exact uLs _ _ (by decide) | exact hland | exact (by rw [tz]; rfl) | (refine And.intro ?_ ?_)))
  case zx =>
    (repeat' (first | exact trivial | exact Under.s _ | exact Under.un | assumption | exact (free_ints _ _ _).under | exact Under.ref _ _ (by decide) | exact Under.ms _ _ _ (by decide) | exact Under.mp _ (by decide) | exact (Free.agg _ (by assumption)).under | exact (Free.pt _ (by assumption)).under | exact grL_under _ | exact outA_under _ | exact Nat.le_of_ble_eq_true rfl | exact (fun _ _ => rfl) | exact uLs _ _ (by decide) | exact hland | exact (by rw [tz]; rfl) | (refine And.intro ?_ ?_)))
  case zr =>
  refine Aw.sm tab_ok mb0 [] rfl rfl ?zo ?zk
  case zo =>
    repeat' apply AllP.cons
    all_goals first | exact trivial
  case zk =>
  refine Aw.seq (Aw.cond rfl (fun h1 => Aw.skip1 ?_) (fun h1 => Aw.exit2 ?_))
  · have hh : h < hrs s := by have := of_decide_eq_true h1; omega
    have hI := inv h (by omega)
    have hsel := sel_succ ho hl24 hI hh
    have hsu := stp0 h
    have hlenT := hI.len
    have hokT := hI.ok
    have hleft := hI.bd
    have hdl := ho.dl
    have hrow := hRB hh
    have hr80 := bkR_len s l (hrs s - 1 - h)
    generalize hT : (F h).1 = T at *
    generalize hL : (F h).2 = left at *
    have hselP : ∀ c, selP s l h T left c = (((bkR s l (hrs s - 1 - h)).getD c 0 == left) && (h == 0 || stp s (h - 1) (T.getD (h - 1) 0) c)) := fun c => rfl
    generalize bkR s l (hrs s - 1 - h) = R at *
    refine Aw.seq (Aw.block ?_)
    refine Aw.sm tab_ok mb0 [] rfl rfl ?zo ?zk
    case zo =>
      repeat' apply AllP.cons
      all_goals first | exact trivial | exact rfl | exact Nat.le_of_ble_eq_true rfl
    case zk =>
    refine Aw.sm tab_ok mb0 [(2, [.fn (.func 84) [] [.pt (seaA s (.mp 20))], .tup [.mp 20]])] rfl rfl ?zo ?zk
    case zo =>
      repeat' apply AllP.cons
      all_goals first | exact trivial | exact Nat.le_of_ble_eq_true rfl | exact at20 (cells_r s) rfl
    case zk =>
    have usa : Under 25 (A.pt (seaA s (.mp 20))) := .pt _ (sea_under s (by decide))
    have ufn : Under 25 (A.fn (.func 84) [] [.pt (seaA s (.mp 20))]) := .fn _ _ _ (fun _ h => nomatch h) (all1 usa)
    have ucst : UnderL 25 [(5, .ref 0 0), (7, .ref 21 0), (9, .ref 22 0), (10, .int n), (11, .ref 23 0), (12, .ref 24 0), (36, .int s.hours)] := ⟨.ref _ _ (by decide), .ref _ _ (by decide), .ref _ _ (by decide), .s _, .ref _ _ (by decide), .ref _ _ (by decide), .s _, trivial⟩
    have uH : ∀ (G : List Int) (x : Int), UnderH 25 ((24, .cells [.int h]) :: lsH s l RB G x) := fun G x => ⟨⟨by decide, .cells _ (all1 (.s _))⟩, uLs G x (by decide)⟩
    refine Aw.keep (n := 25) (cst := [(5, .ref 0 0), (7, .ref 21 0), (9, .ref 22 0), (10, .int n), (11, .ref 23 0), (12, .ref 24 0), (36, .int s.hours)]) (v := [(37, .int h), (42, .fn (.func 84) [] [.pt (seaA s (.mp 20))])]) (Hl := (24, .cells [.int h]) :: lsH s l RB (tI T) left) h25 ?zu ?zw ?zx ⟨?zc, ?zv, ?zh, Nat.le_of_ble_eq_true rfl⟩ ?zr
    case zu =>
      (repeat' (first | exact trivial | exact Under.s _ | exact Under.un | assumption | exact (free_ints _ _ _).under | exact Under.ref _ _ (by decide) | exact Under.ms _ _ _ (by decide) | exact Under.mp _ (by decide) | exact (Free.agg _ (by assumption)).under | exact (Free.pt _ (by assumption)).under | exact grL_under _ | exact outA_under _ | exact Nat.le_of_ble_eq_true rfl | exact (fun _ _ => rfl) | exact ucst | exact uH _ _ | (refine And.intro ?_ ?_)))
    case zw =>
      (repeat' (first | exact trivial | exact Under.s _ | exact Under.un | assumption | exact (free_ints _ _ _).under | exact Under.ref _ _ (by decide) | exact Under.ms _ _ _ (by decide) | exact Under.mp _ (by decide) | exact (Free.agg _ (by assumption)).under | exact (Free.pt _ (by assumption)).under | exact grL_under _ | exact outA_under _ | exact Nat.le_of_ble_eq_true rfl | exact (fun _ _ => rfl) | exact ucst | exact uH _ _ | (refine And.intro ?_ ?_)))
    case zx =>
      (repeat' (first | exact trivial | exact Under.s _ | exact Under.un | assumption | exact (free_ints _ _ _).under | exact Under.ref _ _ (by decide) | exact Under.ms _ _ _ (by decide) | exact Under.mp _ (by decide) | exact (Free.agg _ (by assumption)).under | exact (Free.pt _ (by assumption)).under | exact grL_under _ | exact outA_under _ | exact Nat.le_of_ble_eq_true rfl | exact (fun _ _ => rfl) | exact ucst | exact uH _ _ | (refine And.intro ?_ ?_)))
    case zc =>
      (repeat' (first | (refine And.intro ?_ ?_) | exact trivial | exact A.Le.refl _ | exact rfl | exact ucst | exact uH _ _))
    case zv =>
      (repeat' (first | (refine And.intro ?_ ?_) | exact trivial | exact A.Le.refl _ | exact rfl | exact ucst | exact uH _ _))
    case zh =>
      (repeat' (first | (refine And.intro ?_ ?_) | exact trivial | exact A.Le.refl _ | exact rfl | exact ucst | exact uH _ _))
    case zr =>
    have hlen : ∀ z ∈ (cellsL s).map fun k : Nat => [A.int k], z.length = 1 := fun z h => by obtain ⟨p, _, rfl⟩ := List.mem_map.1 h; rfl
    have hlm : ((cellsL s).map fun k : Nat => [A.int k]).length = (cellsL s).length := List.length_map _
    refine Aw.block (Aw.iterM rfl (enters_of Try.func84 rfl rfl) ((cellsL s).map fun k : Nat => [A.int k]) (fun j H => H = ofH ((24, .cells [.int h]) :: lsH s l RB (tI T) left) ∧ ∀ c ∈ (cellsL s).take j, selP s l h T left c = false)
      (fun e H => e = .exit 1 ∧ H = ofH ((24, .cells [.int h]) :: lsH s l RB (tI (F (h + 1)).1) (F (h + 1)).2)) rfl hlen
      (ofL2_under (UnderL.app (l := [(37, .int h), (42, .fn (.func 84) [] [.pt (seaA s (.mp 20))])]) ⟨.s _, ufn, trivial⟩ ucst))
      (by rintro j H ⟨rfl, _⟩; exact UnderH.ofH (uH _ _)) (by rintro e H ⟨_, rfl⟩; exact UnderH.ofH (uH _ _))
      (fun it hIJ H hI => by rw [hlm]; exact cells1_t s ho it (Nat.lt_succ_self _) (Nat.le_of_ble_eq_true rfl) (fun k H h => by obtain ⟨H0, ⟨rfl, _⟩, h2⟩ := hIJ k H h; rw [h2 20 (Nat.ne_of_beq_eq_false rfl)]; rfl) hI) ⟨rfl, fun c hc => by simp at hc⟩ ?_ ?_ ?_)
    · intro lpB ulp j as' ha H hI2 E2 b2 hE2
      obtain ⟨rfl, hno⟩ := hI2
      obtain ⟨p, hp, rfl⟩ : ∃ p, (cellsL s)[j]? = some p ∧ [A.int (p : Nat)] = as' := by
        rw [List.getElem?_map] at ha
        cases e : (cellsL s)[j]? with
        | none => rw [e] at ha; cases ha
        | some p => rw [e] at ha; exact ⟨p, rfl, by simpa using ha⟩
      have hpc := cellsL_in s ho hp
      have pp : Int.toNat ((p : Nat) : Int) = p := Int.toNat_natCast p
      have hsp := hselP p
      have hld : (((R.map A.int).drop (Int.toNat ((p : Nat) : Int) * 1)).getD 0 .un).down = .int (R.getD p 0) := by
        rw [pp, Nat.mul_one, getD_drop, Nat.add_zero, getD_ints (by omega)]
      have hld2 : 0 < ((R.map A.int).drop (Int.toNat ((p : Nat) : Int) * 1)).length := by rw [pp, List.length_drop, List.length_map]; omega
      have hur := untrue_t s ho l hrf 20 h p (by omega)
      have hub := untrue_bd s l hrf h (placeP s.wide p)
      have hla : 0 < h → (T.getD (h - 1) 0 : Int) < 80 := fun h0 => by
        have : T.getD (h - 1) 0 = T[h - 1]'(by omega) := by simp [List.getD_eq_getElem?_getD, show h - 1 < T.length by omega]
        rw [this]
        have := wat_lt ho (okW_mem s hokT _ (List.getElem_mem (show h - 1 < T.length by omega)))
        omega
      have hpv : 0 < h → (ints (tI T))[((h : Int) - 1).toNat]? = some [.int (T.getD (h - 1) 0 : Nat)] := fun h0 => by
        rw [show ((h : Int) - 1).toNat = h - 1 by omega]
        simp [ints, tI, List.getD_eq_getElem?_getD, show h - 1 < T.length by omega]
      have hfi : selP s l h T left p = true → F (h + 1) = (T ++ [p], left - untrueF s.wide l h (placeP s.wide p)) := fun hs => by
        rw [hsu, find_at hp hs hno]
      have k0 : ∀ {w1 : Bool}, cond w1 (gq ((h : Int) == 0) false) false = true → 0 < h := fun hx => by
        have := gq_c2 hx
        have h3 : ((h : Int) == 0) = false := this.2
        have h4 : ¬ ((h : Int) = 0) := by simpa using h3
        omega
      have hstp : stp s (h - 1) (T.getD (h - 1) 0) p = s.steps (h - 1 : Nat) (placeP s.wide (T.getD (h - 1) 0 : Nat)) (placeP s.wide (p : Nat)) := rfl
      have hst : 0 < h → s.steps ((h : Int) - 1) (placeP s.wide (T.getD (h - 1) 0 : Nat)) (placeP s.wide (p : Nat)) = stp s (h - 1) (T.getD (h - 1) 0) p := fun h0 => by rw [hstp, show ((h - 1 : Nat) : Int) = (h : Int) - 1 by omega]
      generalize untrueF s.wide l h (placeP s.wide p) = u at *
      generalize T.getD (h - 1) 0 = lst at *
      generalize R.getD p 0 = bk at *
      refine Aw.em tab_ok mb0 [] rfl rfl ?zo ?zk
      case zo =>
        repeat' apply AllP.cons
        all_goals first | exact trivial
      case zk =>
      refine ⟨rfl, rfl, ?_⟩
      refine Aw.block ?_
      have fin : ∀ {H : Hp}, H 0 = some (.cells [grL 3 (tI T ++ [(p : Int)])]) → H 20 = some (landB s) → H 21 = some (.cells (logA s (.mp 20) l)) → H 22 = some (.cells [.sl false .any RB]) → H 23 = some (.cells [.int (left - u)]) → H 24 = some (.cells [.int h]) → F (h + 1) = (T ++ [p], left - u) →
          HasH H ((24, .cells [.int h]) :: lsH s l RB (tI (F (h + 1)).1) (F (h + 1)).2) := fun a1 a2 a3 a4 a5 a6 e => by
        rw [e, show tI (T ++ [p]) = tI T ++ [(p : Int)] by simp [tI]]
        exact ⟨a6, a1, a2, a3, a4, a5, trivial⟩
      have nx : selP s l h T left p = false → ∀ c ∈ (cellsL s).take (j + 1), selP s l h T left c = false := fun hs c hc => by
        obtain ⟨hj, e⟩ := List.getElem?_eq_some_iff.1 hp
        rw [List.take_succ_eq_append_getElem hj, List.mem_append] at hc
        rcases hc with hc | hc
        · exact hno c hc
        · rw [List.mem_singleton] at hc; rw [hc, e]; exact hs
      cases T with
      | nil =>
        have h00 : h = 0 := by simpa using hlenT.symm
        subst h00
        have pn : ∀ {q : Bool} {X : Prop}, (cond q (gq (((0 : Nat) : Int) == 0) false) false = true) → X := fun hx => absurd (k0 hx) (Nat.lt_irrefl 0)
        refine Aw.sd tab_ok mixed mb0 [(3, R.map A.int), (5, [.int bk]), (21, [.int lst]), (23, [.agg (placeP s.wide lst).c]), (27, [.agg (placeP s.wide p).c]), (28, [.bool true])] rfl (by kernel_rfl) rfl rfl ?zo ?zk
        case zo =>
          repeat' apply AllP.cons
          all_goals first | exact trivial | exact id | exact fun _ => rfl | exact Nat.le_of_ble_eq_true rfl | exact fun _ => Nat.le_of_ble_eq_true rfl | exact Int.natCast_nonneg _ | exact gq_c | exact fun _ _ => rfl | exact hrow | exact (show (R.map A.int).length = 80 by simp [hr80]) | exact hld | exact hld2 | exact (by simp only [Ob.of]; omega) | exact fun hx => pn hx
        case zk =>
        refine Aw.cond rfl (fun h2 => ?_) (fun h2 => Aw.skip ?_)
        · have h2 : cond (bk == left) true false = true := h2
          have hbk : (bk == left) = true := by revert h2; cases (bk == left) <;> simp
          have hs : selP s l 0 [] left p = true := by rw [hsp, hbk]; rfl
          refine Aw.sm tab_ok mb0 [] rfl rfl ?zo ?zk
          case zo =>
            repeat' apply AllP.cons
            all_goals first | exact trivial | exact rfl | exact Nat.le_of_ble_eq_true rfl | exact (show ∀ z ∈ [] ++ [[A.int _]], z.length = 1 from fun z hz => by simp at hz; subst hz; rfl)
          case zk =>
          refine Aw.sd tab_ok mixed mb0 [(4, [.int u])] rfl (by kernel_rfl) rfl rfl ?zo ?zk
          case zo =>
            repeat' apply AllP.cons
            all_goals first | exact trivial | exact rfl | exact Nat.le_of_ble_eq_true rfl | exact hur | exact (by simp only [Ob.of, inR]; omega)
          case zk =>
          refine Aw.exit (blkN rfl ?_)
          exact ⟨⟨_, _, rfl⟩, Nat.le_of_ble_eq_true rfl, _, ⟨rfl, rfl⟩, HasH.ofH (fin rfl rfl rfl rfl rfl rfl (hfi hs))⟩
        · have h2 : cond (bk == left) true false = false := h2
          have hbk : (bk == left) = false := by revert h2; cases (bk == left) <;> simp
          have hs : selP s l 0 [] left p = false := by rw [hsp, hbk]; rfl
          exact ⟨⟨_, _, rfl⟩, Nat.le_of_ble_eq_true rfl, _, ⟨rfl, nx hs⟩, HasH.ofH (l := (24, .cells [.int (0 : Nat)]) :: lsH s l RB (tI []) left) ⟨rfl, rfl, rfl, rfl, rfl, rfl, trivial⟩⟩
      | cons x0 T0 =>
        have hpos : 0 < h := by rw [← hlenT]; simp
        have hst' := hst hpos
        have h0b : ((h : Int) == 0) = false := by simpa using (show ¬ (h : Int) = 0 by omega)
        have h0n : (h == 0) = false := by simpa using (show ¬ h = 0 by omega)
        have hl3 := hla hpos
        have hz : ∀ z ∈ ints (tI (x0 :: T0)), z.length = 1 := fun z hz => by obtain ⟨i, _, rfl⟩ := List.mem_map.1 hz; rfl
        have hl12 : (ints (tI (x0 :: T0))).length ≤ 12 := by simp only [ints, tI, List.length_map]; omega
        have bl := placeP_bd ho.w (show -1000 ≤ (lst : Int) ∧ (lst : Int) ≤ 1000 by omega)
        rw [h0n] at hsp
        generalize hb : stp s (h - 1) lst p = stv at *
        refine Aw.sd tab_ok mixed mb0 [(3, R.map A.int), (5, [.int bk]), (21, [.int lst]), (23, [.agg (placeP s.wide lst).c]), (27, [.agg (placeP s.wide p).c]), (28, [.bool stv])] rfl (by kernel_rfl) rfl rfl ?zo ?zk
        case zo =>
          repeat' apply AllP.cons
          all_goals first | exact trivial | exact id | exact fun _ => rfl | exact Nat.le_of_ble_eq_true rfl | exact fun _ => Nat.le_of_ble_eq_true rfl | exact Int.natCast_nonneg _ | exact gq_c | exact fun _ _ => rfl | exact hrow | exact (show (R.map A.int).length = 80 by simp [hr80]) | exact hld | exact hld2 | exact (by simp only [Ob.of]; omega) | exact fun _ => hpv hpos | exact fun _ => plc_t s ho 20 lst (by omega) | exact fun _ => plc_t s ho 20 p (by omega) | exact fun _ => hst' ▸ steps_t s ho 20 ((h : Int) - 1) (by omega) (by omega) _ _ bl.1 bl.2 (placeP_near ho.w (by omega)) | exact fun _ => (by simp only [Ob.of, inR]; omega)
        case zk =>
        refine Aw.cond rfl (fun h2 => ?_) (fun h2 => Aw.skip ?_)
        · have h2 : cond (bk == left) (cond ((h : Int) == 0) true stv) false = true := h2
          rw [h0b] at h2
          have hs : selP s l h (x0 :: T0) left p = true := by rw [hsp]; revert h2; cases (bk == left) <;> cases stv <;> simp
          refine Aw.sm tab_ok mb0 [] rfl rfl ?zo ?zk
          case zo =>
            repeat' apply AllP.cons
            all_goals first | exact trivial | exact rfl | exact Nat.le_of_ble_eq_true rfl | exact (show ∀ z ∈ [[A.int _]], z.length = 1 from fun z hz => by simp at hz; subst hz; rfl) | exact hz | exact (show ((ints (tI (x0 :: T0))).length + 1) * 8 ≤ 140737488355328 by omega) | exact (show (ints (tI (x0 :: T0))).length + 1 ≤ maxLen by unfold maxLen; omega)
          case zk =>
          refine Aw.sd tab_ok mixed mb0 [(4, [.int u])] rfl (by kernel_rfl) rfl rfl ?zo ?zk
          case zo =>
            repeat' apply AllP.cons
            all_goals first | exact trivial | exact rfl | exact Nat.le_of_ble_eq_true rfl | exact hur | exact (by simp only [Ob.of, inR]; omega)
          case zk =>
          refine Aw.exit (blkN rfl ?_)
          exact ⟨⟨_, _, rfl⟩, Nat.le_of_ble_eq_true rfl, _, ⟨rfl, rfl⟩, HasH.ofH (fin (by simp [grL, ints, tI]; rfl) rfl rfl rfl rfl rfl (hfi hs))⟩
        · have h2 : cond (bk == left) (cond ((h : Int) == 0) true stv) false = false := h2
          rw [h0b] at h2
          have hs : selP s l h (x0 :: T0) left p = false := by rw [hsp]; revert h2; cases (bk == left) <;> cases stv <;> simp
          exact ⟨⟨_, _, rfl⟩, Nat.le_of_ble_eq_true rfl, _, ⟨rfl, nx hs⟩, HasH.ofH (l := (24, .cells [.int h]) :: lsH s l RB (tI (x0 :: T0)) left) ⟨rfl, rfl, rfl, rfl, rfl, rfl, trivial⟩⟩
    · rintro H c' hc' ⟨H0, ⟨rfl, hno⟩, hs⟩
      obtain ⟨c, hf, hcm, _⟩ := hsel
      rw [hlm, List.take_length] at hno
      have := List.find?_some hf
      rw [hno c hcm] at this; cases this
    · rintro e H c' hc' ⟨H0, ⟨rfl, rfl⟩, hs⟩
      have hH := hasH_of_sub (l := (24, .cells [.int h]) :: lsH s l RB (tI (F (h + 1)).1) (F (h + 1)).2) rfl hs
      refine Aw.exit (blkN rfl (blkE ?_))
      refine Aw.keep (n := 24) (cst := [(5, .ref 0 0), (7, .ref 21 0), (9, .ref 22 0), (10, .int n), (11, .ref 23 0), (36, .int s.hours)]) (v := [(37, .int h)]) (Hl := lsH s l RB (tI (F (h + 1)).1) (F (h + 1)).2) h24 ⟨.ref _ _ (by decide), .ref _ _ (by decide), .ref _ _ (by decide), .s _, .ref _ _ (by decide), .s _, trivial⟩ ⟨.s _, trivial⟩ (uLs _ _ (by decide))
        ⟨⟨.refl _, .refl _, .refl _, .refl _, .refl _, .refl _, trivial⟩, ⟨.refl _, trivial⟩, hH.2, Nat.le_trans (show 24 ≤ 25 by decide) hc'⟩ ?_
      refine Aw.em tab_ok mb0 [] rfl rfl ?zo ?zk
      case zo =>
        repeat' apply AllP.cons
        all_goals first | exact trivial | exact inrk h (by omega)
      case zk =>
      refine ⟨h + 1, ?zg, ?zm, ⟨?zc, ?zv, ?zh, Nat.le_of_ble_eq_true rfl⟩⟩
      case zg =>
        (repeat' (first | assumption | omega | (refine And.intro ?_ ?_)))
      case zm =>
        (repeat' (first | omega | (refine And.intro ?_ ?_)))
      case zc =>
        (repeat' (first | (refine And.intro ?_ ?_) | exact trivial | exact A.Le.refl _ | exact rfl))
      case zv =>
        (repeat' (first | (refine And.intro ?_ ?_) | exact trivial | exact A.Le.refl _ | exact rfl))
      case zh =>
        (repeat' (first | (refine And.intro ?_ ?_) | exact trivial | exact A.Le.refl _ | exact rfl))
  have hle : h = hrs s := by have := of_decide_eq_false h1; omega
  subst hle
  have hlen := (inv (hrs s) (Nat.le_refl _)).len
  generalize (F (hrs s)).1 = T at *
  cases T with
  | nil => simp at hlen; omega
  | cons x t =>
    refine Aw.sd tab_ok mixed mb0 [] rfl (by kernel_rfl) rfl rfl ?zo ?zk
    case zo =>
      repeat' apply AllP.cons
      all_goals first | exact trivial | exact rfl | exact Nat.le_of_ble_eq_true rfl | exact Int.natCast_nonneg _ | exact (by simp only [Ob.of]; omega)
    case zk =>
    have e : (ints (tI (x :: t))).take (Int.toNat ((ints (tI (x :: t))).length : Int)) = ints (tI (x :: t)) := by rw [Int.toNat_natCast, List.take_length]
    exact Aw.ret ⟨_, .cons (.tmp _) (.cons (resO rfl rfl (by decide) rfl rfl rfl) (.cons (.tmp _) .nil)), congrArg (fun r => A.tup [.int n, .sl false .exact r, .int 0]) e⟩
end Go.Proofs.Ytohbjneaaahpcaa

