/- BarrelRuns holds: CheckYard and Run return what the specification says. No condition. -/
import Derived.Test.YtampldajinhenaaK6
set_option linter.all false
namespace Go.AL.Br
open Go Go.AL Go.AL.Q
def monL (of : Nat → Int) (lv : List Int) (k : Nat) : List Int := (List.range k).map fun i => mx0 (lv.getD i 0 - of i)
theorem monL_len (of : Nat → Int) (lv : List Int) (k : Nat) : (monL of lv k).length = k := by simp [monL]
theorem monL_succ (of : Nat → Int) (lv : List Int) (k : Nat) : monL of lv (k + 1) = monL of lv k ++ [mx0 (lv.getD k 0 - of k)] := by unfold monL; rw [List.range_succ, List.map_append]; rfl
theorem monL_take (of : Nat → Int) (lv : List Int) {k n : Nat} (h : k ≤ n) : (monL of lv n).take k = monL of lv k := by
  unfold monL
  rw [← List.map_take, List.take_range, Nat.min_eq_left h]
def okM (y : List Cask) (of : Nat → Int) (lv : List Int) (k : Nat) : Bool := (List.range k).all fun i => decide (mx0 (lv.getD i 0 - of i) ≥ (ck y i).line)
theorem okM_succ (y : List Cask) (of : Nat → Int) (lv : List Int) (k : Nat) : okM y of lv (k + 1) = cond (okM y of lv k) (decide (mx0 (lv.getD k 0 - of k) ≥ (ck y k).line)) false := by
  unfold okM
  rw [List.range_succ, List.all_append]
  cases (List.range k).all fun i => decide (mx0 (lv.getD i 0 - of i) ≥ (ck y i).line) <;> simp
def fillS (y : List Cask) (lv : List Int) (top : Int) : List Int := if top ≥ 0 then lv.set top.toNat (ck y top.toNat).full else lv
structure LvS (n : Nat) (l : List Int) : Prop where
  n : l.length = n
  b : ∀ x ∈ l, 0 ≤ x ∧ x ≤ 1000
theorem LvS.get {n : Nat} {l : List Int} (h : LvS n l) {i : Nat} (hi : i < n) : 0 ≤ l.getD i 0 ∧ l.getD i 0 ≤ 1000 := by
  have hl : i < l.length := by rw [h.n]; exact hi
  have e : l.getD i 0 = l[i] := by simp [List.getD_eq_getElem?_getD, hl]
  rw [e]; exact h.b _ (List.getElem_mem hl)
theorem LvS.month {n : Nat} {l : List Int} (h : LvS n l) {of : Nat → Int} (ho : ∀ i, i < n → 0 ≤ of i) : LvS n (monL of l n) := ⟨monL_len _ _ _, fun x hx => by
  obtain ⟨i, hi, rfl⟩ := List.mem_map.1 hx
  have hi := List.mem_range.1 hi
  have := h.get hi
  have := ho i hi
  exact mx0_bd (by omega)⟩
theorem LvS.fill {n : Nat} {l : List Int} (h : LvS n l) {y : List Cask} (hy : ∀ c ∈ y, c.Ok) (top : Int) : LvS n (fillS y l top) := by
  unfold fillS
  split
  · exact ⟨by rw [List.length_set]; exact h.n, fun z hz => by
      rcases List.mem_or_eq_of_mem_set hz with h1 | rfl
      · exact h.b z h1
      · have := ck_ok hy top.toNat; omega⟩
  · exact h
def nowL (y : List Cask) : List Int := y.map (·.level)
theorem now_ok {y : List Cask} (hy : ∀ c ∈ y, c.Ok) : LvS y.length (nowL y) := ⟨by simp [nowL], fun x hx => by
  obtain ⟨c, hc, rfl⟩ := List.mem_map.1 hx
  have h1 := (hy c hc).l
  have h2 := (hy c hc).f
  omega⟩
def runSp (y : List Cask) (of : Nat → Nat → Int) : List Int → Nat → List Int → List Int × Int
  | [], _, l => (l, -1)
  | top :: ts, m, l => if okM y (of m) l y.length then runSp y of ts (m + 1) (fillS y (monL (of m) l y.length) top) else (monL (of m) l y.length, m)
def rRunR (y : List Cask) (plan : List Int) (leaks : List NL) : List Int × Int × Int :=
  if yardOk y then
    if planOk y plan leaks then ((runSp y (lkOf leaks) plan 0 (nowL y)).1, (runSp y (lkOf leaks) plan 0 (nowL y)).2, 0) else ([], 0, 62)
  else ([], 0, 61)
theorem take_getD {l : List Int} {n i : Nat} (h : i < n) : (l.take n).getD i 0 = l.getD i 0 := by
  simp [List.getD_eq_getElem?_getD, List.getElem?_take, h]
theorem okM_dry {y : List Cask} {of : Nat → Int} {l : List Int} : ∀ k : Nat, k ≤ y.length → (okM y of (l.take y.length) k = true ↔ dryK y of l k < 0)
  | 0, _ => ⟨fun _ => (show (-1 : Int) < 0 by decide), fun _ => rfl⟩
  | k + 1, hk => by
    have ih := okM_dry (y := y) (of := of) (l := l) k (by omega)
    rw [okM_succ, take_getD (by omega), dryK]
    by_cases h1 : okM y of (l.take y.length) k = true
    · have h2 := ih.1 h1
      rw [h1]
      by_cases h3 : mx0 (l.getD k 0 - of k) < (ck y k).line
      · rw [decide_eq_true h3, decide_eq_true h2, decide_eq_false (show ¬ mx0 (l.getD k 0 - of k) ≥ (ck y k).line by omega)]
        simp
      · rw [decide_eq_false h3, decide_eq_true (show mx0 (l.getD k 0 - of k) ≥ (ck y k).line by omega)]
        simpa using h2
    · have h2 : ¬ dryK y of l k < 0 := fun h => h1 (ih.2 h)
      have h1 : okM y of (l.take y.length) k = false := by simpa using h1
      rw [h1, decide_eq_false h2]
      have : cond (decide (mx0 (l.getD k 0 - of k) < (ck y k).line)) false false = false := by cases decide (mx0 (l.getD k 0 - of k) < (ck y k).line) <;> rfl
      rw [show (bif decide (mx0 (l.getD k 0 - of k) < (ck y k).line) then false else false) = false from this]
      simpa using h2
theorem mon_take {y : List Cask} {of : Nat → Int} {l : List Int} (hl : y.length ≤ l.length) : monL of (l.take y.length) y.length = (leakL y of l).take y.length := by
  refine List.ext_getElem (by rw [monL_len, List.length_take]; unfold leakL; rw [lkK_len]; omega) fun i h1 h2 => ?_
  rw [monL_len] at h1
  have e1 : (monL of (l.take y.length) y.length)[i] = mx0 ((l.take y.length).getD i 0 - of i) := by simp [monL]
  rw [e1, take_getD h1, List.getElem_take]
  have h3 : i < l.length := by omega
  simp [leakL, lkK, h1, List.getD_eq_getElem?_getD, h3]
theorem fill_take {y : List Cask} {l : List Int} {top : Int} (ht : top < y.length) : fillS y (l.take y.length) top = (fillL y l top).take y.length := by
  unfold fillS fillL
  by_cases h : 0 ≤ top
  · rw [if_pos h, if_pos h, List.take_set]
  · rw [if_neg h, if_neg h]
theorem fillL_len (y : List Cask) (l : List Int) (top : Int) : (fillL y l top).length = l.length := by unfold fillL; split <;> simp
theorem runSp_is {y : List Cask} {of : Nat → Nat → Int} : ∀ (ts : List Int) (m : Nat) (l : List Int), y.length ≤ l.length → (∀ t ∈ ts, t < y.length) →
    runSp y of ts m (l.take y.length) = ((runGo y of ts m l).1.take y.length, (runGo y of ts m l).2)
  | [], m, l, _, _ => rfl
  | top :: ts, m, l, hl, ht => by
    rw [runSp, runGo]
    have h1 := okM_dry (y := y) (of := of m) (l := l) y.length (Nat.le_refl _)
    have hlen : y.length ≤ (leakL y (of m) l).length := by unfold leakL; rw [lkK_len]; exact hl
    by_cases h : okM y (of m) (l.take y.length) y.length = true
    · have h2 := h1.1 h
      rw [if_pos h, if_neg (by unfold dryF; omega), mon_take hl, fill_take (ht top (by simp)), runSp_is ts (m + 1) _ (by rw [fillL_len]; exact hlen) (fun t h => ht t (List.mem_cons_of_mem _ h))]
    · have h2 : ¬ dryK y (of m) l y.length < 0 := fun x => h (h1.2 x)
      rw [if_neg h, if_pos (by unfold dryF; omega), mon_take hl]
theorem fillS_len (y : List Cask) (l : List Int) (top : Int) : (fillS y l top).length = l.length := by unfold fillS; split <;> simp
theorem runSp_len {y : List Cask} {of : Nat → Nat → Int} : ∀ (ts : List Int) (m : Nat) (l : List Int), l.length = y.length → (runSp y of ts m l).1.length = y.length
  | [], m, l, h => h
  | top :: ts, m, l, h => by
    rw [runSp]
    split
    · exact runSp_len ts (m + 1) _ (by rw [fillS_len, monL_len])
    · exact monL_len _ _ _
theorem now_take {y : List Cask} (h : y.length ≤ 4) : nowL y = (lev0 y).take y.length := by
  refine List.ext_getElem (by simp [nowL, lev0]; omega) fun i h1 h2 => ?_
  have hi : i < y.length := by simpa [nowL] using h1
  rw [List.getElem_take]
  have e : (nowL y)[i] = (ck y i).level := by rw [ck_get hi]; simp [nowL]
  rw [e]
  rcases (show i = 0 ∨ i = 1 ∨ i = 2 ∨ i = 3 by omega) with rfl | rfl | rfl | rfl <;> rfl
theorem rRun_is (y : List Cask) (plan : List Int) (leaks : List NL) : rRunR y plan leaks = RunR y plan leaks := by
  unfold rRunR RunR
  by_cases h1 : yardOk y = true
  · rw [if_pos h1, if_pos h1]
    have hn := (yardOk_iff.1 h1).n
    by_cases h2 : planOk y plan leaks = true
    · rw [if_pos h2, if_pos h2]
      have hp := planOk_iff.1 h2
      rw [now_take hn.2, runSp_is plan 0 (lev0 y) (by show y.length ≤ 4; exact hn.2) (fun t ht => by
        obtain ⟨i, hi, rfl⟩ := List.getElem_of_mem ht
        have := (hp.p i hi).2
        rwa [show plan.getD i 0 = plan[i] by simp [List.getD_eq_getElem?_getD, hi]] at this)]
    · rw [if_neg h2, if_neg h2]
  · rw [if_neg h1, if_neg h1]
end Go.AL.Br

namespace Go.Proofs.Ytampldajinhenaa
open Go Go.AL Go.AL.Q Go.AL.Br
theorem yard_raB (y : List Cask) : raB (wi y.length 1 4) (fun i => (ck y i).ok) y.length = yardOk y := by
  rw [Bool.eq_iff_iff, raB_iff, yardOk_iff, wi_iff]
  constructor
  · rintro ⟨h1, h2⟩
    refine ⟨by omega, fun c hc => ?_⟩
    obtain ⟨i, hi, rfl⟩ := List.getElem_of_mem hc
    have := h2 i hi
    rw [ck_get hi] at this
    exact Cask.ok_iff.1 this
  · rintro ⟨h1, h2⟩
    exact ⟨by omega, fun i hi => by rw [ck_get hi]; exact Cask.ok_iff.2 (h2 _ (List.getElem_mem hi))⟩
theorem ryard_t (y : List Cask) (b : Bool) (hl : (y.length : Int) ≤ 9223372036854775806) : Ans Try.prog 27 [.sl b .any (y.map Cask.c)] (.int (yardChk y)) := by
  have ll : ((y.map Cask.c).length : Int) = y.length := by simp
  have fy : Free (.sl b .any (y.map Cask.c)) := free_map Cask.free _ _ _
  have uy : ∀ {m : Nat}, Under m (A.sl b .any (y.map Cask.c)) := fy.under
  refine told Try.func27 rfl rfl (Pure.of tab_ok Try.func27 rfl Try.ntmps27 rfl (all1 (fy)) (all1 (fun _ => rfl)) (by first | exact .s _ | assumption | exact .tup _ (by intro x hx; simp only [List.mem_cons, List.not_mem_nil, or_false] at hx; rcases hx with rfl | rfl | rfl | rfl <;> first | exact .s _ | (simp_all; done))) fun E hE => ?_)
  refine Aw.sm tab_ok mb0 [] rfl rfl ?zo ?zk
  case zo =>
    repeat' apply AllP.cons
    all_goals first | exact trivial
  case zk =>
  refine Aw.sm tab_ok mb0 [(2, [.bool (wi y.length 1 4)])] rfl rfl ?zo ?zk
  case zo =>
    repeat' apply AllP.cons
    all_goals first | exact trivial | exact (by rw [ll]; exact in_t _ _ _)
  case zk =>
  refine Aw.seq ?_
  refine Aw.sm tab_ok mb0 [] rfl rfl ?zo ?zk
  case zo =>
    repeat' apply AllP.cons
    all_goals first | exact trivial
  case zk =>
  refine Aw.block (Aw.rounds 0 hE [(0, .sl b .any (y.map Cask.c))] (fun k : Nat => [(3, .bool (raB (wi y.length 1 4) (fun i => (ck y i).ok) k)), (4, .int k)]) (fun k => []) (fun k => k ≤ y.length) (fun k => y.length - k) 0 ?zg ⟨?zc, ?zv, ?zh, Nat.le_of_ble_eq_true rfl⟩ ?zu (fun k zhk => ?zw) (fun k zhk => ?zx) fun k hk => ?zr)
  case zg =>
    (repeat' (first | exact Nat.zero_le _))
  case zc =>
    (repeat' (first | (refine And.intro ?_ ?_) | exact trivial | exact A.Le.refl _))
  case zv =>
    (repeat' (first | (refine And.intro ?_ ?_) | exact trivial | exact A.Le.refl _ | exact .of_eq (by rw [raB_zero]; rfl)))
  case zh =>
    (repeat' (first | exact trivial))
  case zu =>
    (repeat' (first | exact trivial | exact uy | (refine And.intro ?_ ?_)))
  case zw =>
    (repeat' (first | exact trivial | exact Under.s _ | (refine And.intro ?_ ?_)))
  case zx =>
    (repeat' (first | exact trivial))
  case zr =>
  refine Aw.seq ?_
  refine Aw.sm tab_ok mb0 [] rfl rfl ?zo ?zk
  case zo =>
    repeat' apply AllP.cons
    all_goals first | exact trivial | exact id | exact fun _ => rfl
  case zk =>
  refine Aw.cond rfl (fun h1 => Aw.skip ?_) (fun h1 => ?_)
  · have h1 : cond (raB (wi y.length 1 4) (fun i => (ck y i).ok) k) (decide ((k : Int) < ((y.map Cask.c).length : Int))) false = true := h1
    have hb := ac1 h1
    have hlt : k < y.length := by have := of_decide_eq_true (ac2 h1); omega
    have hst := raB_step hb
    have hg := cask_at hlt
    generalize ck y k = c at *
    generalize hv1 : raB (wi y.length 1 4) (fun i => (ck y i).ok) (k + 1) = v1 at *
    refine Aw.seq (Aw.block ?_)
    refine Aw.sm tab_ok mb0 [(2, c.c)] rfl rfl ?zo ?zk
    case zo =>
      repeat' apply AllP.cons
      all_goals first | exact trivial | exact rfl | exact Nat.le_of_ble_eq_true rfl | exact Int.natCast_nonneg _ | exact hg
    case zk =>
    refine Aw.em tab_ok mb0 [(2, [.bool (wi c.full 1 1000)]), (8, [.bool (wi c.level 0 c.full)]), (15, [.bool (wi c.line 0 c.full)]), (20, [.bool (spannedF c.lo c.hi 0 1000)])] rfl rfl ?zo ?zk
    case zo =>
      repeat' apply AllP.cons
      all_goals first | exact trivial | exact id | exact fun _ => rfl | exact Nat.le_of_ble_eq_true rfl | exact fun _ => Nat.le_of_ble_eq_true rfl | exact in_t _ _ _ | exact (in_t _ _ _).un | exact fun _ => rspanned_t ⟨c.lo, c.hi⟩ _ _
    case zk =>
    refine Aw.em tab_ok mb0 [] rfl rfl ?zo ?zk
    case zo =>
      repeat' apply AllP.cons
      all_goals first | exact trivial | exact inrk k (by omega)
    case zk =>
    refine ⟨k + 1, ?zg, ?zm, ⟨?zc, ?zv, ?zh, Nat.le_of_ble_eq_true rfl⟩⟩
    case zg =>
      (repeat' (first | assumption))
    case zm =>
      (repeat' (first | omega))
    case zc =>
      (repeat' (first | (refine And.intro ?_ ?_) | exact trivial | exact A.Le.refl _))
    case zv =>
      (repeat' (first | (refine And.intro ?_ ?_) | exact trivial | exact A.Le.refl _ | exact .of_eq (congrArg A.bool (hv1.trans (hst.trans rfl)))))
    case zh =>
      (repeat' (first | exact trivial))
  have h1 : cond (raB (wi y.length 1 4) (fun i => (ck y i).ok) k) (decide ((k : Int) < ((y.map Cask.c).length : Int))) false = false := h1
  have hend : raB (wi y.length 1 4) (fun i => (ck y i).ok) k = false ∨ k = y.length := by
    by_cases h3 : raB (wi y.length 1 4) (fun i => (ck y i).ok) k = true
    · rw [h3] at h1
      have h1 : decide ((k : Int) < ((y.map Cask.c).length : Int)) = false := h1
      have := of_decide_eq_false h1
      exact .inr (by omega)
    · exact .inl (by simpa using h3)
  have he := raB_end hk hend
  rw [yard_raB] at he
  rw [he]
  refine Aw.exit2 ?_
  refine Aw.seq ?_
  refine Aw.sm tab_ok mb0 [] rfl rfl ?zo ?zk
  case zo =>
    repeat' apply AllP.cons
    all_goals first | exact trivial
  case zk =>
  refine Aw.cond rfl (fun h1 => ?_) (fun h1 => Aw.skip ?_)
  · have hno : yardOk y = false := by simpa using h1
    refine Aw.sm tab_ok mb0 [] rfl rfl ?zo ?zk
    case zo =>
      repeat' apply AllP.cons
      all_goals first | exact trivial
    case zk =>
    exact Aw.ret ⟨_, .cons (.tmp _) .nil, by unfold yardChk; rw [hno]; rfl⟩
  · have hyes : yardOk y = true := by simpa using h1
    refine Aw.sm tab_ok mb0 [] rfl rfl ?zo ?zk
    case zo =>
      repeat' apply AllP.cons
      all_goals first | exact trivial
    case zk =>
    exact Aw.ret ⟨_, .cons (.tmp _) .nil, by unfold yardChk; rw [if_pos hyes]; rfl⟩
theorem isPlan_t (y : List Cask) (b : Bool) (hyo : YardOk y) (pb : Bool) (plan : List Int) (hp : (plan.length : Int) ≤ 9223372036854775806) (lb : Bool) (leaks : List NL) :
    Ans Try.prog 73 [.sl b .any (y.map Cask.c), .sl pb .any (ints plan), .sl lb .any (leaks.map NL.c)] (.bool (planOk y plan leaks)) := by
  have ll : ((y.map Cask.c).length : Int) = y.length := by simp
  have lp := ints_lenI plan
  have lk : ((leaks.map NL.c).length : Int) = leaks.length := by simp
  have fy : Free (.sl b .any (y.map Cask.c)) := free_map Cask.free _ _ _
  have fp : Free (.sl pb .any (ints plan)) := free_ints _ _ _
  have fl : Free (.sl lb .any (leaks.map NL.c)) := free_map NL.free _ _ _
  have uy : ∀ {m : Nat}, Under m (A.sl b .any (y.map Cask.c)) := fy.under
  have up : ∀ {m : Nat}, Under m (A.sl pb .any (ints plan)) := fp.under
  have ul : ∀ {m : Nat}, Under m (A.sl lb .any (leaks.map NL.c)) := fl.under
  have hn := hyo.n
  refine told Try.func73 rfl rfl (Pure.of tab_ok Try.func73 rfl Try.ntmps73 rfl (allC (fy) (allC (fp) (all1 (fl)))) (allC (fun _ => rfl) (allC (fun _ => rfl) (all1 (fun _ => rfl)))) (by first | exact .s _ | assumption | exact .tup _ (by intro x hx; simp only [List.mem_cons, List.not_mem_nil, or_false] at hx; rcases hx with rfl | rfl | rfl | rfl <;> first | exact .s _ | (simp_all; done))) fun E hE => ?_)
  refine Aw.sm tab_ok mb0 [] rfl rfl ?zo ?zk
  case zo =>
    repeat' apply AllP.cons
    all_goals first | exact trivial
  case zk =>
  have h0 : A.bool (plan0 plan leaks) = A.bool (cond (decide (((ints plan).length : Int) ≤ 12)) (((leaks.map NL.c).length : Int) == ((ints plan).length : Int)) false) := by rw [lp, lk]; rfl
  refine Aw.sm tab_ok mb0 [] rfl rfl ?zo ?zk
  case zo =>
    repeat' apply AllP.cons
    all_goals first | exact trivial | exact id | exact fun _ => rfl
  case zk =>
  refine Aw.seq ?_
  refine Aw.sm tab_ok mb0 [] rfl rfl ?zo ?zk
  case zo =>
    repeat' apply AllP.cons
    all_goals first | exact trivial
  case zk =>
  refine Aw.block (Aw.rounds 0 hE [(0, .sl b .any (y.map Cask.c)), (1, .sl pb .any (ints plan)), (2, .sl lb .any (leaks.map NL.c))] (fun m : Nat => [(7, .bool (raB (plan0 plan leaks) (monB y plan leaks) m)), (8, .int m)]) (fun m => []) (fun m => m ≤ plan.length) (fun m => plan.length - m) 0 ?zg ⟨?zc, ?zv, ?zh, Nat.le_of_ble_eq_true rfl⟩ ?zu (fun m zhk => ?zw) (fun m zhk => ?zx) fun m hk => ?zr)
  case zg =>
    (repeat' (first | exact Nat.zero_le _))
  case zc =>
    (repeat' (first | (refine And.intro ?_ ?_) | exact trivial | exact A.Le.refl _))
  case zv =>
    (repeat' (first | (refine And.intro ?_ ?_) | exact trivial | exact A.Le.refl _ | exact .of_eq (by rw [raB_zero]; exact h0)))
  case zh =>
    (repeat' (first | exact trivial))
  case zu =>
    (repeat' (first | exact trivial | exact (free_ints _ _ _).under | exact uy | exact ul | (refine And.intro ?_ ?_)))
  case zw =>
    (repeat' (first | exact trivial | exact Under.s _ | (refine And.intro ?_ ?_)))
  case zx =>
    (repeat' (first | exact trivial))
  case zr =>
  refine Aw.seq ?_
  refine Aw.sm tab_ok mb0 [] rfl rfl ?zo ?zk
  case zo =>
    repeat' apply AllP.cons
    all_goals first | exact trivial | exact id | exact fun _ => rfl
  case zk =>
  refine Aw.cond rfl (fun h1 => Aw.skip ?_) (fun h1 => ?_)
  · have h1 : cond (raB (plan0 plan leaks) (monB y plan leaks) m) (decide ((m : Int) < ((ints plan).length : Int))) false = true := h1
    have hb := ac1 h1
    have hlt : m < plan.length := by have := of_decide_eq_true (ac2 h1); omega
    have hst := raB_step hb
    have hp0 := plan0_iff.1 (raB_iff.1 hb).1
    have hlm : m < leaks.length := by omega
    have hg := nl_at hlm
    have hgp := ints_getD hlt
    have hm0 : mon0 y plan leaks m = cond (wi (plan.getD m 0) (-1) (y.length - 1)) (((ints (leaks.getD m ⟨true, []⟩).l).length : Int) == ((y.map Cask.c).length : Int)) false := by rw [ll, ints_lenI]; rfl
    have hmB : monB y plan leaks m = raB (mon0 y plan leaks m) (rowB y leaks m) y.length := rfl
    have hrow : ∀ i, rowB y leaks m i = wi ((leaks.getD m ⟨true, []⟩).l.getD i 0) (ck y i).lo (ck y i).hi := fun i => rfl
    have hm0i := mon0_iff (y := y) (plan := plan) (leaks := leaks) (m := m)
    rw [hmB] at hst
    generalize hv1 : raB (plan0 plan leaks) (monB y plan leaks) (m + 1) = v1 at *
    generalize leaks.getD m ⟨true, []⟩ = x at *
    generalize plan.getD m 0 = top at *
    generalize raB (plan0 plan leaks) (monB y plan leaks) m = v0 at *
    generalize mon0 y plan leaks m = b1 at *
    generalize rowB y leaks m = row at *
    have hin : (A.bool b1) = A.bool (cond (wi top (-1) ((((y.map Cask.c).length : Nat) : Int) - 1)) (((ints x.l).length : Int) == ((y.map Cask.c).length : Int)) false) := by rw [hm0, ll]
    refine Aw.seq (Aw.block ?_)
    refine Aw.sm tab_ok mb0 [(2, [.int top]), (7, [.bool (wi top (-1) ((((y.map Cask.c).length : Nat) : Int) - 1))]), (11, x.c)] rfl rfl ?zo ?zk
    case zo =>
      repeat' apply AllP.cons
      all_goals first | exact trivial | exact id | exact rfl | exact fun _ => rfl | exact Nat.le_of_ble_eq_true rfl | exact fun _ => Nat.le_of_ble_eq_true rfl | exact Int.natCast_nonneg _ | exact fun _ => Int.natCast_nonneg _ | exact in_t _ _ _ | exact hgp | exact (show inR ((((y.map Cask.c).length : Nat) : Int) - 1) by rw [ll]; simp only [inR]; omega) | exact fun _ => hg
    case zk =>
    refine Aw.sm tab_ok mb0 [] rfl rfl ?zo ?zk
    case zo =>
      repeat' apply AllP.cons
      all_goals first | exact trivial
    case zk =>
    refine Aw.block (Aw.rounds 0 hE [(0, .sl b .any (y.map Cask.c)), (1, .sl pb .any (ints plan)), (2, .sl lb .any (leaks.map NL.c)), (8, .int m)] (fun i : Nat => [(7, .bool (raB b1 row i)), (9, .int i)]) (fun i => []) (fun i => i ≤ y.length) (fun i => y.length - i) 0 ?zg ⟨?zc, ?zv, ?zh, Nat.le_of_ble_eq_true rfl⟩ ?zu (fun i zhk => ?zw) (fun i zhk => ?zx) fun i hk => ?zr)
    case zg =>
      (repeat' (first | exact Nat.zero_le _))
    case zc =>
      (repeat' (first | (refine And.intro ?_ ?_) | exact trivial | exact A.Le.refl _))
    case zv =>
      (repeat' (first | (refine And.intro ?_ ?_) | exact trivial | exact A.Le.refl _ | exact .of_eq (by rw [raB_zero]; exact hin)))
    case zh =>
      (repeat' (first | exact trivial))
    case zu =>
      (repeat' (first | exact trivial | exact Under.s _ | exact (free_ints _ _ _).under | exact uy | exact ul | (refine And.intro ?_ ?_)))
    case zw =>
      (repeat' (first | exact trivial | exact Under.s _ | (refine And.intro ?_ ?_)))
    case zx =>
      (repeat' (first | exact trivial))
    case zr =>
    refine Aw.seq ?_
    refine Aw.sm tab_ok mb0 [] rfl rfl ?zo ?zk
    case zo =>
      repeat' apply AllP.cons
      all_goals first | exact trivial | exact id | exact fun _ => rfl
    case zk =>
    refine Aw.cond rfl (fun h2 => Aw.skip ?_) (fun h2 => ?_)
    · have h2 : cond (raB b1 row i) (decide ((i : Int) < ((y.map Cask.c).length : Int))) false = true := h2
      have hb2 := ac1 h2
      have hlt2 : i < y.length := by have := of_decide_eq_true (ac2 h2); omega
      have hst2 := raB_step hb2
      have hx2 := (hm0i.1 (raB_iff.1 hb2).1).2
      have hgx := ints_getD (show i < x.l.length by omega)
      have hgc := cask_at hlt2
      have hr := hrow i
      generalize ck y i = c at *
      generalize x.l.getD i 0 = z at *
      generalize hv2 : raB b1 row (i + 1) = v2 at *
      refine Aw.seq (Aw.block ?_)
      refine Aw.ed tab_ok mixed mb0 [(2, c.c), (7, x.c), (10, [.int z]), (12, [.bool (wi z c.lo c.hi)])] rfl (by kernel_rfl) rfl rfl ?zo ?zk
      case zo =>
        repeat' apply AllP.cons
        all_goals first | exact trivial | exact rfl | exact Nat.le_of_ble_eq_true rfl | exact Int.natCast_nonneg _ | exact hg | exact hgx | exact hgc | exact holds_l ⟨c.lo, c.hi⟩ z
      case zk =>
      refine Aw.em tab_ok mb0 [] rfl rfl ?zo ?zk
      case zo =>
        repeat' apply AllP.cons
        all_goals first | exact trivial | exact inrk i (by omega)
      case zk =>
      refine ⟨i + 1, ?zg, ?zm, ⟨?zc, ?zv, ?zh, Nat.le_of_ble_eq_true rfl⟩⟩
      case zg =>
        (repeat' (first | assumption))
      case zm =>
        (repeat' (first | omega))
      case zc =>
        (repeat' (first | (refine And.intro ?_ ?_) | exact trivial | exact A.Le.refl _))
      case zv =>
        (repeat' (first | (refine And.intro ?_ ?_) | exact trivial | exact A.Le.refl _ | exact .of_eq (congrArg A.bool (hv2.trans (hst2.trans hr)))))
      case zh =>
        (repeat' (first | exact trivial))
    · have h2 : cond (raB b1 row i) (decide ((i : Int) < ((y.map Cask.c).length : Int))) false = false := h2
      have hend : raB b1 row i = false ∨ i = y.length := by
        by_cases h3 : raB b1 row i = true
        · rw [h3] at h2
          have h2 : decide ((i : Int) < ((y.map Cask.c).length : Int)) = false := h2
          have := of_decide_eq_false h2
          exact .inr (by omega)
        · exact .inl (by simpa using h3)
      have he := raB_end hk hend
      refine Aw.exit2 ?_
      refine Aw.em tab_ok mb0 [] rfl rfl ?zo ?zk
      case zo =>
        repeat' apply AllP.cons
        all_goals first | exact trivial | exact inrk m (by omega)
      case zk =>
      refine ⟨m + 1, ?zg, ?zm, ⟨?zc, ?zv, ?zh, Nat.le_of_ble_eq_true rfl⟩⟩
      case zg =>
        (repeat' (first | assumption))
      case zm =>
        (repeat' (first | omega))
      case zc =>
        (repeat' (first | (refine And.intro ?_ ?_) | exact trivial | exact A.Le.refl _))
      case zv =>
        (repeat' (first | (refine And.intro ?_ ?_) | exact trivial | exact A.Le.refl _ | exact .of_eq (congrArg A.bool (hv1.trans (hst.trans he.symm)))))
      case zh =>
        (repeat' (first | exact trivial))
  have h1 : cond (raB (plan0 plan leaks) (monB y plan leaks) m) (decide ((m : Int) < ((ints plan).length : Int))) false = false := h1
  have hend : raB (plan0 plan leaks) (monB y plan leaks) m = false ∨ m = plan.length := by
    by_cases h3 : raB (plan0 plan leaks) (monB y plan leaks) m = true
    · rw [h3] at h1
      have h1 : decide ((m : Int) < ((ints plan).length : Int)) = false := h1
      have := of_decide_eq_false h1
      exact .inr (by omega)
    · exact .inl (by simpa using h3)
  have he : raB (plan0 plan leaks) (monB y plan leaks) m = planOk y plan leaks := raB_end hk hend
  rw [he]
  refine Aw.exit2 ?_
  refine Aw.sm tab_ok mb0 [] rfl rfl ?zo ?zk
  case zo =>
    repeat' apply AllP.cons
    all_goals first | exact trivial
  case zk =>
  exact Aw.ret ⟨_, .cons (.tmp _) .nil, rfl⟩
theorem now_t (y : List Cask) (b : Bool) (hyo : YardOk y) : Ans Try.prog 74 [.sl b .any (y.map Cask.c)] (.sl false .any (ints (nowL y))) := by
  have ll : ((y.map Cask.c).length : Int) = y.length := by simp
  have fy : Free (.sl b .any (y.map Cask.c)) := free_map Cask.free _ _ _
  have uy : ∀ {m : Nat}, Under m (A.sl b .any (y.map Cask.c)) := fy.under
  have hfr : Free (.sl false .any (ints (nowL y))) := free_ints _ _ _
  have hn := hyo.n
  have hS : ∀ k, k < y.length → nowL (y.take (k + 1)) = nowL (y.take k) ++ [(ck y k).level] := fun k hk => by
    rw [List.take_succ_eq_append_getElem hk, ck_get hk]; unfold nowL; rw [List.map_append]; rfl
  refine told Try.func74 rfl rfl (Pure.of tab_ok Try.func74 rfl Try.ntmps74 rfl (all1 (fy)) (all1 (fun _ => rfl)) (by first | exact .s _ | assumption | exact .tup _ (by intro x hx; simp only [List.mem_cons, List.not_mem_nil, or_false] at hx; rcases hx with rfl | rfl | rfl | rfl <;> first | exact .s _ | (simp_all; done))) fun E hE => ?_)
  refine Aw.sm tab_ok mb0 [] rfl rfl ?zo ?zk
  case zo =>
    repeat' apply AllP.cons
    all_goals first | exact trivial
  case zk =>
  refine Aw.sm tab_ok mb0 [] rfl rfl ?zo ?zk
  case zo =>
    repeat' apply AllP.cons
    all_goals first | exact trivial
  case zk =>
  refine Aw.seq ?_
  refine Aw.sm tab_ok mb0 [] rfl rfl ?zo ?zk
  case zo =>
    repeat' apply AllP.cons
    all_goals first | exact trivial
  case zk =>
  refine Aw.block (Aw.rounds 0 hE [(0, .sl b .any (y.map Cask.c))] (fun k : Nat => [(3, grL 3 (nowL (y.take k))), (4, .int k)]) (fun k => []) (fun k => k ≤ y.length) (fun k => y.length - k) 0 ?zg ⟨?zc, ?zv, ?zh, Nat.le_of_ble_eq_true rfl⟩ ?zu (fun k zhk => ?zw) (fun k zhk => ?zx) fun k hk => ?zr)
  case zg =>
    (repeat' (first | exact Nat.zero_le _))
  case zc =>
    (repeat' (first | (refine And.intro ?_ ?_) | exact trivial | exact A.Le.refl _))
  case zv =>
    (repeat' (first | (refine And.intro ?_ ?_) | exact trivial | exact A.Le.refl _))
  case zh =>
    (repeat' (first | exact trivial))
  case zu =>
    (repeat' (first | exact trivial | exact uy | (refine And.intro ?_ ?_)))
  case zw =>
    (repeat' (first | exact trivial | exact Under.s _ | exact grL_under _ | (refine And.intro ?_ ?_)))
  case zx =>
    (repeat' (first | exact trivial))
  case zr =>
  refine Aw.seq ?_
  refine Aw.sm tab_ok mb0 [] rfl rfl ?zo ?zk
  case zo =>
    repeat' apply AllP.cons
    all_goals first | exact trivial
  case zk =>
  refine Aw.cond rfl (fun h1 => Aw.skip ?_) (fun h1 => ?_)
  · have hlt : k < y.length := by have := of_decide_eq_true h1; omega
    have hSk := hS k hlt
    have hg := cask_at hlt
    have hlk : (nowL (y.take k)).length = k := by simp [nowL]; omega
    generalize ck y k = c at *
    generalize hv1 : nowL (y.take (k + 1)) = G1 at *
    generalize nowL (y.take k) = G at *
    have hone : ∀ z ∈ [[A.int c.level]], z.length = 1 := fun z hz => by simp at hz; subst hz; rfl
    refine Aw.seq (Aw.block ?_)
    cases G with
    | nil =>
      refine Aw.em tab_ok mb0 [(3, c.c)] rfl rfl ?zo ?zk
      case zo =>
        repeat' apply AllP.cons
        all_goals first | exact trivial | exact rfl | exact Nat.le_of_ble_eq_true rfl | exact Int.natCast_nonneg _ | exact hg | exact hone
      case zk =>
      refine Aw.em tab_ok mb0 [] rfl rfl ?zo ?zk
      case zo =>
        repeat' apply AllP.cons
        all_goals first | exact trivial | exact inrk k (by omega)
      case zk =>
      refine ⟨k + 1, ?zg, ?zm, ⟨?zc, ?zv, ?zh, Nat.le_of_ble_eq_true rfl⟩⟩
      case zg =>
        (repeat' (first | assumption))
      case zm =>
        (repeat' (first | omega))
      case zc =>
        (repeat' (first | (refine And.intro ?_ ?_) | exact trivial | exact A.Le.refl _))
      case zv =>
        (repeat' (first | (refine And.intro ?_ ?_) | exact trivial | exact A.Le.refl _ | exact .of_eq (by rw [hv1, hSk]; rfl)))
      case zh =>
        (repeat' (first | exact trivial))
    | cons x t =>
      have hl1 : (ints (x :: t)).length ≤ 4 := by rw [ints_len]; omega
      have hz := ints_one (x :: t)
      refine Aw.em tab_ok mb0 [(3, c.c)] rfl rfl ?zo ?zk
      case zo =>
        repeat' apply AllP.cons
        all_goals first | exact trivial | exact rfl | exact Nat.le_of_ble_eq_true rfl | exact Int.natCast_nonneg _ | exact hg | exact hone | exact hz | exact (show ((ints (x :: t)).length + 1) * 8 ≤ 140737488355328 by omega) | exact (show (ints (x :: t)).length + 1 ≤ maxLen by unfold maxLen; omega)
      case zk =>
      refine Aw.em tab_ok mb0 [] rfl rfl ?zo ?zk
      case zo =>
        repeat' apply AllP.cons
        all_goals first | exact trivial | exact inrk k (by omega)
      case zk =>
      refine ⟨k + 1, ?zg, ?zm, ⟨?zc, ?zv, ?zh, Nat.le_of_ble_eq_true rfl⟩⟩
      case zg =>
        (repeat' (first | assumption))
      case zm =>
        (repeat' (first | omega))
      case zc =>
        (repeat' (first | (refine And.intro ?_ ?_) | exact trivial | exact A.Le.refl _))
      case zv =>
        (repeat' (first | (refine And.intro ?_ ?_) | exact trivial | exact A.Le.refl _ | exact .of_eq (show grL 3 (nowL (y.take (k + 1))) = A.sl false (.own 3) (ints (x :: t) ++ [[A.int c.level]]) by rw [hv1, hSk]; simp [grL, ints])))
      case zh =>
        (repeat' (first | exact trivial))
  have hle : k = y.length := by have := of_decide_eq_false h1; omega
  subst hle
  rw [List.take_length]
  refine Aw.exit2 ?_
  have hgr : A.Le (.sl false .any (ints (nowL y))) (grL 3 (nowL y)) := by
    have hne : nowL y ≠ [] := fun h => by have := congrArg List.length h; simp [nowL] at this; rw [this] at hn; simp at hn
    cases hq : nowL y with
    | nil => exact absurd hq hne
    | cons x t => exact .any _ _ _
  refine Aw.keep (n := 0) (cst := [(3, .sl false .any (ints (nowL y)))]) (v := []) (Hl := []) hE ?zu ?zw ?zx ⟨?zc, ?zv, ?zh, Nat.le_of_ble_eq_true rfl⟩ ?zr
  case zu =>
    (repeat' (first | exact trivial | exact (free_ints _ _ _).under | (refine And.intro ?_ ?_)))
  case zw =>
    (repeat' (first | exact trivial))
  case zx =>
    (repeat' (first | exact trivial))
  case zc =>
    (repeat' (first | (refine And.intro ?_ ?_) | exact trivial | exact hgr))
  case zv =>
    (repeat' (first | exact trivial))
  case zh =>
    (repeat' (first | exact trivial))
  case zr =>
  refine Aw.sm tab_ok mb0 [] rfl rfl ?zo ?zk
  case zo =>
    repeat' apply AllP.cons
    all_goals first | exact trivial
  case zk =>
  exact Aw.ret ⟨_, .cons (.tmp _) .nil, rfl⟩
end Go.Proofs.Ytampldajinhenaa

namespace Go.Proofs.Ytampldajinhenaa
open Go Go.AL Go.AL.Q Go.AL.Br
def monH (M : List Int) : Nat → Nat → List (Nat × B)
  | 0, _ => []
  | k + 1, cap => [(0, .cells ((M.take (k + 1)).map A.int ++ List.replicate (cap - (k + 1)) A.un))]
theorem monH_under (M : List Int) (k cap : Nat) : UnderH 1 (monH M k cap) := by
  cases k with
  | zero => trivial
  | succ k => exact ⟨⟨by decide, jB_under _ _⟩, trivial⟩
theorem jB_nms (l : List Int) (m : Nat) {D : Nat → Prop} : NmsB D (.cells (l.map A.int ++ List.replicate m A.un)) := .cells _ fun x hx => by
  rcases List.mem_append.1 hx with h | h
  · obtain ⟨v, _, rfl⟩ := List.mem_map.1 h; exact .s _
  · rw [List.mem_replicate] at h; rw [h.2]; exact .un
theorem jB_down (l : List Int) (m : Nat) : ∀ v ∈ l.map A.int ++ List.replicate m A.un, ∀ u, spareOf v u = none := fun v hv u => by
  rcases List.mem_append.1 hv with h | h
  · obtain ⟨v, _, rfl⟩ := List.mem_map.1 h; rfl
  · rw [List.mem_replicate] at h; rw [h.2]; rfl
theorem rowsJ (L : List Int) (m : Nat) : RowsAre (L.map A.int ++ List.replicate m A.un) (ints L) 1 := ⟨ints_one L, by rw [ints_len, Nat.mul_one, List.length_append, List.length_map]; omega, fun i j hi hj => by
  have h0 := (rowsI L).is i j hi hj
  rw [ints_len] at hi
  have hij : i * 1 + j < (L.map A.int).length := by rw [List.length_map]; omega
  rw [h0, List.getD_eq_getElem?_getD, List.getD_eq_getElem?_getD, List.getElem?_append_left hij]⟩
set_option maxHeartbeats 4000000 in
theorem month_s (y : List Cask) (b : Bool) (hyo : YardOk y) (lb : Bool) (lv : List Int) (hlv : LvS y.length lv) (kb : Bool) (lk : List Int) (hlk : lk.length = y.length) (hkb : ∀ i, i < y.length → 0 ≤ lk.getD i 0 ∧ lk.getD i 0 ≤ 1000) :
    SCall Try.prog 75 [.sl b .any (y.map Cask.c), .sl lb .any (ints lv), .sl kb .any (ints lk)] (ofH []) 0 (fun v H' c' => 1 ≤ c' ∧ ∃ cap m, v = .tup [.gs 0 y.length cap, .bool (okM y (fun i => lk.getD i 0) lv y.length)] ∧
      H' 0 = some (.cells ((monL (fun i => lk.getD i 0) lv y.length).map A.int ++ List.replicate m A.un)) ∧ ((monL (fun i => lk.getD i 0) lv y.length).map A.int ++ List.replicate m A.un).length = cap) := by
  have ll : ((y.map Cask.c).length : Int) = y.length := by simp
  have uy : ∀ {m : Nat}, Under m (A.sl b .any (y.map Cask.c)) := (free_map Cask.free _ _ _).under
  have uv : ∀ {m : Nat}, Under m (A.sl lb .any (ints lv)) := (free_ints _ _ _).under
  have uk : ∀ {m : Nat}, Under m (A.sl kb .any (ints lk)) := (free_ints _ _ _).under
  have hn := hyo.n
  have hvl := hlv.n
  have hMs := monL_succ (fun i => lk.getD i 0) lv
  have hOs := okM_succ y (fun i => lk.getD i 0) lv
  have hMl := monL_len (fun i => lk.getD i 0) lv y.length
  have hMt := fun k h => monL_take (fun i => lk.getD i 0) lv (k := k) (n := y.length) h
  have hO0 : okM y (fun i => lk.getD i 0) lv 0 = true := rfl
  generalize okM y (fun i => lk.getD i 0) lv = O at *
  generalize hM : monL (fun i => lk.getD i 0) lv y.length = M at *
  have hMs2 : ∀ k, k < y.length → M.take (k + 1) = M.take k ++ [mx0 (lv.getD k 0 - lk.getD k 0)] := fun k hk => by rw [hMt _ hk, hMt _ (Nat.le_of_lt hk), hMs]
  clear hMs hMt
  refine SCall.of_bodyN tab_ok Try.func75 rfl Try.ntmps75 (Nat.le_of_ble_eq_true rfl) (allC (fun _ => rfl) (allC (fun _ => rfl) (all1 fun _ => rfl))) fun E hE => ?_
  have h1e : ∀ id, 1 ≤ id → E.φ0 id = none := fun id _ => hE id (by omega)
  have h2e : ∀ id, 2 ≤ id → E.φ0 id = none := fun id _ => hE id (by omega)
  have e0 : E.φ0 0 = none := hE 0 (Nat.le_refl _)
  have hnil : ∀ {n : Nat}, Under n (A.sl true .exact []) := (Free.sl _ _ _ (fun _ h => by cases h)).under
  refine Aw.sm tab_ok mb0 [] rfl rfl ?zo ?zk
  case zo =>
    repeat' apply AllP.cons
    all_goals first | exact trivial
  case zk =>
  refine Aw.sm tab_ok mb0 [] rfl rfl ?zo ?zk
  case zo =>
    repeat' apply AllP.cons
    all_goals first | exact trivial
  case zk =>
  refine Aw.sm tab_ok mb0 [] rfl rfl ?zo ?zk
  case zo =>
    repeat' apply AllP.cons
    all_goals first | exact trivial
  case zk =>
  refine Aw.seq ?_
  refine Aw.sm tab_ok mb0 [] rfl rfl ?zo ?zk
  case zo =>
    repeat' apply AllP.cons
    all_goals first | exact trivial
  case zk =>
  refine Aw.raise (c' := 1) (Nat.le_of_ble_eq_true rfl) ?_
  refine Aw.block (Aw.rounds 1 h1e [(0, .sl b .any (y.map Cask.c)), (1, .sl lb .any (ints lv)), (2, .sl kb .any (ints lk))] (fun i : (Nat×Nat) => [(8, grV i.1 i.2), (9, .bool (O i.1)), (10, .int i.1)]) (fun i => monH M i.1 i.2) (fun i => i.1 ≤ y.length ∧ (i.1 ≠ 0 → i.1 ≤ i.2)) (fun i => y.length - i.1) (0, 0) ?zg ⟨?zc, ?zv, ?zh, Nat.le_of_ble_eq_true rfl⟩ ?zu (fun i zhk => ?zw) (fun i zhk => ?zx) fun i hk => ?zr)
  case zg =>
    (repeat' (first | exact ⟨Nat.zero_le _, fun h => absurd rfl h⟩))
  case zc =>
    (repeat' (first | (refine And.intro ?_ ?_) | exact trivial | exact A.Le.refl _))
  case zv =>
    (repeat' (first | (refine And.intro ?_ ?_) | exact trivial | exact A.Le.refl _ | exact .of_eq (congrArg A.bool hO0)))
  case zh =>
    (repeat' (first | exact trivial))
  case zu =>
    (repeat' (first | exact trivial | exact (free_ints _ _ _).under | exact uy | (refine And.intro ?_ ?_)))
  case zw =>
    (repeat' (first | exact trivial | exact Under.s _ | exact grV_under _ _ | (refine And.intro ?_ ?_)))
  case zx =>
    (repeat' (first | exact monH_under _ _ _))
  case zr =>
  obtain ⟨k, cap⟩ := i
  obtain ⟨hk, hcap⟩ := hk
  simp only at hk hcap
  refine Aw.seq ?_
  refine Aw.sm tab_ok mb0 [] rfl rfl ?zo ?zk
  case zo =>
    repeat' apply AllP.cons
    all_goals first | exact trivial
  case zk =>
  refine Aw.cond rfl (fun h1 => Aw.skip ?_) (fun h1 => ?_)
  · have hlt : k < y.length := by have := of_decide_eq_true h1; omega
    have hgc := cask_at hlt
    have hg1 := ints_getD (l := lv) (k := k) (by omega)
    have hg2 := ints_getD (l := lk) (k := k) (by omega)
    have hb1 := hlv.get hlt
    have hb2 := hkb k hlt
    have hSk := hMs2 k hlt
    have hOk := hOs k
    have hMk : (M.take k).length = k := by rw [List.length_take]; omega
    generalize ck y k = c at *
    generalize lv.getD k 0 = x at *
    generalize lk.getD k 0 = z at *
    refine Aw.seq (Aw.block ?_)
    refine Aw.sd tab_ok mixed mb0 [(2, [.int x]), (6, [.int z])] rfl (by kernel_rfl) rfl rfl ?zo ?zk
    case zo =>
      repeat' apply AllP.cons
      all_goals first | exact trivial | exact rfl | exact Nat.le_of_ble_eq_true rfl | exact Int.natCast_nonneg _ | exact hg1 | exact hg2 | exact (show inR (x - z) by simp only [inR]; omega)
    case zk =>
    generalize hw : mx0 (x - z) = w at *
    have hone : ∀ v ∈ [[A.int w]], v.length = 1 := fun v hv => by simp at hv; subst hv; rfl
    cases k with
    | zero =>
      refine Aw.keep (n := 1) (cst := [(0, .sl b .any (y.map Cask.c)), (1, .sl lb .any (ints lv)), (2, .sl kb .any (ints lk)), (9, .bool (O 0)), (10, .int ((0 : Nat) : Int)), (11, .int w), (8, .sl true .exact [])]) (v := []) (Hl := []) h1e ?zu ?zw ?zx ⟨?zc, ?zv, ?zh, Nat.le_of_ble_eq_true rfl⟩ ?zr
      case zu =>
        (repeat' (first | exact trivial | exact Under.s _ | exact (free_ints _ _ _).under | exact uy | exact hnil | (refine And.intro ?_ ?_)))
      case zw =>
        (repeat' (first | exact trivial))
      case zx =>
        (repeat' (first | exact trivial))
      case zc =>
        (repeat' (first | (refine And.intro ?_ ?_) | exact trivial | exact A.Le.refl _ | exact .of_eq (congrArg A.int hw.symm)))
      case zv =>
        (repeat' (first | exact trivial))
      case zh =>
        (repeat' (first | exact trivial))
      case zr =>
      refine Aw.ss rfl ?_
      refine RegL.partE tab_ok mb0 false 3 0 [] ?_
      conv => arg 5; whnf
      refine PartK.mk ?zo ?zk
      case zo =>
        repeat' apply AllP.cons
        all_goals first | exact trivial | exact Nat.le_of_ble_eq_true rfl
      case zk =>
      refine Does.raw rfl (DoesR.appNil tab_ok (ys := [[A.int w]]) rfl rfl rfl (fun h => by cases h) (by decide) rfl rfl (by simp) hone (Nat.le_of_ble_eq_true rfl) (Nat.le_of_ble_eq_true rfl) (fun cap1 hcap1 => ?_))
      have hc1 : 0 + 1 ≤ cap1 := hcap1
      have hcell : B.cells (([[A.int w]] : List (List A)).flatten.map A.down ++ List.replicate ((cap1 - 1) * 1) A.un) = .cells ((M.take (0 + 1)).map A.int ++ List.replicate (cap1 - (0 + 1)) A.un) := by
        rw [hSk, Nat.mul_one]; rfl
      refine RegL.partE tab_ok mb0 false 1 4 [] ?_
      conv => arg 5; whnf
      refine PartK.mk ?zo ?zk
      case zo =>
        repeat' apply AllP.cons
        all_goals first | exact trivial
      case zk =>
      refine Aw.keep (n := 2) (cst := [(0, .sl b .any (y.map Cask.c)), (1, .sl lb .any (ints lv)), (2, .sl kb .any (ints lk)), (9, .bool (O (0))), (10, .int (((0 : Nat)) : Int)), (11, .int w), (8, .gs 1 (0 + 1) cap1)]) (v := []) (Hl := [(1, .cells ((M.take (0 + 1)).map A.int ++ List.replicate (cap1 - (0 + 1)) A.un))]) h2e ?zu ?zw ?zx ⟨?zc, ?zv, ?zh, Nat.le_of_ble_eq_true rfl⟩ ?zr
      case zu =>
        (repeat' (first | exact trivial | exact Under.s _ | exact (free_ints _ _ _).under | exact uy | exact .gs _ _ _ (by decide) | (refine And.intro ?_ ?_)))
      case zw =>
        (repeat' (first | exact trivial))
      case zx =>
        (repeat' (first | exact trivial | exact Nat.le_of_ble_eq_true rfl | exact jB_under _ _ | (refine And.intro ?_ ?_)))
      case zc =>
        (repeat' (first | (refine And.intro ?_ ?_) | exact trivial | exact A.Le.refl _))
      case zv =>
        (repeat' (first | exact trivial))
      case zh =>
        (repeat' (first | (refine And.intro ?_ ?_) | exact trivial | exact congrArg some hcell))
      case zr =>
      refine Aw.renameS (id1 := 1) (id2 := 0) (j := 8) rfl rfl (by decide) rfl e0 (Nat.le_of_ble_eq_true rfl) (nms_ofLB (fun p hp => ?_)) (fun id bx hb => ?_) (fun v hv u => jB_down _ _ v hv u) ?_
      · simp only [List.nil_append, List.mem_cons, List.not_mem_nil, or_false] at hp
        rcases hp with rfl | rfl | rfl | rfl | rfl | rfl | rfl
        · exact (free_map Cask.free _ _ _).nms
        · exact (free_ints _ _ _).nms
        · exact (free_ints _ _ _).nms
        · exact .s _
        · exact .s _
        · exact .s _
        · exact .gs _ _ _ (by decide)
      · simp only [ofH, updH_apply] at hb
        split at hb
        · cases hb; exact jB_nms _ _
        · cases hb
      refine Aw.em tab_ok mb0 [(5, c.c)] rfl rfl ?zo ?zk
      case zo =>
        repeat' apply AllP.cons
        all_goals first | exact trivial | exact id | exact fun _ => rfl | exact fun _ => Nat.le_of_ble_eq_true rfl | exact fun _ => Int.natCast_nonneg _ | exact fun _ => hgc
      case zk =>
      refine Aw.em tab_ok mb0 [] rfl rfl ?zo ?zk
      case zo =>
        repeat' apply AllP.cons
        all_goals first | exact trivial | exact inrk 0 (by decide)
      case zk =>
      refine ⟨(0 + 1, cap1), ?zg, ?zm, ⟨?zc, ?zv, ?zh, Nat.le_of_ble_eq_true rfl⟩⟩
      case zg =>
        (repeat' (first | omega))
      case zm =>
        (repeat' (first | omega))
      case zc =>
        (repeat' (first | (refine And.intro ?_ ?_) | exact trivial | exact A.Le.refl _))
      case zv =>
        (repeat' (first | (refine And.intro ?_ ?_) | exact trivial | exact A.Le.refl _ | exact .of_eq (congrArg A.bool hOk)))
      case zh =>
        (repeat' (first | (refine And.intro ?_ ?_) | exact trivial | exact rfl))
    | succ k =>
      have hcap := hcap (by omega)
      refine Aw.keep (n := 1) (cst := [(0, .sl b .any (y.map Cask.c)), (1, .sl lb .any (ints lv)), (2, .sl kb .any (ints lk)), (9, .bool (O (k + 1))), (10, .int (((k + 1 : Nat)) : Int)), (11, .int w), (8, .gs 0 (k + 1) cap)]) (v := []) (Hl := [(0, .cells ((M.take (k + 1)).map A.int ++ List.replicate (cap - (k + 1)) A.un))]) h1e ?zu ?zw ?zx ⟨?zc, ?zv, ?zh, Nat.le_of_ble_eq_true rfl⟩ ?zr
      case zu =>
        (repeat' (first | exact trivial | exact Under.s _ | exact (free_ints _ _ _).under | exact uy | exact .gs _ _ _ (by decide) | (refine And.intro ?_ ?_)))
      case zw =>
        (repeat' (first | exact trivial))
      case zx =>
        (repeat' (first | exact trivial | exact Nat.le_of_ble_eq_true rfl | exact jB_under _ _ | (refine And.intro ?_ ?_)))
      case zc =>
        (repeat' (first | (refine And.intro ?_ ?_) | exact trivial | exact A.Le.refl _ | exact .of_eq (congrArg A.int hw.symm)))
      case zv =>
        (repeat' (first | exact trivial))
      case zh =>
        (repeat' (first | (refine And.intro ?_ ?_) | exact trivial | exact rfl))
      case zr =>
      have hcl : ((M.take (k + 1)).map A.int ++ List.replicate (cap - (k + 1)) A.un).length = cap * 1 := by
        rw [List.length_append, List.length_map, List.length_replicate, hMk]; omega
      have hml : ((M.take (k + 1)).map A.int).length = k + 1 := by rw [List.length_map]; exact hMk
      have hdn : ∀ l : List Int, (l.map A.int).map A.down = l.map A.int := fun l => map_down_int l
      refine Aw.ss rfl ?_
      refine RegL.partE tab_ok mb0 false 3 0 [] ?_
      conv => arg 5; whnf
      refine PartK.mk ?zo ?zk
      case zo =>
        repeat' apply AllP.cons
        all_goals first | exact trivial | exact Nat.le_of_ble_eq_true rfl
      case zk =>
      refine Does.raw rfl (DoesR.appGs tab_ok (ys := [[A.int w]]) (id := 0) (n := k + 1) (cap := cap) rfl rfl rfl (fun h => by cases h) (by decide) rfl rfl hcl rfl (by simp) hone (show (k + 1 + 1) * 8 ≤ 140737488355328 by omega) (show k + 1 + 1 ≤ maxLen by unfold maxLen; omega) (fun hroom => ?_) (fun cap1 hcap1 => ?_))
      · have hc1 : k + 1 + 1 ≤ cap := hroom
        have hcell : B.cells (setSeg ((M.take (k + 1)).map A.int ++ List.replicate (cap - (k + 1)) A.un) ((k + 1) * 1) (([[A.int w]] : List (List A)).flatten.map A.down)) = .cells ((M.take (k + 1 + 1)).map A.int ++ List.replicate (cap - (k + 1 + 1)) A.un) := by
          have e1 : setSeg ((M.take (k + 1)).map A.int ++ List.replicate (cap - (k + 1)) A.un) ((k + 1) * 1) [A.int w] = (M.take (k + 1)).map A.int ++ ((List.replicate (cap - (k + 1)) A.un).set 0 (A.int w)) := by
            have := setSeg_app (l := (M.take (k + 1)).map A.int) (r := List.replicate (cap - (k + 1)) A.un) (v := A.int w) (i := 0) (by rw [List.length_replicate]; omega)
            rw [hml, Nat.add_zero] at this
            rw [Nat.mul_one]; exact this
          show B.cells (setSeg _ _ [A.int w]) = _
          rw [e1, hSk, List.map_append, List.append_assoc]
          congr 2
          obtain ⟨q, hq⟩ : ∃ q, cap - (k + 1) = q + 1 := ⟨cap - (k + 1) - 1, by omega⟩
          rw [hq, show cap - (k + 1 + 1) = q by omega]; rfl
        refine RegL.partE tab_ok mb0 false 1 4 [] ?_
        conv => arg 5; whnf
        refine PartK.mk ?zo ?zk
        case zo =>
          repeat' apply AllP.cons
          all_goals first | exact trivial
        case zk =>
        refine Aw.em tab_ok mb0 [(5, c.c)] rfl rfl ?zo ?zk
        case zo =>
          repeat' apply AllP.cons
          all_goals first | exact trivial | exact id | exact fun _ => rfl | exact fun _ => Nat.le_of_ble_eq_true rfl | exact fun _ => Int.natCast_nonneg _ | exact fun _ => hgc
        case zk =>
        refine Aw.em tab_ok mb0 [] rfl rfl ?zo ?zk
        case zo =>
          repeat' apply AllP.cons
          all_goals first | exact trivial | exact inrk (k + 1) (by omega)
        case zk =>
        refine ⟨(k + 1 + 1, cap), ?zg, ?zm, ⟨?zc, ?zv, ?zh, Nat.le_of_ble_eq_true rfl⟩⟩
        case zg =>
          (repeat' (first | omega))
        case zm =>
          (repeat' (first | omega))
        case zc =>
          (repeat' (first | (refine And.intro ?_ ?_) | exact trivial | exact A.Le.refl _))
        case zv =>
          (repeat' (first | (refine And.intro ?_ ?_) | exact trivial | exact A.Le.refl _ | exact .of_eq (congrArg A.bool hOk)))
        case zh =>
          (repeat' (first | (refine And.intro ?_ ?_) | exact trivial | exact congrArg some hcell))
      · have hc1 : k + 1 + 1 ≤ cap1 := hcap1
        have hcell : B.cells (((((M.take (k + 1)).map A.int ++ List.replicate (cap - (k + 1)) A.un).take ((k + 1) * 1)).map A.down ++ ([[A.int w]] : List (List A)).flatten.map A.down ++ List.replicate ((cap1 - (k + 1 + 1)) * 1) A.un)) = .cells ((M.take (k + 1 + 1)).map A.int ++ List.replicate (cap1 - (k + 1 + 1)) A.un) := by
          show B.cells ((((M.take (k + 1)).map A.int ++ List.replicate (cap - (k + 1)) A.un).take ((k + 1) * 1)).map A.down ++ [A.int w] ++ List.replicate ((cap1 - (k + 1 + 1)) * 1) A.un) = _
          rw [Nat.mul_one, Nat.mul_one, take_app _ hml, hdn, hSk, List.map_append]; rfl
        refine RegL.partE tab_ok mb0 false 1 4 [] ?_
        conv => arg 5; whnf
        refine PartK.mk ?zo ?zk
        case zo =>
          repeat' apply AllP.cons
          all_goals first | exact trivial
        case zk =>
        refine Aw.keep (n := 2) (cst := [(0, .sl b .any (y.map Cask.c)), (1, .sl lb .any (ints lv)), (2, .sl kb .any (ints lk)), (9, .bool (O (k + 1))), (10, .int (((k + 1 : Nat)) : Int)), (11, .int w), (8, .gs 1 (k + 1 + 1) cap1)]) (v := []) (Hl := [(1, .cells ((M.take (k + 1 + 1)).map A.int ++ List.replicate (cap1 - (k + 1 + 1)) A.un))]) h2e ?zu ?zw ?zx ⟨?zc, ?zv, ?zh, Nat.le_of_ble_eq_true rfl⟩ ?zr
        case zu =>
          (repeat' (first | exact trivial | exact Under.s _ | exact (free_ints _ _ _).under | exact uy | exact .gs _ _ _ (by decide) | (refine And.intro ?_ ?_)))
        case zw =>
          (repeat' (first | exact trivial))
        case zx =>
          (repeat' (first | exact trivial | exact Nat.le_of_ble_eq_true rfl | exact jB_under _ _ | (refine And.intro ?_ ?_)))
        case zc =>
          (repeat' (first | (refine And.intro ?_ ?_) | exact trivial | exact A.Le.refl _))
        case zv =>
          (repeat' (first | exact trivial))
        case zh =>
          (repeat' (first | (refine And.intro ?_ ?_) | exact trivial | exact congrArg some hcell))
        case zr =>
        refine Aw.renameS (id1 := 1) (id2 := 0) (j := 8) rfl rfl (by decide) rfl e0 (Nat.le_of_ble_eq_true rfl) (nms_ofLB (fun p hp => ?_)) (fun id bx hb => ?_) (fun v hv u => jB_down _ _ v hv u) ?_
        · simp only [List.nil_append, List.mem_cons, List.not_mem_nil, or_false] at hp
          rcases hp with rfl | rfl | rfl | rfl | rfl | rfl | rfl
          · exact (free_map Cask.free _ _ _).nms
          · exact (free_ints _ _ _).nms
          · exact (free_ints _ _ _).nms
          · exact .s _
          · exact .s _
          · exact .s _
          · exact .gs _ _ _ (by decide)
        · simp only [ofH, updH_apply] at hb
          split at hb
          · cases hb; exact jB_nms _ _
          · cases hb
        refine Aw.em tab_ok mb0 [(5, c.c)] rfl rfl ?zo ?zk
        case zo =>
          repeat' apply AllP.cons
          all_goals first | exact trivial | exact id | exact fun _ => rfl | exact fun _ => Nat.le_of_ble_eq_true rfl | exact fun _ => Int.natCast_nonneg _ | exact fun _ => hgc
        case zk =>
        refine Aw.em tab_ok mb0 [] rfl rfl ?zo ?zk
        case zo =>
          repeat' apply AllP.cons
          all_goals first | exact trivial | exact inrk (k + 1) (by omega)
        case zk =>
        refine ⟨(k + 1 + 1, cap1), ?zg, ?zm, ⟨?zc, ?zv, ?zh, Nat.le_of_ble_eq_true rfl⟩⟩
        case zg =>
          (repeat' (first | omega))
        case zm =>
          (repeat' (first | omega))
        case zc =>
          (repeat' (first | (refine And.intro ?_ ?_) | exact trivial | exact A.Le.refl _))
        case zv =>
          (repeat' (first | (refine And.intro ?_ ?_) | exact trivial | exact A.Le.refl _ | exact .of_eq (congrArg A.bool hOk)))
        case zh =>
          (repeat' (first | (refine And.intro ?_ ?_) | exact trivial | exact rfl))
  · have hle : k = y.length := by have := of_decide_eq_false h1; omega
    subst hle
    refine Aw.exit2 ?_
    cases hkz : y.length with
    | zero => omega
    | succ k =>
    refine Aw.sm tab_ok mb0 [] rfl rfl ?zo ?zk
    case zo =>
      repeat' apply AllP.cons
      all_goals first | exact trivial
    case zk =>
    have hcap := hcap (by omega)
    have hMa : M.take (k + 1) = M := by rw [← hkz, ← hMl, List.take_length]
    refine Aw.ret ⟨_, .cons (.tmp _) (.cons (.tmp _) .nil), Nat.le_of_ble_eq_true rfl, cap, cap - (k + 1), rfl, ?_, ?_⟩
    · show some (B.cells ((M.take (k + 1)).map A.int ++ List.replicate (cap - (k + 1)) A.un)) = _
      rw [hMa]
    · rw [List.length_append, List.length_map, List.length_replicate, hMl]; omega
set_option maxHeartbeats 4000000 in
theorem rRun_t (y : List Cask) (b : Bool) (hy : (y.length : Int) ≤ 9223372036854775806) (pb : Bool) (plan : List Int) (hp : (plan.length : Int) ≤ 9223372036854775806) (lb : Bool) (leaks : List NL) :
    Ans Try.prog 24 [.sl b .any (y.map Cask.c), .sl pb .any (ints plan), .sl lb .any (leaks.map NL.c)] (.tup [outW (RunR y plan leaks).1, .int (RunR y plan leaks).2.1, .int (RunR y plan leaks).2.2]) := by
  rw [← rRun_is]
  have ll : ((y.map Cask.c).length : Int) = y.length := by simp
  have lp := ints_lenI plan
  have lk : ((leaks.map NL.c).length : Int) = leaks.length := by simp
  have fy : Free (.sl b .any (y.map Cask.c)) := free_map Cask.free _ _ _
  have fp : Free (.sl pb .any (ints plan)) := free_ints _ _ _
  have fl : Free (.sl lb .any (leaks.map NL.c)) := free_map NL.free _ _ _
  have hfr : Free (.tup [outW (rRunR y plan leaks).1, .int (rRunR y plan leaks).2.1, .int (rRunR y plan leaks).2.2]) := .tup _ (allC (outW_free _) (allC (.s _) (all1 (.s _))))
  have uy : ∀ {m : Nat}, Under m (A.sl b .any (y.map Cask.c)) := fy.under
  have up : ∀ {m : Nat}, Under m (A.sl pb .any (ints plan)) := fp.under
  have ul : ∀ {m : Nat}, Under m (A.sl lb .any (leaks.map NL.c)) := fl.under
  have hchk := ryard_t y b hy
  refine Ans_out (v := .tup [(if (rRunR y plan leaks).2.2 = 0 then .sl false .any (ints (rRunR y plan leaks).1) else .sl true .exact []), .int (rRunR y plan leaks).2.1, .int (rRunR y plan leaks).2.2]) ?_ ?_
  rotate_left
  · refine leT3 ?_ (.refl _) (.refl _)
    unfold rRunR
    by_cases hyo : yardOk y = true
    · rw [if_pos hyo]
      by_cases hpo : planOk y plan leaks = true
      · rw [if_pos hpo, if_pos rfl]
        have hY := yardOk_iff.1 hyo
        have hP := planOk_iff.1 hpo
        have hne : (runSp y (lkOf leaks) plan 0 (nowL y)).1.isEmpty = false := by
          have hl := runSp_len (of := lkOf leaks) plan 0 (nowL y) (List.length_map _)
          have hn := hY.n
          cases hq : (runSp y (lkOf leaks) plan 0 (nowL y)).1 with
          | nil => rw [hq] at hl; simp at hl; omega
          | cons x t => rfl
        unfold outW
        rw [hne]; exact .refl _
      · rw [if_neg hpo, if_neg (show ¬ (62 : Int) = 0 by decide)]; exact .any _ _ _
    · rw [if_neg hyo, if_neg (show ¬ (61 : Int) = 0 by decide)]; exact .any _ _ _
  clear hfr
  have hfr : Free (.tup [(if (rRunR y plan leaks).2.2 = 0 then .sl false .any (ints (rRunR y plan leaks).1) else .sl true .exact []), .int (rRunR y plan leaks).2.1, .int (rRunR y plan leaks).2.2]) := by
    refine .tup _ (allC ?_ (allC (.s _) (all1 (.s _))))
    split
    · exact free_ints _ _ _
    · exact .sl _ _ _ (fun _ h => by cases h)
  refine told Try.func24 rfl rfl (Pure.of tab_ok Try.func24 rfl Try.ntmps24 rfl (allC fy (allC fp (all1 fl))) (allC (fun _ => rfl) (allC (fun _ => rfl) (all1 fun _ => rfl))) hfr fun E hE => ?_)
  clear hfr
  have h1e : ∀ id, 1 ≤ id → E.φ0 id = none := fun id _ => hE id (by omega)
  refine Aw.sm tab_ok mb0 [] rfl rfl ?zo ?zk
  case zo =>
    repeat' apply AllP.cons
    all_goals first | exact trivial
  case zk =>
  by_cases hyo : yardOk y = true
  rotate_left
  · have e : rRunR y plan leaks = ([], 0, 61) := by unfold rRunR; rw [if_neg hyo]
    have e2 : yardChk y = 61 := by unfold yardChk; rw [if_neg hyo]
    rw [e2] at hchk
    rw [e, if_neg (show ¬ (([], 0, 61) : List Int × Int × Int).2.2 = 0 by decide)]
    refine Aw.seq ?_
    refine Aw.sm tab_ok mb0 [(1, [.int 61])] rfl rfl ?zo ?zk
    case zo =>
      repeat' apply AllP.cons
      all_goals first | exact trivial | exact hchk
    case zk =>
    refine Aw.sm tab_ok mb0 [] rfl rfl ?zo ?zk
    case zo =>
      repeat' apply AllP.cons
      all_goals first | exact trivial
    case zk =>
    refine Aw.cond rfl (fun h => ?_) (fun h => by cases h)
    refine Aw.sm tab_ok mb0 [] rfl rfl ?zo ?zk
    case zo =>
      repeat' apply AllP.cons
      all_goals first | exact trivial
    case zk =>
    exact Aw.ret ⟨_, .cons (.tmp _) (.cons (.tmp _) (.cons (.tmp _) .nil)), rfl⟩
  have e2 : yardChk y = 0 := by unfold yardChk; rw [if_pos hyo]
  rw [e2] at hchk
  have hY := yardOk_iff.1 hyo
  have hn := hY.n
  have hpl := isPlan_t y b hY pb plan hp lb leaks
  refine Aw.seq ?_
  refine Aw.sm tab_ok mb0 [(1, [.int 0])] rfl rfl ?zo ?zk
  case zo =>
    repeat' apply AllP.cons
    all_goals first | exact trivial | exact hchk
  case zk =>
  refine Aw.sm tab_ok mb0 [] rfl rfl ?zo ?zk
  case zo =>
    repeat' apply AllP.cons
    all_goals first | exact trivial
  case zk =>
  refine Aw.cond rfl (fun h => by cases h) (fun h => Aw.skip ?_)
  refine Aw.seq ?_
  refine Aw.sm tab_ok mb0 [(3, [.bool (planOk y plan leaks)])] rfl rfl ?zo ?zk
  case zo =>
    repeat' apply AllP.cons
    all_goals first | exact trivial | exact hpl
  case zk =>
  by_cases hpo : planOk y plan leaks = true
  rotate_left
  · have e : rRunR y plan leaks = ([], 0, 62) := by unfold rRunR; rw [if_pos hyo, if_neg hpo]
    have hpo : planOk y plan leaks = false := by simpa using hpo
    rw [e, hpo, if_neg (show ¬ (([], 0, 62) : List Int × Int × Int).2.2 = 0 by decide)]
    refine Aw.cond rfl (fun h => ?_) (fun h => by cases h)
    refine Aw.sm tab_ok mb0 [] rfl rfl ?zo ?zk
    case zo =>
      repeat' apply AllP.cons
      all_goals first | exact trivial
    case zk =>
    exact Aw.ret ⟨_, .cons (.tmp _) (.cons (.tmp _) (.cons (.tmp _) .nil)), rfl⟩
  have hP := planOk_iff.1 hpo
  have e : rRunR y plan leaks = ((runSp y (lkOf leaks) plan 0 (nowL y)).1, (runSp y (lkOf leaks) plan 0 (nowL y)).2, 0) := by unfold rRunR; rw [if_pos hyo, if_pos hpo]
  rw [e, hpo, if_pos rfl]
  refine Aw.cond rfl (fun h => by cases h) (fun h => Aw.skip ?_)
  refine Aw.sm tab_ok mb0 [(1, [.sl false .any (ints (nowL y))])] rfl rfl ?zo ?zk
  case zo =>
    repeat' apply AllP.cons
    all_goals first | exact trivial | exact now_t y b hY
  case zk =>
  generalize hR : runSp y (lkOf leaks) plan 0 (nowL y) = R at *
  refine Aw.seq ?_
  refine Aw.sm tab_ok mb0 [] rfl rfl ?zo ?zk
  case zo =>
    repeat' apply AllP.cons
    all_goals first | exact trivial
  case zk =>
  refine Aw.block (Aw.rounds 0 hE [(0, .sl b .any (y.map Cask.c)), (1, .sl pb .any (ints plan)), (2, .sl lb .any (leaks.map NL.c))] (fun i : (Nat×List Int) => [(10, .sl false .any (ints i.2)), (11, .int i.1)]) (fun i => []) (fun i => i.1 ≤ plan.length ∧ LvS y.length i.2 ∧ runSp y (lkOf leaks) (plan.drop i.1) i.1 i.2 = R) (fun i => plan.length - i.1) (0, nowL y) ?zg ⟨?zc, ?zv, ?zh, Nat.le_of_ble_eq_true rfl⟩ ?zu (fun i zhk => ?zw) (fun i zhk => ?zx) fun i hk => ?zr)
  case zg =>
    (repeat' (first | exact ⟨Nat.zero_le _, now_ok hY.c, hR⟩))
  case zc =>
    (repeat' (first | (refine And.intro ?_ ?_) | exact trivial | exact A.Le.refl _))
  case zv =>
    (repeat' (first | (refine And.intro ?_ ?_) | exact trivial | exact A.Le.refl _))
  case zh =>
    (repeat' (first | exact trivial))
  case zu =>
    (repeat' (first | exact trivial | exact (free_ints _ _ _).under | exact uy | exact ul | (refine And.intro ?_ ?_)))
  case zw =>
    (repeat' (first | exact trivial | exact Under.s _ | exact (free_ints _ _ _).under | (refine And.intro ?_ ?_)))
  case zx =>
    (repeat' (first | exact trivial))
  case zr =>
  obtain ⟨m, lv⟩ := i
  obtain ⟨hk, hlv, hrun⟩ := hk
  simp only at hk hlv hrun
  have uv : ∀ {m : Nat}, Under m (A.sl false .any (ints lv)) := (free_ints _ _ _).under
  refine Aw.seq ?_
  refine Aw.sm tab_ok mb0 [] rfl rfl ?zo ?zk
  case zo =>
    repeat' apply AllP.cons
    all_goals first | exact trivial
  case zk =>
  refine Aw.cond rfl (fun h1 => Aw.skip ?_) (fun h1 => ?_)
  · have hlt : m < plan.length := by have := of_decide_eq_true h1; omega
    have hpm := hP.p m hlt
    have hrm := hP.r m hlt
    have hbm := fun i hi => hP.b m i hlt hi
    have hg := nl_at (show m < leaks.length by rw [hP.l]; exact hlt)
    have hgp := ints_getD hlt
    have hdr : plan.drop m = plan.getD m 0 :: plan.drop (m + 1) := by rw [List.drop_eq_getElem_cons hlt]; simp [List.getD_eq_getElem?_getD, hlt]
    rw [hdr, runSp] at hrun
    have hlk : lkOf leaks m = fun i => (leaks.getD m ⟨true, []⟩).l.getD i 0 := rfl
    have hof : ∀ i, i < y.length → 0 ≤ lkOf leaks m i ∧ lkOf leaks m i ≤ 1000 := fun i hi => by
      have := hbm i hi
      have := ck_ok hY.c i
      omega
    rw [hlk] at hrun hof
    generalize leaks.getD m ⟨true, []⟩ = x at *
    have hmon := hlv.month (of := fun i => x.l.getD i 0) (fun i hi => (hof i hi).1)
    have hcall := month_s y b hY false lv hlv x.n x.l hrm hof
    have hml := monL_len (fun i => x.l.getD i 0) lv y.length
    generalize plan.getD m 0 = top at *
    generalize okM y (fun i => x.l.getD i 0) lv y.length = ok at *
    generalize monL (fun i => x.l.getD i 0) lv y.length = M at *
    refine Aw.seq (Aw.block ?_)
    refine Aw.keep (n := 0) (cst := [(0, .sl b .any (y.map Cask.c)), (1, .sl pb .any (ints plan)), (2, .sl lb .any (leaks.map NL.c)), (10, .sl false .any (ints lv)), (11, .int m)]) (v := []) (Hl := []) hE ?zu ?zw ?zx ⟨?zc, ?zv, ?zh, Nat.le_of_ble_eq_true rfl⟩ ?zr
    case zu =>
      (repeat' (first | exact trivial | exact Under.s _ | exact (free_ints _ _ _).under | exact uy | exact ul | (refine And.intro ?_ ?_)))
    case zw =>
      (repeat' (first | exact trivial))
    case zx =>
      (repeat' (first | exact trivial))
    case zc =>
      (repeat' (first | (refine And.intro ?_ ?_) | exact trivial | exact A.Le.refl _))
    case zv =>
      (repeat' (first | exact trivial))
    case zh =>
      (repeat' (first | exact trivial))
    case zr =>
    refine Aw.ss rfl ?_
    refine RegL.partE tab_ok mb0 false 6 0 [(4, x.c)] ?_
    conv => arg 5; whnf
    refine PartK.mk ?zo ?zk
    case zo =>
      repeat' apply AllP.cons
      all_goals first | exact trivial | exact rfl | exact Nat.le_of_ble_eq_true rfl | exact Int.natCast_nonneg _ | exact hg
    case zk =>
    refine Does.raw rfl (DoesR.call (fst := []) (cap := []) rfl rfl (enters_of Try.func75 rfl rfl) hcall ?_)
    rintro v' H' c' ⟨hc, cap, mj, rfl, hj, hjl⟩
    refine RegL.partE tab_ok mb0 false 5 7 [] ?_
    conv => arg 5; whnf
    refine PartK.mk ?zo ?zk
    case zo =>
      repeat' apply AllP.cons
      all_goals first | exact trivial
    case zk =>
    refine Aw.keep (n := 1) (cst := [(0, .sl b .any (y.map Cask.c)), (1, .sl pb .any (ints plan)), (2, .sl lb .any (leaks.map NL.c)), (11, .int m), (12, .gs 0 y.length cap), (13, .bool ok)]) (v := []) (Hl := [(0, .cells (M.map A.int ++ List.replicate mj A.un))]) h1e ?zu ?zw ?zx ⟨?zc, ?zv, ?zh, hc⟩ ?zr
    case zu =>
      (repeat' (first | exact trivial | exact Under.s _ | exact (free_ints _ _ _).under | exact uy | exact ul | exact .gs _ _ _ (by decide) | (refine And.intro ?_ ?_)))
    case zw =>
      (repeat' (first | exact trivial))
    case zx =>
      (repeat' (first | exact trivial | exact Nat.le_of_ble_eq_true rfl | exact jB_under _ _ | (refine And.intro ?_ ?_)))
    case zc =>
      (repeat' (first | (refine And.intro ?_ ?_) | exact trivial | exact A.Le.refl _))
    case zv =>
      (repeat' (first | exact trivial))
    case zh =>
      (repeat' (first | (refine And.intro ?_ ?_) | exact trivial | exact hj))
    case zr =>
    refine Aw.sm tab_ok mb0 [] rfl rfl ?zo ?zk
    case zo =>
      repeat' apply AllP.cons
      all_goals first | exact trivial
    case zk =>
    cases ok with
    | false =>
      have hrun : (M, (m : Int)) = R := hrun
      subst hrun
      refine Aw.freezeG (id := 0) (t := 10) (n := y.length) (cap := cap) (sz := 1) (ints M) rfl rfl (rowsJ _ _) (by rw [ints_len]; exact hml) ?_
      refine Aw.seq ?_
      refine Aw.sm tab_ok mb0 [] rfl rfl ?zo ?zk
      case zo =>
        repeat' apply AllP.cons
        all_goals first | exact trivial
      case zk =>
      refine Aw.cond rfl (fun _ => ?_) (fun h => by cases h)
      refine Aw.sm tab_ok mb0 [] rfl rfl ?zo ?zk
      case zo =>
        repeat' apply AllP.cons
        all_goals first | exact trivial
      case zk =>
      exact Aw.ret ⟨_, .cons (.tmp _) (.cons (.tmp _) (.cons (.tmp _) .nil)), rfl⟩
    | true =>
      have hrun : runSp y (lkOf leaks) (plan.drop (m + 1)) (m + 1) (fillS y M top) = R := hrun
      have hfill := hmon.fill hY.c top
      refine Aw.seq ?_
      refine Aw.sm tab_ok mb0 [] rfl rfl ?zo ?zk
      case zo =>
        repeat' apply AllP.cons
        all_goals first | exact trivial
      case zk =>
      refine Aw.cond rfl (fun h => by cases h) (fun _ => Aw.skip ?_)
      refine Aw.sm tab_ok mb0 [(2, [.int top])] rfl rfl ?zo ?zk
      case zo =>
        repeat' apply AllP.cons
        all_goals first | exact trivial | exact rfl | exact Nat.le_of_ble_eq_true rfl | exact Int.natCast_nonneg _ | exact hgp
      case zk =>
      refine Aw.cond rfl (fun h2 => ?_) (fun h2 => Aw.skip ?_)
      · have h2 : top ≥ 0 := of_decide_eq_true h2
        have ef : fillS y M top = M.set top.toNat (ck y top.toNat).full := by unfold fillS; rw [if_pos h2]
        rw [ef] at hrun hfill
        have hfl := hfill.n
        have hgc := cask_at (show top.toNat < y.length by omega)
        generalize ck y top.toNat = c at *
        refine Aw.keep (n := 1) (cst := [(0, .sl b .any (y.map Cask.c)), (1, .sl pb .any (ints plan)), (2, .sl lb .any (leaks.map NL.c)), (11, .int m), (10, .ms 0 0 y.length)]) (v := []) (Hl := [(0, .cells (M.map A.int ++ List.replicate mj A.un))]) h1e ?zu ?zw ?zx ⟨?zc, ?zv, ?zh, Nat.le_of_ble_eq_true rfl⟩ ?zr
        case zu =>
          (repeat' (first | exact trivial | exact Under.s _ | exact (free_ints _ _ _).under | exact Under.ms _ _ _ (by decide) | exact uy | exact ul | (refine And.intro ?_ ?_)))
        case zw =>
          (repeat' (first | exact trivial))
        case zx =>
          (repeat' (first | exact trivial | exact Nat.le_of_ble_eq_true rfl | exact jB_under _ _ | (refine And.intro ?_ ?_)))
        case zc =>
          (repeat' (first | (refine And.intro ?_ ?_) | exact trivial | exact A.Le.refl _ | exact A.Le.ms _ _ _))
        case zv =>
          (repeat' (first | exact trivial))
        case zh =>
          (repeat' (first | (refine And.intro ?_ ?_) | exact trivial | exact rfl))
        case zr =>
        refine Aw.weaken (S' := _) (H' := ofH [(0, iB M)]) (c' := 1) (fun _ => .refl _) (fun id bx hb => ?_) (Nat.le_refl _) ?_
        · simp only [ofH, updH_apply] at hb ⊢
          split at hb
          · rename_i e
            cases hb
            rw [if_pos e]
            exact ⟨_, rfl, B.Le.front⟩
          · cases hb
        have hs1 := congrArg (fun x => some (B.cells x)) (set_cellsI (l := M) (k := top.toNat) (v := c.full) (by omega))
        have r2 : 0 + top.toNat * 1 + 1 ≤ (M.map A.int).length := by rw [List.length_map, hml]; omega
        have r3 : 0 + top.toNat * 1 < (M.map A.int).length := by omega
        have r4 : top < ((y.length : Nat) : Int) := by omega
        refine Aw.ed tab_ok mixed mb0 [(3, [.int top]), (8, [.int top]), (10, c.c)] rfl (by kernel_rfl) rfl rfl ?zo ?zk
        case zo =>
          repeat' apply AllP.cons
          all_goals first | exact trivial | exact rfl | exact Nat.le_of_ble_eq_true rfl | exact Int.natCast_nonneg _ | exact hgp | exact hgc | exact r2 | exact r4 | exact h2
        case zk =>
        refine Aw.freezeS (id := 0) (t := 10) (n := y.length) (sz := 1) (cs := (M.set top.toNat c.full).map A.int) (ints (M.set top.toNat c.full)) hs1 rfl (rowsI _) (by rw [ints_len]; exact hfl) ?_
        refine Aw.em tab_ok mb0 [] rfl rfl ?zo ?zk
        case zo =>
          repeat' apply AllP.cons
          all_goals first | exact trivial | exact inrk m (by omega)
        case zk =>
        refine ⟨(m + 1, M.set top.toNat c.full), ?zg, ?zm, ⟨?zc, ?zv, ?zh, Nat.le_of_ble_eq_true rfl⟩⟩
        case zg =>
          (repeat' (first | exact ⟨hlt, hfill, hrun⟩))
        case zm =>
          (repeat' (first | omega))
        case zc =>
          (repeat' (first | (refine And.intro ?_ ?_) | exact trivial | exact A.Le.refl _))
        case zv =>
          (repeat' (first | (refine And.intro ?_ ?_) | exact trivial | exact A.Le.refl _))
        case zh =>
          (repeat' (first | exact trivial))
      · have h2 : ¬ top ≥ 0 := of_decide_eq_false h2
        have ef : fillS y M top = M := by unfold fillS; rw [if_neg h2]
        rw [ef] at hrun hfill
        refine Aw.freezeG (id := 0) (t := 10) (n := y.length) (cap := cap) (sz := 1) (ints M) rfl rfl (rowsJ _ _) (by rw [ints_len]; exact hml) ?_
        refine Aw.em tab_ok mb0 [] rfl rfl ?zo ?zk
        case zo =>
          repeat' apply AllP.cons
          all_goals first | exact trivial | exact inrk m (by omega)
        case zk =>
        refine ⟨(m + 1, M), ?zg, ?zm, ⟨?zc, ?zv, ?zh, Nat.le_of_ble_eq_true rfl⟩⟩
        case zg =>
          (repeat' (first | exact ⟨hlt, hfill, hrun⟩))
        case zm =>
          (repeat' (first | omega))
        case zc =>
          (repeat' (first | (refine And.intro ?_ ?_) | exact trivial | exact A.Le.refl _))
        case zv =>
          (repeat' (first | (refine And.intro ?_ ?_) | exact trivial | exact A.Le.refl _))
        case zh =>
          (repeat' (first | exact trivial))
  · have hle : m = plan.length := by have := of_decide_eq_false h1; omega
    subst hle
    rw [List.drop_length] at hrun
    have hrun : (lv, (-1 : Int)) = R := hrun
    subst hrun
    refine Aw.exit2 ?_
    refine Aw.sm tab_ok mb0 [] rfl rfl ?zo ?zk
    case zo =>
      repeat' apply AllP.cons
      all_goals first | exact trivial
    case zk =>
    exact Aw.ret ⟨_, .cons (.tmp _) (.cons (.tmp _) (.cons (.tmp _) .nil)), rfl⟩
end Go.Proofs.Ytampldajinhenaa

namespace Go.Proofs.Ytampldajinhenaa
open Go Go.AL Go.AL.Q Go.AL.Br
theorem RunR_len (y : List Cask) (plan : List Int) (leaks : List NL) : (RunR y plan leaks).1.length ≤ 4 := by
  rw [← rRun_is]
  unfold rRunR
  by_cases h1 : yardOk y = true
  · rw [if_pos h1]
    have hn := (yardOk_iff.1 h1).n
    by_cases h2 : planOk y plan leaks = true
    · rw [if_pos h2]
      have := runSp_len (of := lkOf leaks) plan 0 (nowL y) (List.length_map _)
      show (runSp y (lkOf leaks) plan 0 (nowL y)).1.length ≤ 4
      omega
    · rw [if_neg h2]; exact Nat.zero_le _
  · rw [if_neg h1]; exact Nat.zero_le _
theorem runs_l (b : Bool) (y : List Cask) (pb : Bool) (plan : List Int) (lb : Bool) (leaks : List NL) (hy : (y.length : Int) ≤ 9223372036854775806) (hp : (plan.length : Int) ≤ 9223372036854775806) (_ : (leaks.length : Int) ≤ 9223372036854775806) (_ : ∀ x ∈ leaks, (x.l.length : Int) ≤ 9223372036854775806) :
    Ans Try.prog 4 [.sl b .any (y.map Cask.c), .sl pb .any (ints plan), .sl lb .any (leaks.map NL.c)] (.bool true) := by
  have fy : Free (.sl b .any (y.map Cask.c)) := free_map Cask.free _ _ _
  have fp : Free (.sl pb .any (ints plan)) := free_ints _ _ _
  have fl : Free (.sl lb .any (leaks.map NL.c)) := free_map NL.free _ _ _
  have c1 := Run_w y b hy pb plan hp lb leaks
  have c2 := rRun_t y b hy pb plan hp lb leaks
  have c3 := yard_chk y b hy
  have c4 := ryard_t y b hy
  have hl := RunR_len y plan leaks
  generalize RunR y plan leaks = R at *
  obtain ⟨L, d, e⟩ := R
  have c5 := same_t L.isEmpty L.isEmpty L L (by have hl : L.length ≤ 4 := hl; omega)
  rw [show (L == L) = true from by simp] at c5
  generalize yardChk y = k at *
  refine told Try.func4 rfl rfl (Pure.of tab_ok Try.func4 rfl Try.ntmps4 rfl (allC (fy) (allC (fp) (all1 (fl)))) (allC (fun _ => rfl) (allC (fun _ => rfl) (all1 (fun _ => rfl)))) (by first | exact .s _ | assumption | exact .tup _ (by intro x hx; simp only [List.mem_cons, List.not_mem_nil, or_false] at hx; rcases hx with rfl | rfl | rfl | rfl <;> first | exact .s _ | (simp_all; done))) fun E hE => ?_)
  refine Aw.sm tab_ok mb0 [] rfl rfl ?zo ?zk
  case zo =>
    repeat' apply AllP.cons
    all_goals first | exact trivial
  case zk =>
  refine Aw.sm tab_ok mb0 [(3, [.tup [outW L, .int d, .int e]])] rfl rfl ?zo ?zk
  case zo =>
    repeat' apply AllP.cons
    all_goals first | exact trivial | exact c1
  case zk =>
  refine Aw.sm tab_ok mb0 [(3, [.tup [outW L, .int d, .int e]])] rfl rfl ?zo ?zk
  case zo =>
    repeat' apply AllP.cons
    all_goals first | exact trivial | exact c2
  case zk =>
  refine Aw.sm tab_ok mb0 [(2, [.bool true]), (15, [.int k]), (17, [.int k]), (21, [.bool true])] rfl rfl ?zo ?zk
  case zo =>
    repeat' apply AllP.cons
    all_goals first | exact trivial | exact id | exact fun _ => rfl | exact c5 | exact fun _ => c3 | exact fun _ => c4 | exact fun _ => works_t
  case zk =>
  exact Aw.ret ⟨_, .cons (.tmp _) .nil, by show A.bool (cond (cond (cond (cond true (d == d) false) (e == e) false) (k == k) false) true false) = A.bool true; simp⟩
end Go.Proofs.Ytampldajinhenaa

namespace Go.Proofs.Ytampldajinhenaa
open Go Go.AL Go.ChangeShapes Go.WideShapes Go.ChangeAt Go.RowKit
set_option maxRecDepth 100000 in
theorem barrelRuns_lifted (os : Os) (started : os.Started) (H : Type) (enc : TypeId × Value → H) :
    ReturnsInHanded {} Try.checked os 4 .any (Rows.barrelRunsSpec.pre6 enc Try.prog Try.f4 [] false) (Rows.barrelRunsSpec.post enc Try.prog Try.f4 false true false false) := by
  refine lifted2 (tb := 4) (C := Try.checked) own started (by kernel_rfl) Try.func4
    (ChangeSpec.witness6 (enc := enc) (C := Try.checked) false ⟨#[], #[.slice none 0 0, .slice none 0 0, .slice none 0 0], []⟩ 8 (by kernel_rfl) (by kernel_rfl) (by kernel_rfl) (by kernel_rfl))
    laidOut ?_ rfl rfl (by kernel_rfl) uBool ?_ ?_
  · rw [Try.params4]; exact all3t (p := fun t => Try.prog.readableRec t = true ∧ t < Try.prog.types.size) t35 t22 t25
  · intro ds hd
    rw [Try.params4] at hd
    match ds, hd with
    | [d0, d1, d2], _ => rfl
  · intro W base args ds p hval hA hwt
    rw [Try.params4] at hA hval
    obtain ⟨v0, v1, v2, d0, d1, d2, p0, p1, p2, rfl, rfl, rfl, h0, h1, h2⟩ := trodAll_three hA
    obtain ⟨b0, y0, q0, s0⟩ := arg_yard (φ := fun _ => none) (hval 0 35 v0 rfl rfl) h0 fun k hk => hwt k (List.mem_append.2 (.inl hk))
    obtain ⟨b1, y1, q1, s1⟩ := arg_ints (φ := fun _ => none) (hval 1 22 v1 rfl rfl) h1 fun k hk => hwt k (List.mem_append.2 (.inr (List.mem_append.2 (.inl hk))))
    obtain ⟨b2, y2, q2, s2, z2⟩ := arg_rows (φ := fun _ => none) (hval 2 25 v2 rfl rfl) h2 fun k hk => hwt k (List.mem_append.2 (.inr (List.mem_append.2 (.inr (List.mem_append.2 (.inl hk))))))
    exact ⟨_, _, vrs3 q0 q1 q2, runs_l b0 y0 b1 y1 b2 y2 s0 s1 s2 z2⟩
theorem barrelRuns_holds : Rows.BarrelRunsSaid :=
  OpenClaim.holds_of_wide 4 Try.f4 rfl rfl rfl rfl rfl rfl rfl ⟨rfl, rfl, rfl, rfl, rfl⟩ rfl rfl rfl rfl rfl (by kernel_rfl) Try.func4 (by kernel_rfl)
    (of_decide_eq_true (by kernel_rfl)) (by unfold Func.isWrapper; first | (rw [if_pos (by decide +kernel)]; kernel_rfl) | (rw [if_neg (by decide +kernel)]; exact ⟨rfl, rfl⟩))
    (fun os started H enc _ => barrelRuns_lifted os started H enc)
end Go.Proofs.Ytampldajinhenaa

