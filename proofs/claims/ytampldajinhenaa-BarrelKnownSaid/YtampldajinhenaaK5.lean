/- What the proof leans on, part 5: B11 B12 B13 B14 B15 B16 B17. -/
import Derived.Test.YtampldajinhenaaK4
set_option linter.all false
namespace Go.Proofs.Ytampldajinhenaa
open Go Go.AL Go.AL.Q Go.AL.Br
theorem Aw.post {X : Ctx} {r : Option Nat} {s : St} {Q Q' : Exit → St → Prop} {c : Code} (h : Aw X r c Q' s) (hq : ∀ e s', Q' e s' → ∃ S' H' c', Q e ⟨S', H', c'⟩ ∧ (∀ t, A.Le (S' t) (s'.S t)) ∧ (∀ id bx', H' id = some bx' → ∃ bx, s'.H id = some bx ∧ B.Le bx' bx) ∧ s'.c ≤ c') : Aw X r c Q s :=
  fun φ Z a w hr => wpIn_mono (h φ Z a w hr) fun e a' w' ⟨s', φ', Z', q, k⟩ => by
    obtain ⟨S', H', c', h1, h2, h3, h4⟩ := hq e s' q
    exact ⟨_, φ', Z', h1, k.weaken h2 h3 h4⟩
def setA (L : List (List Int)) : A := .sl L.isEmpty .any (L.map yS)
theorem yS_free (s : List Int) : ∀ x ∈ yS s, Free x := all1 (free_ints _ _ _)
theorem setA_free (L : List (List Int)) : Free (setA L) := free_map yS_free _ _ _
theorem setA_nil : A.Le (setA []) (.sl true .exact []) := .any _ _ _
def mostFn (p : Pile) : A := .fn (.func 68) [] [.ref 1 0, .pt p.c, .ref 2 0]
abbrev Met := List (G10 × List (List Int))
def msH (met : Met) (p : Pile) : List (Nat × B) := [(0, .map (encM gE setA met)), (1, .cells [.mp 0]), (2, .cells [mostFn p])]
theorem encG_free (met : Met) : ∀ e ∈ encM gE setA met, Free e.1 ∧ Free e.2 := fun e he => by
  obtain ⟨q, _, rfl⟩ := List.mem_map.1 he
  exact ⟨.agg _ fun x hx => by obtain ⟨v, _, rfl⟩ := List.mem_map.1 hx; exact .s _, setA_free _⟩
theorem mostFn_under (p : Pile) {n : Nat} (h : 3 ≤ n) : Under n (mostFn p) := .fn _ _ _ (fun _ h => nomatch h) (allC (.ref _ _ (by omega)) (allC (Free.pt _ p.free).under (all1 (.ref _ _ (by omega)))))
theorem msMap_under (met : Met) {n : Nat} : UnderB n (.map (encM gE setA met)) := .map _ fun e he => ⟨(encG_free met e he).1.under, (encG_free met e he).2.under⟩
theorem msH_under (met : Met) (p : Pile) {n : Nat} (h : 3 ≤ n) : UnderH n (msH met p) := ⟨⟨by omega, msMap_under met⟩, ⟨by omega, .cells _ (all1 (.mp _ (by omega)))⟩, ⟨by omega, .cells _ (all1 (mostFn_under p h))⟩, trivial⟩
theorem msH_dom (met : Met) (p : Pile) (i : Nat) : (ofH (msH met p) i).isSome = true ↔ InOn i := by
  simp only [msH, ofH, updH_apply, InOn]
  by_cases h0 : i = 0 <;> by_cases h1 : i = 1 <;> by_cases h2 : i = 2 <;> simp [h0, h1, h2]
theorem mostFn_nms (p : Pile) : Nms InOn (mostFn p) := .fn _ _ _ (fun _ h => nomatch h) (allC (.ref _ _ (.inr (.inl rfl))) (allC (Free.pt _ p.free).nms (all1 (.ref _ _ (.inr (.inr rfl))))))
theorem msH_nms (met : Met) (p : Pile) (i : Nat) (bx : B) (h : ofH (msH met p) i = some bx) : InOn i ∧ NmsB InOn bx := by
  refine ⟨(msH_dom met p i).1 (by rw [h]; rfl), ?_⟩
  simp only [msH, ofH, updH_apply] at h
  split at h
  · cases h; exact .map _ fun e he => ⟨(encG_free met e he).1.nms, (encG_free met e he).2.nms⟩
  · split at h
    · cases h; exact .cells _ (all1 (.mp _ (.inl rfl)))
    · split at h
      · cases h; exact .cells _ (all1 (mostFn_nms p))
      · cases h
def MemoOk (p : Pile) (met : Met) : Prop := ∀ e ∈ met, e.2 = mostG p e.1.1
theorem most_frame {p : Pile} {g : List Bool} {met : Met} {v0 : A} (hv0 : Free v0)
    (h : SCall Try.prog 68 [.agg (g.map A.bool), .ref 1 0, .pt p.c, .ref 2 0] (ofH (msH met p)) 3 (fun v H' _ => v = v0 ∧ ∃ met', H' = ofH (msH met' p) ∧ MemoOk p met')) {H : Hp} {c : Nat} (hH : HasH H (msH met p)) :
    SCall Try.prog 68 [.agg (g.map A.bool), .ref 1 0, .pt p.c, .ref 2 0] H c fun v H1 c1 => v = v0 ∧ c1 = c ∧ ∃ met', MemoOk p met' ∧ H1 = overH H (ofH (msH met p)) (ofH (msH met' p)) := by
  have dn : (fun i => (ofH (msH met p) i).isSome = true) = InOn := by funext i; exact propext (msH_dom met p i)
  refine (h.frame (H := H) (c := c) (fun id bx hb => ?_) (fun id bx hb => ?_) ?_ ?_).mono ?_
  · rcases (msH_nms met p id bx hb).1 with rfl | rfl | rfl <;> decide
  · rw [dn]; exact ⟨(msH_nms met p id bx hb).2, hH.ofH id bx hb⟩
  · rw [dn]
    exact allC (Free.agg _ (bl_free g)).nms (allC (.ref _ _ (.inr (.inl rfl))) (allC (Free.pt _ p.free).nms (all1 (.ref _ _ (.inr (.inr rfl))))))
  · rintro v H' c' ⟨rfl, met', rfl, hm⟩
    rw [dn]
    refine ⟨hv0.nms, fun id bx hb => ?_⟩
    have := msH_nms met' p id bx hb
    exact ⟨(msH_dom met p id).2 this.1, this.2⟩
  · rintro v H1 c1 ⟨H', c', ⟨rfl, met', rfl, hm⟩, h2, h3⟩
    exact ⟨rfl, h3, met', hm, h2⟩
theorem msk_some {met : Met} {K : G10} {L : List (List Int)} (h : mget met K = some L) : LkIs Try.prog tab 99 25 (encM gE setA met) (keyA gE K) (setA L) true := by
  have := ktyG.lk (T := tab) (et := 25) (v := setA L) (is := true) setA met K (by rw [h]; rfl) (by rw [h]; rfl)
  exact this
theorem msk_none {met : Met} {K : G10} (h : mget met K = none) : LkIs Try.prog tab 99 25 (encM gE setA met) (keyA gE K) (.sl true .exact []) false := by
  have := ktyG.lk (T := tab) (et := 25) (v := .sl true .exact []) (is := false) setA met K (by rw [h]; rfl) (by rw [h]; rfl)
  exact this
def fn93 (p : Pile) (g : List Bool) (k : Nat) : A := .fn (.func 93) [] [.pt p.c, .pt (g.map A.bool), .pt [.int k]]
theorem fn93_free (p : Pile) (g : List Bool) (k : Nat) : Free (fn93 p g k) := .fn _ _ _ allN (allC (.pt _ p.free) (allC (.pt _ (bl_free g)) (all1 (.pt _ (all1 (.s _))))))
def bsH (met : Met) (p : Pile) (L : List (List Int)) : List (Nat × B) := msH met p ++ [(5, .cells [setA L])]
theorem bsH_under (met : Met) (p : Pile) (L : List (List Int)) {n : Nat} (h : 6 ≤ n) : UnderH n (bsH met p L) :=
  ⟨⟨by omega, msMap_under met⟩, ⟨by omega, .cells _ (all1 (.mp _ (by omega)))⟩, ⟨by omega, .cells _ (all1 (mostFn_under p (by omega)))⟩, ⟨by omega, .cells _ (all1 (setA_free L).under)⟩, trivial⟩
def allK (k : Nat) : List Bool := (List.range 10).map fun i => decide (i < k)
theorem allK_succ {k : Nat} (_ : k < 10) : (allK k).set k true = allK (k + 1) := by
  refine List.ext_getElem (by simp [allK]) fun i h1 h2 => ?_
  simp only [allK, List.getElem_set, List.getElem_map, List.getElem_range]
  by_cases e : k = i
  · subst e; simp
  · rw [if_neg e]; congr 1; rw [eq_iff_iff]; omega
def betK (p : Pile) (g : List Bool) (k : Nat) : List (List Int) := ((barsF p (firstG g) g).take k).foldl (betterF (mostG p) g) (mostG p (g.set (firstG g) true))
def bsI (p : Pile) (g : List Bool) (k : Nat) (H : Hp) : Prop := ∃ met, MemoOk p met ∧ H = ofH (bsH met p (betK p g k))
theorem betK_succ {p : Pile} {g : List Bool} {k : Nat} (h : k < (barsF p (firstG g) g).length) : betK p g (k + 1) = betterF (mostG p) g (betK p g k) (barsF p (firstG g) g)[k] := by
  unfold betK; rw [List.take_succ_eq_append_getElem h, List.foldl_append]; rfl
set_option maxHeartbeats 4000000 in
theorem most_c (p : Pile) (hP : p.Ok) : ∀ (f : Nat) (g : List Bool) (met : Met), GOk p g → leftN p g < f → MemoOk p met →
    SCall Try.prog 68 [.agg (g.map A.bool), .ref 1 0, .pt p.c, .ref 2 0] (ofH (msH met p)) 3 (fun v H' _ => v = setA (mostG p g) ∧ ∃ met', H' = ofH (msH met' p) ∧ MemoOk p met') := by
  intro f
  induction f with
  | zero => intro g met _ h; omega
  | succ f ih =>
    intro g met hg hf hm
    have hn := hP.n
    generalize hK : (⟨g, hg.n⟩ : G10) = K
    have hK1 : K.1 = g := by rw [← hK]
    have hkA : keyA gE K = .agg (g.map A.bool) := by
      rw [← hK]; show A.agg ((g.map Value.bool).map A.s) = _; rw [List.map_map]; rfl
    refine SCall.le (post := fun v H' _ => A.Le (setA (mostG p g)) v ∧ ∃ met', H' = ofH (msH met' p) ∧ MemoOk p met') (SCall.drop (post := fun v H' _ => A.Le (setA (mostG p g)) v ∧ ∃ met', HasH H' (msH met' p) ∧ MemoOk p met') (SCall.of_bodyN tab_ok Try.func68 rfl Try.ntmps68 (Nat.le_of_ble_eq_true rfl) (allC (fun _ => rfl) (allC (fun _ => rfl) (allC (fun _ => rfl) (all1 fun _ => rfl)))) fun E hE => ?_)
      (fun v H' c' h => by obtain ⟨h1, met', h2, h3⟩ := h; exact ⟨_, h2.ofH, h1, met', rfl, h3⟩)) (fun v H' c' h => ⟨_, h.1, rfl, h.2⟩)
    have ug : ∀ {n : Nat}, Under n (A.pt (g.map A.bool)) := (Free.pt _ (bl_free g)).under
    have up : ∀ {n : Nat}, Under n (A.pt p.c) := (Free.pt _ p.free).under
    have hl10 : (g.map A.bool).length = 10 := by rw [List.length_map]; exact hg.n
    have hld : A.agg ((g.map A.bool).take 10) = .agg (g.map A.bool) := by rw [List.take_of_length_le (by omega)]
    have hge : 10 ≤ (g.map A.bool).length := by omega
    refine Aw.sm tab_ok mb0 [] rfl rfl ?zo ?zk
    case zo =>
      repeat' apply AllP.cons
      all_goals first | exact trivial
    case zk =>
    cases hmg : mget met K with
    | some L =>
      have hlk := msk_some hmg
      rw [hkA] at hlk
      have hL : L = mostG p g := by have := hm _ (mget_mem hmg); rw [hK1] at this; exact this
      refine Aw.seq ?_
      refine Aw.sm tab_ok mb0 [(1, [.agg (g.map A.bool)]), (2, [setA L, .bool true])] rfl rfl ?zo ?zk
      case zo =>
        repeat' apply AllP.cons
        all_goals first | exact trivial | exact Nat.le_of_ble_eq_true rfl | exact hlk | exact hld | exact hge
      case zk =>
      refine Aw.sm tab_ok mb0 [] rfl rfl ?zo ?zk
      case zo =>
        repeat' apply AllP.cons
        all_goals first | exact trivial
      case zk =>
      refine Aw.cond rfl (fun _ => ?_) (fun h => by cases h)
      refine Aw.sm tab_ok mb0 [] rfl rfl ?zo ?zk
      case zo =>
        repeat' apply AllP.cons
        all_goals first | exact trivial
      case zk =>
      exact Aw.ret ⟨_, .cons (.tmp _) .nil, by rw [← hL]; exact .refl _, met, ⟨rfl, rfl, rfl, trivial⟩, hm⟩
    | none =>
      have hlk := msk_none hmg
      rw [hkA] at hlk
      refine Aw.seq ?_
      refine Aw.sm tab_ok mb0 [(1, [.agg (g.map A.bool)]), (2, [.sl true .exact [], .bool false])] rfl rfl ?zo ?zk
      case zo =>
        repeat' apply AllP.cons
        all_goals first | exact trivial | exact Nat.le_of_ble_eq_true rfl | exact hlk | exact hld | exact hge
      case zk =>
      refine Aw.sm tab_ok mb0 [] rfl rfl ?zo ?zk
      case zo =>
        repeat' apply AllP.cons
        all_goals first | exact trivial
      case zk =>
      refine Aw.cond rfl (fun h => by cases h) (fun _ => Aw.skip ?_)
      refine Aw.keep (n := 3) (cst := [(1, .ref 1 0), (2, .pt p.c), (3, .ref 2 0), (4, .pt (g.map A.bool))]) (v := []) (Hl := msH met p) hE ?zu ?zw ?zx ⟨?zc, ?zv, ?zh, Nat.le_of_ble_eq_true rfl⟩ ?zr
      case zu =>
        (repeat' (first | exact trivial | exact Under.ref _ _ (by decide) | exact up | exact ug | (refine And.intro ?_ ?_)))
      case zw =>
        (repeat' (first | exact trivial))
      case zx =>
        (repeat' (first | exact msH_under met p (Nat.le_refl _)))
      case zc =>
        (repeat' (first | (refine And.intro ?_ ?_) | exact trivial | exact A.Le.refl _))
      case zv =>
        (repeat' (first | exact trivial))
      case zh =>
        (repeat' (first | (refine And.intro ?_ ?_) | exact trivial | exact rfl))
      case zr =>
      refine Aw.sm tab_ok mb0 [] rfl rfl ?zo ?zk
      case zo =>
        repeat' apply AllP.cons
        all_goals first | exact trivial | exact rfl | exact Nat.le_of_ble_eq_true rfl
      case zk =>
      have h4e : ∀ id, 4 ≤ id → E.φ0 id = none := fun id _ => hE id (by omega)
      have lp := ints_lenI p.st
      have us : ∀ {n : Nat}, Under n (A.sl p.nn .any (ints p.st)) := (free_ints _ _ _).under
      have mfu : ∀ {n : Nat}, 3 ≤ n → UnderB n (.cells [mostFn p]) := fun h => .cells _ (all1 (mostFn_under p h))
      have mbu : ∀ {n : Nat}, 3 ≤ n → UnderB n (.cells [.mp 0]) := fun h => .cells _ (all1 (.mp _ (by omega)))
      refine Aw.seq ?_
      refine Aw.sm tab_ok mb0 [] rfl rfl ?zo ?zk
      case zo =>
        repeat' apply AllP.cons
        all_goals first | exact trivial | exact Nat.le_of_ble_eq_true rfl
      case zk =>
      refine Aw.block (Aw.rounds 4 h4e [(1, .ref 1 0), (2, .pt p.c), (3, .ref 2 0), (4, .pt (g.map A.bool)), (8, .ref 3 0), (30, .int p.st.length)] (fun k : Nat => [(31, .int k)]) (fun k => msH met p ++ [(3, gB (allK k))]) (fun k => k ≤ p.st.length) (fun k => p.st.length - k) 0 ?zg ⟨?zc, ?zv, ?zh, Nat.le_of_ble_eq_true rfl⟩ ?zu (fun k zhk => ?zw) (fun k zhk => ?zx) fun k hk => ?zr)
      case zg =>
        (repeat' (first | exact Nat.zero_le _))
      case zc =>
        (repeat' (first | (refine And.intro ?_ ?_) | exact trivial | exact A.Le.refl _ | exact .of_eq (congrArg A.int lp.symm)))
      case zv =>
        (repeat' (first | (refine And.intro ?_ ?_) | exact trivial | exact A.Le.refl _))
      case zh =>
        (repeat' (first | (refine And.intro ?_ ?_) | exact trivial | exact rfl))
      case zu =>
        (repeat' (first | exact trivial | exact Under.s _ | exact Under.ref _ _ (by decide) | exact up | exact ug | (refine And.intro ?_ ?_)))
      case zw =>
        (repeat' (first | exact trivial | exact Under.s _ | (refine And.intro ?_ ?_)))
      case zx =>
        (repeat' (first | exact trivial | exact Nat.le_of_ble_eq_true rfl | exact gB_under _ | exact msMap_under _ | exact mfu (by decide) | exact mbu (by decide) | (refine And.intro ?_ ?_)))
      case zr =>
      refine Aw.sm tab_ok mb0 [] rfl rfl ?zo ?zk
      case zo =>
        repeat' apply AllP.cons
        all_goals first | exact trivial
      case zk =>
      refine Aw.seq (Aw.cond rfl (fun h1 => Aw.skip1 ?_) (fun h1 => Aw.exit2 ?_))
      · have hlt : k < p.st.length := by have := of_decide_eq_true h1; omega
        have hsc := congrArg (fun x => some (B.cells x)) (set_cellsB (l := allK k) (k := k) (v := true) (by simp [allK]; omega))
        rw [allK_succ (by omega)] at hsc
        have hal : ((allK k).map A.bool).length = 10 := by simp [allK]
        generalize allK k = ak at *
        refine Aw.seq (Aw.block ?_)
        refine Aw.sm tab_ok mb0 [] rfl rfl ?zo ?zk
        case zo =>
          repeat' apply AllP.cons
          all_goals first | exact trivial
        case zk =>
        refine Aw.em tab_ok mb0 [] rfl rfl ?zo ?zk
        case zo =>
          repeat' apply AllP.cons
          all_goals first | exact trivial | exact rfl | exact Int.natCast_nonneg _ | exact (show 0 + Int.toNat (k : Int) * 1 + 1 ≤ (ak.map A.bool).length by rw [hal, Int.toNat_natCast]; omega) | exact (by simp only [Ob.of]; omega)
        case zk =>
        refine Aw.em tab_ok mb0 [] rfl rfl ?zo ?zk
        case zo =>
          repeat' apply AllP.cons
          all_goals first | exact trivial | exact inrk k (by omega)
        case zk =>
        refine ⟨k + 1, ?zg, ?zm, ⟨?zc, ?zv, ?zh, Nat.le_of_ble_eq_true rfl⟩⟩
        case zg =>
          (repeat' (first | assumption))
        case zm =>
          (repeat' (first | omega))
        case zc =>
          (repeat' (first | (refine And.intro ?_ ?_) | exact trivial | exact A.Le.refl _))
        case zv =>
          (repeat' (first | (refine And.intro ?_ ?_) | exact trivial | exact A.Le.refl _))
        case zh =>
          (repeat' (first | (refine And.intro ?_ ?_) | exact trivial | exact rfl | exact hsc))
      have hle : k = p.st.length := by have := of_decide_eq_false h1; omega
      subst hle
      have eall : allK p.st.length = allG p := rfl
      rw [eall]
      have hal10 : (allG p).length = 10 := by simp [allG]
      have hal : A.agg ((((allG p).map A.bool).drop 0).take 10 |>.map A.down) = .agg ((allG p).map A.bool) := by
        rw [List.drop_zero, List.take_of_length_le (by simp [hal10]), List.map_map]; rfl
      have hge2 : 0 + 10 ≤ ((allG p).map A.bool).length := by simp [hal10]
      refine Aw.seq ?_
      refine Aw.sm tab_ok mb0 [(0, [.agg (g.map A.bool)]), (1, [.agg ((allG p).map A.bool)]), (2, [.bool (g == allG p)])] rfl rfl ?zo ?zk
      case zo =>
        repeat' apply AllP.cons
        all_goals first | exact trivial | exact rfl | exact Nat.le_of_ble_eq_true rfl | exact hld | exact hge | exact eqG hg.n hal10 _ _
      case zk =>
      refine Aw.cond rfl (fun h2 => ?_) (fun h2 => Aw.skip ?_)
      · have h2 : (g == allG p) = true := h2
        refine Aw.sm tab_ok mb0 [] rfl rfl ?zo ?zk
        case zo =>
          repeat' apply AllP.cons
          all_goals first | exact trivial
        case zk =>
        exact Aw.ret ⟨_, .cons (.tmp _) .nil, by rw [mostG_all h2]; exact setA_nil, met, ⟨rfl, rfl, rfl, trivial⟩, hm⟩
      have h2 : (g == allG p) = false := h2
      have hfst := first_is hP hg h2
      have hstep := mostG_step hP hg h2 hfst
      generalize hfk : firstG g = fst at *
      refine Aw.keep (n := 4) (cst := [(1, .ref 1 0), (2, .pt p.c), (3, .ref 2 0), (4, .pt (g.map A.bool))]) (v := []) (Hl := msH met p) h4e ?zu ?zw ?zx ⟨?zc, ?zv, ?zh, Nat.le_of_ble_eq_true rfl⟩ ?zr
      case zu =>
        (repeat' (first | exact trivial | exact Under.ref _ _ (by decide) | exact up | exact ug | (refine And.intro ?_ ?_)))
      case zw =>
        (repeat' (first | exact trivial))
      case zx =>
        (repeat' (first | exact trivial | exact Nat.le_of_ble_eq_true rfl | exact msMap_under _ | exact mfu (by decide) | exact mbu (by decide) | (refine And.intro ?_ ?_)))
      case zc =>
        (repeat' (first | (refine And.intro ?_ ?_) | exact trivial | exact A.Le.refl _))
      case zv =>
        (repeat' (first | exact trivial))
      case zh =>
        (repeat' (first | (refine And.intro ?_ ?_) | exact trivial | exact rfl))
      case zr =>
      refine Aw.sm tab_ok mb0 [] rfl rfl ?zo ?zk
      case zo =>
        repeat' apply AllP.cons
        all_goals first | exact trivial
      case zk =>
      refine Aw.seq ?_
      refine Aw.block (Aw.rounds 4 h4e [(1, .ref 1 0), (2, .pt p.c), (3, .ref 2 0), (4, .pt (g.map A.bool))] (fun k : Nat => [(10, .int k)]) (fun k => msH met p) (fun k => k ≤ fst) (fun k => fst - k) 0 ?zg ⟨?zc, ?zv, ?zh, Nat.le_of_ble_eq_true rfl⟩ ?zu (fun k zhk => ?zw) (fun k zhk => ?zx) fun k hk => ?zr)
      case zg =>
        (repeat' (first | exact Nat.zero_le _))
      case zc =>
        (repeat' (first | (refine And.intro ?_ ?_) | exact trivial | exact A.Le.refl _))
      case zv =>
        (repeat' (first | (refine And.intro ?_ ?_) | exact trivial | exact A.Le.refl _))
      case zh =>
        (repeat' (first | (refine And.intro ?_ ?_) | exact trivial | exact rfl))
      case zu =>
        (repeat' (first | exact trivial | exact Under.ref _ _ (by decide) | exact up | exact ug | (refine And.intro ?_ ?_)))
      case zw =>
        (repeat' (first | exact trivial | exact Under.s _ | (refine And.intro ?_ ?_)))
      case zx =>
        (repeat' (first | exact trivial | exact Nat.le_of_ble_eq_true rfl | exact msMap_under _ | exact mfu (by decide) | exact mbu (by decide) | (refine And.intro ?_ ?_)))
      case zr =>
      have hk10 : k < (g.map A.bool).length := by have := hfst.n; omega
      have hgd : ((((g.map A.bool).drop (Int.toNat (k : Int) * 1)).getD 0 .un).down = .bool (gn g k)) := by
        unfold gn; rw [Int.toNat_natCast, Nat.mul_one]; simp [List.getD_eq_getElem?_getD, show k < g.length by have := hg.n; omega]; rfl
      have hgl : 0 < ((g.map A.bool).drop (Int.toNat (k : Int) * 1)).length := by rw [List.length_drop, Int.toNat_natCast, Nat.mul_one]; omega
      have hkb := hfst.n
      refine Aw.seq ?_
      refine Aw.sm tab_ok mb0 [(2, [.bool (gn g k)])] rfl rfl ?zo ?zk
      case zo =>
        repeat' apply AllP.cons
        all_goals first | exact trivial | exact Int.natCast_nonneg _ | exact hgd | exact hgl | exact (by simp only [Ob.of]; omega)
      case zk =>
      refine Aw.cond rfl (fun h3 => Aw.skip ?_) (fun h3 => ?_)
      · have h3 : gn g k = true := h3
        have hne : k ≠ fst := fun e => by subst e; rw [hfst.fr] at h3; cases h3
        refine Aw.block ?_
        refine Aw.em tab_ok mb0 [] rfl rfl ?zo ?zk
        case zo =>
          repeat' apply AllP.cons
          all_goals first | exact trivial | exact inrk k (by omega)
        case zk =>
        refine ⟨k + 1, ?zg, ?zm, ⟨?zc, ?zv, ?zh, Nat.le_of_ble_eq_true rfl⟩⟩
        case zg =>
          (repeat' (first | omega))
        case zm =>
          (repeat' (first | omega))
        case zc =>
          (repeat' (first | (refine And.intro ?_ ?_) | exact trivial | exact A.Le.refl _))
        case zv =>
          (repeat' (first | (refine And.intro ?_ ?_) | exact trivial | exact A.Le.refl _))
        case zh =>
          (repeat' (first | (refine And.intro ?_ ?_) | exact trivial | exact rfl))
      have h3 : gn g k = false := h3
      have hkf : k = fst := by
        rcases Nat.lt_or_eq_of_le hk with h | h
        · have := hfst.b k h; rw [h3] at this; cases this
        · exact h
      subst hkf
      refine Aw.exit2 ?_
      refine Aw.keep (n := 4) (cst := [(1, .ref 1 0), (2, .pt p.c), (3, .ref 2 0), (4, .pt (g.map A.bool)), (10, .int k)]) (v := []) (Hl := msH met p) h4e ?zu ?zw ?zx ⟨?zc, ?zv, ?zh, Nat.le_of_ble_eq_true rfl⟩ ?zr
      case zu =>
        (repeat' (first | exact trivial | exact Under.s _ | exact Under.ref _ _ (by decide) | exact up | exact ug | (refine And.intro ?_ ?_)))
      case zw =>
        (repeat' (first | exact trivial))
      case zx =>
        (repeat' (first | exact trivial | exact Nat.le_of_ble_eq_true rfl | exact msMap_under _ | exact mfu (by decide) | exact mbu (by decide) | (refine And.intro ?_ ?_)))
      case zc =>
        (repeat' (first | (refine And.intro ?_ ?_) | exact trivial | exact A.Le.refl _))
      case zv =>
        (repeat' (first | exact trivial))
      case zh =>
        (repeat' (first | (refine And.intro ?_ ?_) | exact trivial | exact rfl))
      case zr =>
      have h5e : ∀ id, 5 ≤ id → E.φ0 id = none := fun id _ => hE id (by omega)
      refine Aw.sm tab_ok mb0 [(0, [.agg (g.map A.bool)])] rfl rfl ?zo ?zk
      case zo =>
        repeat' apply AllP.cons
        all_goals first | exact trivial | exact Nat.le_of_ble_eq_true rfl | exact hld | exact hge | exact hl10
      case zk =>
      have hst0 : ∀ (z : List A) (w : List A), z.length = w.length → setSeg z 0 w = w := fun z w h => by
        unfold setSeg; rw [List.take_zero, List.nil_append, Nat.zero_add, List.drop_of_length_le (by omega), List.append_nil]
      have hdn : ∀ l : List Bool, (l.map A.bool).map A.down = l.map A.bool := fun l => by rw [List.map_map]; rfl
      have hsB : ∀ (l : List Bool), l.length = 10 → B.cells (setSeg ((tab.zr 99).map A.down) 0 ((l.map A.bool).map A.down)) = gB l := fun l hl => by
        rw [hst0 _ _ (by simp [hl]; rfl), hdn]; rfl
      refine Aw.keep (n := 5) (cst := [(1, .ref 1 0), (2, .pt p.c), (3, .ref 2 0), (4, .pt (g.map A.bool)), (10, .int k), (11, .ref 4 0)]) (v := []) (Hl := msH met p ++ [(4, gB g)]) h5e ?zu ?zw ?zx ⟨?zc, ?zv, ?zh, Nat.le_of_ble_eq_true rfl⟩ ?zr
      case zu =>
        (repeat' (first | exact trivial | exact Under.s _ | exact Under.ref _ _ (by decide) | exact up | exact ug | (refine And.intro ?_ ?_)))
      case zw =>
        (repeat' (first | exact trivial))
      case zx =>
        (repeat' (first | exact trivial | exact Nat.le_of_ble_eq_true rfl | exact msMap_under _ | exact mfu (by decide) | exact mbu (by decide) | exact gB_under _ | (refine And.intro ?_ ?_)))
      case zc =>
        (repeat' (first | (refine And.intro ?_ ?_) | exact trivial | exact A.Le.refl _))
      case zv =>
        (repeat' (first | exact trivial))
      case zh =>
        (repeat' (first | (refine And.intro ?_ ?_) | exact trivial | exact rfl | exact congrArg some (hsB g hg.n)))
      case zr =>
      have hlt := hfst.n
      have hgl10 := hg.n
      have hsc := congrArg (fun x => some (B.cells x)) (set_cellsB (l := g) (k := k) (v := true) (by omega))
      refine Aw.sm tab_ok mb0 [] rfl rfl ?zo ?zk
      case zo =>
        repeat' apply AllP.cons
        all_goals first | exact trivial | exact rfl | exact Int.natCast_nonneg _ | exact (show 0 + Int.toNat (k : Int) * 1 + 1 ≤ (g.map A.bool).length by rw [hl10, Int.toNat_natCast]; omega) | exact (by simp only [Ob.of]; omega)
      case zk =>
      have hs1 : StIn p [(k : Int)] := fun x hx => by simp at hx; subst hx; omega
      have hG1 := (mark_one g k) ▸ hg.mark hs1 hP
      have hl1 := (mark_one g k) ▸ left_mark hP hg hfst hs1 (by simp)
      have hcall1 := ih (g.set k true) met hG1 (by omega) hm
      have hG1n := hG1.n
      generalize hg1 : g.set k true = G1 at *
      refine Aw.keep (n := 5) (cst := [(1, .ref 1 0), (2, .pt p.c), (3, .ref 2 0), (4, .pt (g.map A.bool)), (10, .int k), (11, .ref 4 0)]) (v := []) (Hl := msH met p ++ [(4, gB G1)]) h5e ?zu ?zw ?zx ⟨?zc, ?zv, ?zh, Nat.le_of_ble_eq_true rfl⟩ ?zr
      case zu =>
        (repeat' (first | exact trivial | exact Under.s _ | exact Under.ref _ _ (by decide) | exact up | exact ug | (refine And.intro ?_ ?_)))
      case zw =>
        (repeat' (first | exact trivial))
      case zx =>
        (repeat' (first | exact trivial | exact Nat.le_of_ble_eq_true rfl | exact msMap_under _ | exact mfu (by decide) | exact mbu (by decide) | exact gB_under _ | (refine And.intro ?_ ?_)))
      case zc =>
        (repeat' (first | (refine And.intro ?_ ?_) | exact trivial | exact A.Le.refl _))
      case zv =>
        (repeat' (first | exact trivial))
      case zh =>
        (repeat' (first | (refine And.intro ?_ ?_) | exact trivial | exact rfl | exact hsc))
      case zr =>
      have hld1 : A.agg ((((G1.map A.bool).drop 0).take 10).map A.down) = .agg (G1.map A.bool) := by
        rw [List.drop_zero, List.take_of_length_le (by simp [hG1n]), hdn]
      have hge1 : 0 + 10 ≤ (G1.map A.bool).length := by simp [hG1n]
      refine Aw.ss rfl ?_
      refine RegL.partE tab_ok mb0 false 2 0 [(1, [.agg (G1.map A.bool)])] ?_
      conv => arg 5; whnf
      refine PartK.mk ?zo ?zk
      case zo =>
        repeat' apply AllP.cons
        all_goals first | exact trivial | exact Nat.le_of_ble_eq_true rfl | exact hld1 | exact hge1
      case zk =>
      refine Does.raw rfl (DoesR.call (fst := []) (cap := [.ref 1 0, .pt p.c, .ref 2 0]) rfl rfl (enters_of Try.func68 rfl rfl) (most_frame (setA_free _) hcall1 (H := _) (c := _) ⟨rfl, rfl, rfl, trivial⟩) ?_)
      rintro v H' c' ⟨rfl, rfl, met1, hm1, rfl⟩
      refine RegL.partE tab_ok mb0 false 2 3 [] ?_
      conv => arg 5; whnf
      refine PartK.mk ?zo ?zk
      case zo =>
        repeat' apply AllP.cons
        all_goals first | exact trivial | exact rfl | exact Nat.le_of_ble_eq_true rfl
      case zk =>
      have h6e : ∀ id, 6 ≤ id → E.φ0 id = none := fun id _ => hE id (by omega)
      have u5 : ∀ (L : List (List Int)) {n : Nat}, UnderB n (.cells [setA L]) := fun L n => .cells _ (all1 (setA_free L).under)
      have hb0 : betK p g 0 = mostG p G1 := by unfold betK; rw [hfk, hg1]; rfl
      have hbars := barrels_t p g hg.n k
      refine Aw.keep (n := 6) (cst := [(1, .ref 1 0), (2, .pt p.c), (3, .ref 2 0), (4, .pt (g.map A.bool)), (10, .int k), (12, .ref 5 0)]) (v := []) (Hl := bsH met1 p (betK p g 0)) h6e ?zu ?zw ?zx ⟨?zc, ?zv, ?zh, Nat.le_of_ble_eq_true rfl⟩ ?zr
      case zu =>
        (repeat' (first | exact trivial | exact Under.s _ | exact Under.ref _ _ (by decide) | exact up | exact ug | (refine And.intro ?_ ?_)))
      case zw =>
        (repeat' (first | exact trivial))
      case zx =>
        (repeat' (first | exact trivial | exact Nat.le_of_ble_eq_true rfl | exact msMap_under _ | exact mfu (by decide) | exact mbu (by decide) | exact u5 _ | (refine And.intro ?_ ?_)))
      case zc =>
        (repeat' (first | (refine And.intro ?_ ?_) | exact trivial | exact A.Le.refl _))
      case zv =>
        (repeat' (first | exact trivial))
      case zh =>
        (repeat' (first | (refine And.intro ?_ ?_) | exact trivial | exact rfl | exact (by rw [hb0]; rfl)))
      case zr =>
      refine Aw.seq ?_
      refine Aw.sm tab_ok mb0 [(2, [.agg (g.map A.bool)]), (3, [fn93 p g k])] rfl rfl ?zo ?zk
      case zo =>
        repeat' apply AllP.cons
        all_goals first | exact trivial | exact Nat.le_of_ble_eq_true rfl | exact hld | exact hge | exact hbars
      case zk =>
      refine Aw.keep (n := 6) (cst := [(1, .ref 1 0), (3, .ref 2 0), (4, .pt (g.map A.bool)), (12, .ref 5 0), (54, fn93 p g k)]) (v := []) (Hl := bsH met1 p (betK p g 0)) h6e ?zu ?zw ?zx ⟨?zc, ?zv, ?zh, Nat.le_of_ble_eq_true rfl⟩ ?zr
      case zu =>
        (repeat' (first | exact trivial | exact Under.ref _ _ (by decide) | exact ug | exact (fn93_free p g k).under | (refine And.intro ?_ ?_)))
      case zw =>
        (repeat' (first | exact trivial))
      case zx =>
        (repeat' (first | exact trivial | exact Nat.le_of_ble_eq_true rfl | exact msMap_under _ | exact mfu (by decide) | exact mbu (by decide) | exact u5 _ | (refine And.intro ?_ ?_)))
      case zc =>
        (repeat' (first | (refine And.intro ?_ ?_) | exact trivial | exact A.Le.refl _))
      case zv =>
        (repeat' (first | exact trivial))
      case zh =>
        (repeat' (first | (refine And.intro ?_ ?_) | exact trivial | exact rfl))
      case zr =>
      refine Aw.block (Aw.iterN rfl (enters_of Try.func93 rfl rfl) ((barsF p k g).map yS) (bsI p g) rfl (fun x hx => by obtain ⟨m, _, rfl⟩ := List.mem_map.1 hx; rfl)
        (ofL2_under ⟨.ref _ _ (Nat.le_of_ble_eq_true rfl), .ref _ _ (Nat.le_of_ble_eq_true rfl), ug, .ref _ _ (Nat.le_of_ble_eq_true rfl), (fn93_free p g k).under, trivial⟩) (fun j H h => by obtain ⟨met2, _, rfl⟩ := h; exact UnderH.ofH (bsH_under met2 p _ (Nat.le_refl _)))
        (fun it H hI => barrels1_t p hP g hg.n k ⟨by omega, by omega⟩ it H hI) ⟨met1, hm1, rfl⟩ ?_ ?_)
      · intro lpB hlp j yy hj H hI E' b' hE'
        rw [List.getElem?_map] at hj
        cases hmj : (barsF p k g)[j]? with
        | none => rw [hmj] at hj; cases hj
        | some s =>
        rw [hmj] at hj
        cases hj
        obtain ⟨met2, hm2, rfl⟩ := hI
        obtain ⟨hjl, hjs⟩ := List.getElem?_eq_some_iff.1 hmj
        have hE1 : ∀ i, 7 ≤ i → E'.φ0 i = none := hE'
        have hulp : ∀ {n : Nat}, 6 ≤ n → UnderB n (lpB .busy none) := fun h => (hlp .busy none).mono h
        generalize hLB : lpB .busy none = LB at *
        have us' : ∀ {n : Nat}, Under n (A.sl false .any (ints s)) := (free_ints _ _ _).under
        have hbk : betK p g (j + 1) = betterF (mostG p) g (betK p g j) s := by
          have := betK_succ (p := p) (g := g) (k := j) (by rw [hfk]; exact hjl)
          rw [this]; congr 1; simp only [hfk]; exact hjs
        have hbm := bars_mem hfst (List.mem_of_getElem? hmj)
        have hbl := bars_len (List.mem_of_getElem? hmj)
        refine Aw.em tab_ok mb0 [] rfl rfl ?zo ?zk
        case zo =>
          repeat' apply AllP.cons
          all_goals first | exact trivial
        case zk =>
        refine ⟨rfl, rfl, ?_⟩
        refine Aw.keep (n := 7) (cst := [(1, .ref 1 0), (3, .ref 2 0), (4, .pt (g.map A.bool)), (12, .ref 5 0), (13, .sl false .any (ints s))]) (v := []) (Hl := bsH met2 p (betK p g j) ++ [(6, LB)]) hE1 ?zu ?zw ?zx ⟨?zc, ?zv, ?zh, Nat.le_of_ble_eq_true rfl⟩ ?zr
        case zu =>
          (repeat' (first | exact trivial | exact (free_ints _ _ _).under | exact Under.ref _ _ (by decide) | exact ug | (refine And.intro ?_ ?_)))
        case zw =>
          (repeat' (first | exact trivial))
        case zx =>
          (repeat' (first | exact trivial | exact Nat.le_of_ble_eq_true rfl | exact msMap_under _ | exact mfu (by decide) | exact mbu (by decide) | exact u5 _ | exact hulp (by decide) | (refine And.intro ?_ ?_)))
        case zc =>
          (repeat' (first | (refine And.intro ?_ ?_) | exact trivial | exact A.Le.refl _))
        case zv =>
          (repeat' (first | exact trivial))
        case zh =>
          (repeat' (first | (refine And.intro ?_ ?_) | exact trivial | exact rfl))
        case zr =>
        refine Aw.block ?_
        refine Aw.sm tab_ok mb0 [(0, [.agg (g.map A.bool)])] rfl rfl ?zo ?zk
        case zo =>
          repeat' apply AllP.cons
          all_goals first | exact trivial | exact Nat.le_of_ble_eq_true rfl | exact hld | exact hge | exact hl10
        case zk =>
        have h8e : ∀ i, 8 ≤ i → E'.φ0 i = none := fun i h => hE1 i (by omega)
        have alts : True := trivial
        refine Aw.keep (n := 8) (cst := [(1, .ref 1 0), (3, .ref 2 0), (4, .pt (g.map A.bool)), (12, .ref 5 0), (13, .sl false .any (ints s)), (14, .ref 7 0)]) (v := []) (Hl := bsH met2 p (betK p g j) ++ [(6, LB), (7, gB g)]) h8e ?zu ?zw ?zx ⟨?zc, ?zv, ?zh, Nat.le_of_ble_eq_true rfl⟩ ?zr
        case zu =>
          (repeat' (first | exact trivial | exact (free_ints _ _ _).under | exact Under.ref _ _ (by decide) | exact ug | (refine And.intro ?_ ?_)))
        case zw =>
          (repeat' (first | exact trivial))
        case zx =>
          (repeat' (first | exact trivial | exact Nat.le_of_ble_eq_true rfl | exact msMap_under _ | exact mfu (by decide) | exact mbu (by decide) | exact u5 _ | exact hulp (by decide) | exact gB_under _ | (refine And.intro ?_ ?_)))
        case zc =>
          (repeat' (first | (refine And.intro ?_ ?_) | exact trivial | exact A.Le.refl _))
        case zv =>
          (repeat' (first | exact trivial))
        case zh =>
          (repeat' (first | (refine And.intro ?_ ?_) | exact trivial | exact rfl | exact congrArg some (hsB g hg.n)))
        case zr =>
        have lms := ints_lenI s
        refine Aw.seq ?_
        refine Aw.sm tab_ok mb0 [] rfl rfl ?zo ?zk
        case zo =>
          repeat' apply AllP.cons
          all_goals first | exact trivial
        case zk =>
        refine Aw.block (Aw.rounds 8 h8e [(1, .ref 1 0), (3, .ref 2 0), (4, .pt (g.map A.bool)), (12, .ref 5 0), (13, .sl false .any (ints s)), (14, .ref 7 0), (57, .sl false .any (ints s)), (58, .int s.length)] (fun i : Nat => [(59, .int i)]) (fun i => bsH met2 p (betK p g j) ++ [(6, LB), (7, gB (markG g (s.take i)))]) (fun i => i ≤ s.length) (fun i => s.length - i) 0 ?zg ⟨?zc, ?zv, ?zh, Nat.le_of_ble_eq_true rfl⟩ ?zu (fun i zhk => ?zw) (fun i zhk => ?zx) fun i hk => ?zr)
        case zg =>
          (repeat' (first | exact Nat.zero_le _))
        case zc =>
          (repeat' (first | (refine And.intro ?_ ?_) | exact trivial | exact A.Le.refl _ | exact .of_eq (congrArg A.int lms.symm)))
        case zv =>
          (repeat' (first | (refine And.intro ?_ ?_) | exact trivial | exact A.Le.refl _))
        case zh =>
          (repeat' (first | (refine And.intro ?_ ?_) | exact trivial | exact rfl))
        case zu =>
          (repeat' (first | exact trivial | exact Under.s _ | exact (free_ints _ _ _).under | exact Under.ref _ _ (by decide) | exact ug | (refine And.intro ?_ ?_)))
        case zw =>
          (repeat' (first | exact trivial | exact Under.s _ | (refine And.intro ?_ ?_)))
        case zx =>
          (repeat' (first | exact trivial | exact Nat.le_of_ble_eq_true rfl | exact msMap_under _ | exact mfu (by decide) | exact mbu (by decide) | exact u5 _ | exact hulp (by decide) | exact gB_under _ | (refine And.intro ?_ ?_)))
        case zr =>
        refine Aw.sm tab_ok mb0 [] rfl rfl ?zo ?zk
        case zo =>
          repeat' apply AllP.cons
          all_goals first | exact trivial
        case zk =>
        refine Aw.seq (Aw.cond rfl (fun h1 => Aw.skip1 ?_) (fun h1 => Aw.exit2 ?_))
        · have hlt2 : i < s.length := by have := of_decide_eq_true h1; omega
          have hgs := ints_get hlt2
          have hsi := hbm.2.2.1 s[i] (List.getElem_mem hlt2)
          have hmk : (markG g (s.take i)).set (s[i]).toNat true = markG g (s.take (i + 1)) := by
            rw [List.take_succ_eq_append_getElem hlt2]; unfold markG; rw [List.foldl_append]; rfl
          have hml : (markG g (s.take i)).length = 10 := by rw [markG_len]; exact hg.n
          have hsc2 := congrArg (fun x => some (B.cells x)) (set_cellsB (l := markG g (s.take i)) (k := (s[i]).toNat) (v := true) (by omega))
          rw [hmk] at hsc2
          generalize s[i] = z at *
          generalize markG g (s.take i) = GI at *
          refine Aw.seq (Aw.block ?_)
          refine Aw.sm tab_ok mb0 [(0, [.int z])] rfl rfl ?zo ?zk
          case zo =>
            repeat' apply AllP.cons
            all_goals first | exact trivial | exact rfl | exact Nat.le_of_ble_eq_true rfl | exact Int.natCast_nonneg _ | exact hgs
          case zk =>
          refine Aw.em tab_ok mb0 [] rfl rfl ?zo ?zk
          case zo =>
            repeat' apply AllP.cons
            all_goals first | exact trivial | exact rfl | exact (show 0 + z.toNat * 1 + 1 ≤ (GI.map A.bool).length by rw [List.length_map, hml]; omega) | exact (show z < ((10 : Nat) : Int) by omega) | exact (by simp only [Ob.of]; omega)
          case zk =>
          refine Aw.em tab_ok mb0 [] rfl rfl ?zo ?zk
          case zo =>
            repeat' apply AllP.cons
            all_goals first | exact trivial | exact inrk i (by omega)
          case zk =>
          refine ⟨i + 1, ?zg, ?zm, ⟨?zc, ?zv, ?zh, Nat.le_of_ble_eq_true rfl⟩⟩
          case zg =>
            (repeat' (first | assumption))
          case zm =>
            (repeat' (first | omega))
          case zc =>
            (repeat' (first | (refine And.intro ?_ ?_) | exact trivial | exact A.Le.refl _))
          case zv =>
            (repeat' (first | (refine And.intro ?_ ?_) | exact trivial | exact A.Le.refl _))
          case zh =>
            (repeat' (first | (refine And.intro ?_ ?_) | exact trivial | exact rfl | exact hsc2))
        have hle : i = s.length := by have := of_decide_eq_false h1; omega
        subst hle
        rw [List.take_length]
        have hG2 := hg.mark hbm.2.2.1 hP
        have hl2 := left_mark hP hg hfst hbm.2.2.1 hbm.1
        have hcall2 := ih (markG g s) met2 hG2 (by omega) hm2
        have hG2n := hG2.n
        unfold betterF at hbk
        generalize hg2 : markG g s = G2 at *
        have hld2 : A.agg ((((G2.map A.bool).drop 0).take 10).map A.down) = .agg (G2.map A.bool) := by
          rw [List.drop_zero, List.take_of_length_le (by simp [hG2n]), hdn]
        have hge2 : 0 + 10 ≤ (G2.map A.bool).length := by simp [hG2n]
        refine Aw.keep (n := 8) (cst := [(3, .ref 2 0), (12, .ref 5 0), (13, .sl false .any (ints s)), (14, .ref 7 0)]) (v := []) (Hl := bsH met2 p (betK p g j) ++ [(6, LB), (7, gB G2)]) h8e ?zu ?zw ?zx ⟨?zc, ?zv, ?zh, Nat.le_of_ble_eq_true rfl⟩ ?zr
        case zu =>
          (repeat' (first | exact trivial | exact (free_ints _ _ _).under | exact Under.ref _ _ (by decide) | (refine And.intro ?_ ?_)))
        case zw =>
          (repeat' (first | exact trivial))
        case zx =>
          (repeat' (first | exact trivial | exact Nat.le_of_ble_eq_true rfl | exact msMap_under _ | exact mfu (by decide) | exact mbu (by decide) | exact u5 _ | exact hulp (by decide) | exact gB_under _ | (refine And.intro ?_ ?_)))
        case zc =>
          (repeat' (first | (refine And.intro ?_ ?_) | exact trivial | exact A.Le.refl _))
        case zv =>
          (repeat' (first | exact trivial))
        case zh =>
          (repeat' (first | (refine And.intro ?_ ?_) | exact trivial | exact rfl))
        case zr =>
        refine Aw.ss rfl ?_
        refine RegL.partE tab_ok mb0 false 2 0 [(1, [.agg (G2.map A.bool)])] ?_
        conv => arg 5; whnf
        refine PartK.mk ?zo ?zk
        case zo =>
          repeat' apply AllP.cons
          all_goals first | exact trivial | exact Nat.le_of_ble_eq_true rfl | exact hld2 | exact hge2
        case zk =>
        refine Does.raw rfl (DoesR.call (fst := []) (cap := [.ref 1 0, .pt p.c, .ref 2 0]) rfl rfl (enters_of Try.func68 rfl rfl) (most_frame (setA_free _) hcall2 (H := _) (c := _) ⟨rfl, rfl, rfl, trivial⟩) ?_)
        rintro v H' c' ⟨rfl, rfl, met3, hm3, rfl⟩
        refine RegL.partE tab_ok mb0 false 1 3 [] ?_
        conv => arg 5; whnf
        refine PartK.mk ?zo ?zk
        case zo =>
          repeat' apply AllP.cons
          all_goals first | exact trivial
        case zk =>
        have hL2l := mostG_len p G2
        generalize mostG p G2 = L2 at *
        generalize hb1 : betK p g j = L1 at *
        have hu2 : ∀ {n : Nat}, Under n (setA L2) := (setA_free L2).under
        refine Aw.keep (n := 8) (cst := [(12, .ref 5 0), (13, .sl false .any (ints s)), (17, setA L2)]) (v := []) (Hl := bsH met3 p L1 ++ [(6, LB)]) h8e ?zu ?zw ?zx ⟨?zc, ?zv, ?zh, Nat.le_of_ble_eq_true rfl⟩ ?zr
        case zu =>
          (repeat' (first | exact trivial | exact (free_ints _ _ _).under | exact Under.ref _ _ (by decide) | exact hu2 | (refine And.intro ?_ ?_)))
        case zw =>
          (repeat' (first | exact trivial))
        case zx =>
          (repeat' (first | exact trivial | exact Nat.le_of_ble_eq_true rfl | exact msMap_under _ | exact mfu (by decide) | exact mbu (by decide) | exact u5 _ | exact hulp (by decide) | (refine And.intro ?_ ?_)))
        case zc =>
          (repeat' (first | (refine And.intro ?_ ?_) | exact trivial | exact A.Le.refl _))
        case zv =>
          (repeat' (first | exact trivial))
        case zh =>
          (repeat' (first | (refine And.intro ?_ ?_) | exact trivial | exact rfl))
        case zr =>
        have lL1 : ((L1.map yS).length : Int) = L1.length := by simp
        have lL2 : ((L2.map yS).length : Int) = L2.length := by simp
        refine Aw.sm tab_ok mb0 [] rfl rfl ?zo ?zk
        case zo =>
          repeat' apply AllP.cons
          all_goals first | exact trivial | exact Nat.le_of_ble_eq_true rfl | exact (by simp only [Ob.of, inR]; omega)
        case zk =>
        refine Aw.cond rfl (fun h3 => ?_) (fun h3 => Aw.skip ?_)
        · have h3 : decide (((L2.map yS).length : Int) + 1 > ((L1.map yS).length : Int)) = true := h3
          have h3 := of_decide_eq_true h3
          rw [if_pos (by omega)] at hbk
          have hz0 : ∀ z ∈ L2.map yS, z.length = 1 := fun z hz => by obtain ⟨x, _, rfl⟩ := List.mem_map.1 hz; rfl
          have hz1 : ∀ z ∈ [yS s] ++ L2.map yS, z.length = 1 := fun z hz => by
            rcases List.mem_append.1 hz with h | h
            · simp at h; subst h; rfl
            · exact hz0 z h
          have hzz : ∀ z ∈ [yS s], z.length = 1 := fun z hz => by simp at hz; subst hz; rfl
          have hll : (L2.map yS).length ≤ 10 := by rw [List.length_map]; exact hL2l
          have hz2 : ([yS s].length + (L2.map yS).length) * 24 ≤ 140737488355328 := by simp; omega
          have hz3 : [yS s].length + (L2.map yS).length ≤ maxLen := by simp [maxLen]; omega
          refine Aw.post (Q' := fun e s' => e = .normal ∧ 7 ≤ s'.c ∧ HasH s'.H (msH met3 p ++ [(5, .cells [.sl false (.own 22) ([yS s] ++ L2.map yS)]), (6, LB)])) ?_ ?_
          · refine Aw.em tab_ok mb0 [] rfl rfl ?zo ?zk
            case zo =>
              repeat' apply AllP.cons
              all_goals first | exact trivial | exact rfl | exact Nat.le_of_ble_eq_true rfl | exact hz1 | exact hz2 | exact hz3
            case zk =>
            exact ⟨rfl, Nat.le_of_ble_eq_true rfl, rfl, rfl, rfl, rfl, rfl, trivial⟩
          · rintro e s' ⟨rfl, hc, h0, h1', h2', h5, h6, _⟩
            refine ⟨s'.S, ofH (bsH met3 p (s :: L2) ++ [(6, LB)]), s'.c, ⟨⟨.busy, none, by rw [hLB]; rfl⟩, hc, ofH (bsH met3 p (s :: L2)), ⟨met3, hm3, by rw [hbk]⟩, HasH.ofH (l := bsH met3 p (s :: L2)) ⟨rfl, rfl, rfl, rfl, trivial⟩⟩, fun _ => .refl _, fun id bx' hb => ?_, Nat.le_refl _⟩
            simp only [bsH, msH, List.cons_append, List.nil_append, ofH, updH_apply] at hb
            split at hb
            · rename_i e; subst e; cases hb; exact ⟨_, h0, .refl _⟩
            split at hb
            · rename_i e; subst e; cases hb; exact ⟨_, h1', .refl _⟩
            split at hb
            · rename_i e; subst e; cases hb; exact ⟨_, h2', .refl _⟩
            split at hb
            · rename_i e; subst e; cases hb; exact ⟨_, h5, B.Le.cell1 (.any _ _ _)⟩
            split at hb
            · rename_i e; subst e; cases hb; exact ⟨_, h6, .refl _⟩
            · cases hb
        · have h3 : decide (((L2.map yS).length : Int) + 1 > ((L1.map yS).length : Int)) = false := h3
          have h3 := of_decide_eq_false h3
          rw [if_neg (by omega)] at hbk
          exact ⟨⟨.busy, none, congrArg some hLB.symm⟩, Nat.le_of_ble_eq_true rfl, ofH (bsH met3 p L1), ⟨met3, hm3, by rw [hbk]⟩, HasH.ofH (l := bsH met3 p L1) ⟨rfl, rfl, rfl, rfl, trivial⟩⟩
      · intro H c' hc' hsub
        obtain ⟨H2, ⟨met2, hm2, rfl⟩, hsub⟩ := hsub
        have hbe : betK p g ((barsF p k g).map yS).length = mostG p g := by
          rw [List.length_map, hstep]; unfold betK; rw [hfk, List.take_length, hg1]
        rw [hbe] at hsub
        refine Aw.keepH (n := 6) (cst := [(1, .ref 1 0), (4, .pt (g.map A.bool)), (12, .ref 5 0)]) (v := []) (J := fun H' => H' = ofH (bsH met2 p (mostG p g))) h6e ⟨.ref _ _ (by decide), ug, .ref _ _ (by decide), trivial⟩ trivial (fun _ e => e ▸ UnderH.ofH (bsH_under met2 p _ (Nat.le_refl _)))
          ⟨⟨.refl _, .refl _, .refl _, trivial⟩, trivial, ⟨_, rfl, hsub⟩, hc'⟩ ?_
        rintro _ rfl
        have hhas := ktyG.has setA met2 K
        have hup := ktyG.up setA met2 K (mostG p g)
        rw [hkA] at hhas hup
        refine Aw.sm tab_ok mb0 [(1, [.agg (g.map A.bool)])] rfl rfl ?zo ?zk
        case zo =>
          repeat' apply AllP.cons
          all_goals first | exact trivial | exact Nat.le_of_ble_eq_true rfl | exact hld | exact hge | exact hhas
        case zk =>
        refine Aw.sm tab_ok mb0 [] rfl rfl ?zo ?zk
        case zo =>
          repeat' apply AllP.cons
          all_goals first | exact trivial | exact Nat.le_of_ble_eq_true rfl
        case zk =>
        refine Aw.ret ⟨_, .cons (.tmp _) .nil, .refl _, mput met2 K (mostG p g), ⟨congrArg (fun x => some (B.map x)) hup, rfl, rfl, trivial⟩, fun e he => ?_⟩
        rcases mput_mem he with h | rfl
        · exact hm2 e h
        · show mostG p g = mostG p K.1
          rw [hK1]
end Go.Proofs.Ytampldajinhenaa

namespace Go.Proofs.Ytampldajinhenaa
open Go Go.AL Go.AL.Q Go.AL.Br
def setX : List (List Int) → A
  | [] => .sl true .exact []
  | s :: L => .sl false .exact ((s :: L).map yS)
theorem setX_free : ∀ L, Free (setX L)
  | [] => .sl _ _ _ (fun _ h => by cases h)
  | s :: L => free_map yS_free _ _ _
def setRA (r : List (List Int) × Int) : A := .tup [setX r.1, .int r.2]
set_option maxHeartbeats 1000000 in
theorem set_t (p : Pile) (hpl : (p.st.length : Int) ≤ 9223372036854775806) : Ans Try.prog 20 [.agg p.c] (setRA (SetR p)) := by
  have hfr : Free (setRA (SetR p)) := .tup _ (allC (setX_free _) (all1 (.s _)))
  have up : ∀ {n : Nat}, Under n (A.pt p.c) := (Free.pt _ p.free).under
  have hchk := pile_t p hpl
  refine told Try.func20 rfl rfl (Pure.of tab_ok Try.func20 rfl Try.ntmps20 rfl (all1 (.agg _ p.free)) (all1 (fun _ => rfl)) (by first | exact .s _ | assumption | exact .tup _ (by intro x hx; simp only [List.mem_cons, List.not_mem_nil, or_false] at hx; rcases hx with rfl | rfl | rfl | rfl <;> first | exact .s _ | (simp_all; done))) fun E hE => ?_)
  refine Aw.sm tab_ok mb0 [] rfl rfl ?zo ?zk
  case zo =>
    repeat' apply AllP.cons
    all_goals first | exact trivial
  case zk =>
  by_cases hpo : p.ok = true
  rotate_left
  · have e : SetR p = ([], 60) := by unfold SetR; rw [if_neg hpo]
    have e2 : p.chk = 60 := by unfold Pile.chk; rw [if_neg hpo]
    rw [e2] at hchk
    rw [e]
    refine Aw.seq ?_
    refine Aw.sm tab_ok mb0 [(1, [.int 60])] rfl rfl ?zo ?zk
    case zo =>
      repeat' apply AllP.cons
      all_goals first | exact trivial | exact Nat.le_of_ble_eq_true rfl | exact hchk
    case zk =>
    refine Aw.sm tab_ok mb0 [] rfl rfl ?zo ?zk
    case zo =>
      repeat' apply AllP.cons
      all_goals first | exact trivial
    case zk =>
    refine Aw.cond rfl (fun h => ?_) (fun h => by cases h)
    refine Aw.sm tab_ok mb0 [] rfl rfl ?zo ?zk
    case zo =>
      repeat' apply AllP.cons
      all_goals first | exact trivial
    case zk =>
    exact Aw.ret ⟨_, .cons (.tmp _) (.cons (.tmp _) .nil), rfl⟩
  have e : SetR p = if mostG p g0 = [] then ([], 4) else (mostG p g0, 0) := by unfold SetR; rw [if_pos hpo]; rfl
  have e2 : p.chk = 0 := by unfold Pile.chk; rw [if_pos hpo]
  have hP := Pile.ok_iff.1 hpo
  rw [e2] at hchk
  rw [e]
  refine Aw.seq ?_
  refine Aw.sm tab_ok mb0 [(1, [.int 0])] rfl rfl ?zo ?zk
  case zo =>
    repeat' apply AllP.cons
    all_goals first | exact trivial | exact Nat.le_of_ble_eq_true rfl | exact hchk
  case zk =>
  refine Aw.sm tab_ok mb0 [] rfl rfl ?zo ?zk
  case zo =>
    repeat' apply AllP.cons
    all_goals first | exact trivial
  case zk =>
  refine Aw.cond rfl (fun h => by cases h) (fun h => Aw.skip ?_)
  refine Aw.sm tab_ok mb0 [] rfl rfl ?zo ?zk
  case zo =>
    repeat' apply AllP.cons
    all_goals first | exact trivial | exact rfl | exact Nat.le_of_ble_eq_true rfl
  case zk =>
  refine Aw.freeze (id := 0) (t := 5) (cs := p.c) rfl rfl ?_
  refine Aw.keep (n := 0) (cst := [(5, .pt p.c)]) (v := []) (Hl := []) hE ?zu ?zw ?zx ⟨?zc, ?zv, ?zh, Nat.le_of_ble_eq_true rfl⟩ ?zr
  case zu =>
    (repeat' (first | exact trivial | exact up | (refine And.intro ?_ ?_)))
  case zw =>
    (repeat' (first | exact trivial))
  case zx =>
    (repeat' (first | exact trivial))
  case zc =>
    (repeat' (first | (refine And.intro ?_ ?_) | exact trivial | exact A.Le.refl _))
  case zv =>
    (repeat' (first | exact trivial))
  case zh =>
    (repeat' (first | exact trivial))
  case zr =>
  refine Aw.sm tab_ok mb0 [] rfl rfl ?zo ?zk
  case zo =>
    repeat' apply AllP.cons
    all_goals first | exact trivial | exact rfl | exact Nat.le_of_ble_eq_true rfl
  case zk =>
  refine Aw.sm tab_ok mb0 [] rfl rfl ?zo ?zk
  case zo =>
    repeat' apply AllP.cons
    all_goals first | exact trivial
  case zk =>
  refine Aw.sm tab_ok mb0 [] rfl rfl ?zo ?zk
  case zo =>
    repeat' apply AllP.cons
    all_goals first | exact trivial | exact rfl | exact Nat.le_of_ble_eq_true rfl
  case zk =>
  have h3e : ∀ id, 3 ≤ id → E.φ0 id = none := fun id _ => hE id (by omega)
  refine Aw.keep (n := 3) (cst := [(7, .ref 2 0)]) (v := []) (Hl := msH [] p) h3e ?zu ?zw ?zx ⟨?zc, ?zv, ?zh, Nat.le_of_ble_eq_true rfl⟩ ?zr
  case zu =>
    (repeat' (first | exact trivial | exact Under.ref _ _ (by decide) | (refine And.intro ?_ ?_)))
  case zw =>
    (repeat' (first | exact trivial))
  case zx =>
    (repeat' (first | exact trivial | exact Nat.le_of_ble_eq_true rfl | exact msMap_under _ | exact .cells _ (all1 (mostFn_under p (by omega))) | exact .cells _ (all1 (.mp _ (by omega))) | (refine And.intro ?_ ?_)))
  case zc =>
    (repeat' (first | (refine And.intro ?_ ?_) | exact trivial | exact A.Le.refl _))
  case zv =>
    (repeat' (first | exact trivial))
  case zh =>
    (repeat' (first | (refine And.intro ?_ ?_) | exact trivial | exact rfl))
  case zr =>
  have hn := hP.n
  have hcall := most_c p hP (p.st.length + 1) g0 [] (g0_ok p) (Nat.lt_succ_of_le (leftN_le p g0)) (fun _ h => nomatch h)
  have hml := mostG_len p g0
  refine Aw.ss rfl ?_
  refine RegL.partE tab_ok mb0 false 2 0 [] ?_
  conv => arg 5; whnf
  refine PartK.mk ?zo ?zk
  case zo =>
    repeat' apply AllP.cons
    all_goals first | exact trivial | exact Nat.le_of_ble_eq_true rfl
  case zk =>
  refine Does.raw rfl (DoesR.call (fst := []) (cap := [.ref 1 0, .pt p.c, .ref 2 0]) rfl rfl (enters_of Try.func68 rfl rfl) (most_frame (setA_free _) hcall (H := _) (c := _) ⟨rfl, rfl, rfl, trivial⟩) ?_)
  rintro v H' c' ⟨rfl, rfl, met1, hm1, rfl⟩
  refine RegL.partE tab_ok mb0 false 1 3 [] ?_
  conv => arg 5; whnf
  refine PartK.mk ?zo ?zk
  case zo =>
    repeat' apply AllP.cons
    all_goals first | exact trivial
  case zk =>
  generalize mostG p g0 = L at *
  have hu : ∀ {n : Nat}, Under n (setA L) := (setA_free L).under
  refine Aw.keep (n := 3) (cst := [(8, setA L)]) (v := []) (Hl := []) h3e ?zu ?zw ?zx ⟨?zc, ?zv, ?zh, Nat.le_of_ble_eq_true rfl⟩ ?zr
  case zu =>
    (repeat' (first | exact trivial | exact hu | (refine And.intro ?_ ?_)))
  case zw =>
    (repeat' (first | exact trivial))
  case zx =>
    (repeat' (first | exact trivial))
  case zc =>
    (repeat' (first | (refine And.intro ?_ ?_) | exact trivial | exact A.Le.refl _))
  case zv =>
    (repeat' (first | exact trivial))
  case zh =>
    (repeat' (first | exact trivial))
  case zr =>
  cases L with
  | nil =>
    refine Aw.seq ?_
    refine Aw.sm tab_ok mb0 [] rfl rfl ?zo ?zk
    case zo =>
      repeat' apply AllP.cons
      all_goals first | exact trivial
    case zk =>
    refine Aw.cond rfl (fun h => ?_) (fun h => by cases h)
    refine Aw.sm tab_ok mb0 [] rfl rfl ?zo ?zk
    case zo =>
      repeat' apply AllP.cons
      all_goals first | exact trivial
    case zk =>
    exact Aw.ret ⟨_, .cons (.tmp _) (.cons (.tmp _) .nil), rfl⟩
  | cons s L =>
    rw [if_neg (by simp)]
    refine Aw.seq ?_
    refine Aw.sm tab_ok mb0 [] rfl rfl ?zo ?zk
    case zo =>
      repeat' apply AllP.cons
      all_goals first | exact trivial
    case zk =>
    refine Aw.cond rfl (fun h => ?_) (fun h => Aw.skip ?_)
    · have h : ((((s :: L).map yS).length : Int) == 0) = true := h
      simp at h; omega
    have ht : ((s :: L).map yS).take (Int.toNat (((s :: L).map yS).length : Int)) = (s :: L).map yS := by rw [Int.toNat_natCast, List.take_length]
    refine Aw.sm tab_ok mb0 [] rfl rfl ?zo ?zk
    case zo =>
      repeat' apply AllP.cons
      all_goals first | exact trivial | exact rfl | exact Int.natCast_nonneg _ | exact Int.le_refl _
    case zk =>
    exact Aw.ret ⟨_, .cons (.tmp _) (.cons (.tmp _) .nil), by
      show A.tup [.sl false .exact (((s :: L).map yS).take (Int.toNat (((s :: L).map yS).length : Int))), .int 0] = _
      rw [ht]; rfl⟩
end Go.Proofs.Ytampldajinhenaa

namespace Go.Proofs.Ytampldajinhenaa
open Go Go.AL Go.AL.Q Go.AL.Br
theorem least_t (m : Mv) : Ans Try.prog 88 [.agg m.c] (.int m.lo) := by
  refine told Try.func88 rfl rfl (Pure.of tab_ok Try.func88 rfl Try.ntmps88 rfl (all1 (.agg _ m.free)) (all1 (fun _ => rfl)) (by first | exact .s _ | assumption | exact .tup _ (by intro x hx; simp only [List.mem_cons, List.not_mem_nil, or_false] at hx; rcases hx with rfl | rfl | rfl | rfl <;> first | exact .s _ | (simp_all; done))) fun E hE => ?_)
  refine Aw.sm tab_ok mb0 [] rfl rfl ?zo ?zk
  case zo =>
    repeat' apply AllP.cons
    all_goals first | exact trivial
  case zk =>
  refine Aw.sm tab_ok mb0 [] rfl rfl ?zo ?zk
  case zo =>
    repeat' apply AllP.cons
    all_goals first | exact trivial | exact Nat.le_of_ble_eq_true rfl
  case zk =>
  exact Aw.ret ⟨_, .cons (.tmp _) .nil, rfl⟩
theorem greatest_t (m : Mv) : Ans Try.prog 89 [.agg m.c] (.int m.hi) := by
  refine told Try.func89 rfl rfl (Pure.of tab_ok Try.func89 rfl Try.ntmps89 rfl (all1 (.agg _ m.free)) (all1 (fun _ => rfl)) (by first | exact .s _ | assumption | exact .tup _ (by intro x hx; simp only [List.mem_cons, List.not_mem_nil, or_false] at hx; rcases hx with rfl | rfl | rfl | rfl <;> first | exact .s _ | (simp_all; done))) fun E hE => ?_)
  refine Aw.sm tab_ok mb0 [] rfl rfl ?zo ?zk
  case zo =>
    repeat' apply AllP.cons
    all_goals first | exact trivial
  case zk =>
  refine Aw.sm tab_ok mb0 [] rfl rfl ?zo ?zk
  case zo =>
    repeat' apply AllP.cons
    all_goals first | exact trivial | exact Nat.le_of_ble_eq_true rfl
  case zk =>
  exact Aw.ret ⟨_, .cons (.tmp _) .nil, rfl⟩
def iB (l : List Int) : B := .cells (l.map A.int)
theorem iB_under (l : List Int) {n : Nat} : UnderB n (iB l) := .cells _ fun x hx => by obtain ⟨v, _, rfl⟩ := List.mem_map.1 hx; exact .s _
theorem set_cellsI {l : List Int} {k : Nat} {v : Int} (h : k < l.length) : setSeg (l.map A.int) (0 + k * 1) [A.int v] = (l.set k v).map A.int := by
  have := setSeg_app (l := []) (r := l.map A.int) (v := A.int v) (i := k) (by simpa using h)
  simp only [List.length_nil, Nat.zero_add, List.nil_append] at this
  rw [Nat.zero_add, Nat.mul_one, this, List.map_set]
theorem getI {g : List Int} {k : Nat} (h : k < g.length) : ((g.map A.int).getD (0 + k * 1) .un).down = .int (g.getD k 0) := by
  rw [Nat.zero_add, Nat.mul_one]; simp [List.getD_eq_getElem?_getD, h]; rfl
theorem rowsI (L : List Int) : RowsAre (L.map A.int) (ints L) 1 := ⟨ints_one L, by rw [ints_len, Nat.mul_one, List.length_map]; exact Nat.le_refl _, fun i j hi hj => by
  obtain rfl : j = 0 := by omega
  rw [ints_len] at hi
  simp [ints, List.getD_eq_getElem?_getD, hi]; rfl⟩
theorem mv_at {l : List Mv} {k : Nat} (h : k < l.length) : (l.map Mv.c)[k]? = some l[k].c := get_map h
set_option maxHeartbeats 1000000 in
theorem over_t (b : Book) (hb : b.Ok) (cb : Bool) (cs : List Int) (hc : CsOk b.ms cs) : Ans Try.prog 82 [.agg b.c, .sl cb .any (ints cs)] (.sl false .any (ints (ovL b.n b.ms cs))) := by
  have lm : ((b.ms.map Mv.c).length : Int) = b.ms.length := by simp
  have um : ∀ {n : Nat}, Under n (A.sl b.nn .any (b.ms.map Mv.c)) := (free_map Mv.free _ _ _).under
  have fc : Free (.sl cb .any (ints cs)) := free_ints _ _ _
  have uc : ∀ {n : Nat}, Under n (A.sl cb .any (ints cs)) := fc.under
  have hn := hb.n
  have hl := hb.l
  have hcl := hc.l
  have hnz : 0 ≤ b.n ∧ b.n ≤ 6 := by omega
  have hfr : Free (.sl false .any (ints (ovL b.n b.ms cs))) := free_ints _ _ _
  refine told Try.func82 rfl rfl (Pure.of tab_ok Try.func82 rfl Try.ntmps82 rfl (allC (.agg _ b.free) (all1 (fc))) (allC (fun _ => rfl) (all1 (fun _ => rfl))) (by first | exact .s _ | assumption | exact .tup _ (by intro x hx; simp only [List.mem_cons, List.not_mem_nil, or_false] at hx; rcases hx with rfl | rfl | rfl | rfl <;> first | exact .s _ | (simp_all; done))) fun E hE => ?_)
  refine Aw.sm tab_ok mb0 [] rfl rfl ?zo ?zk
  case zo =>
    repeat' apply AllP.cons
    all_goals first | exact trivial
  case zk =>
  have ub : ∀ {n : Nat}, Under n (A.pt b.c) := (Free.pt _ b.free).under
  have hz : B.cells (((List.range (b.n.toNat * 1)).map fun j => (tab.zr 3).getD (j % 1) .un).map A.down) = iB (ovL b.n (b.ms.take 0) (cs.take 0)) := by
    unfold iB ovL; congr 1
    rw [Nat.mul_one, List.map_map, List.map_map]
    refine List.map_congr_left fun j _ => ?_
    show ((tab.zr 3).getD (j % 1) .un).down = A.int (ov [] [] j)
    rw [Nat.mod_one]; rfl
  have hne : ∀ id, 1 ≤ id → E.φ0 id = none := fun id _ => hE id (by omega)
  refine Aw.sm tab_ok mb0 [] rfl rfl ?zo ?zk
  case zo =>
    repeat' apply AllP.cons
    all_goals first | exact trivial | exact rfl | exact Nat.le_of_ble_eq_true rfl | exact hnz.1 | exact (by simp only [Ob.of, maxLen]; omega) | exact (show ((8 : Nat) : Int) * b.n ≤ 140737488355328 by omega)
  case zk =>
  refine Aw.keep (n := 1) (cst := [(1, .sl cb .any (ints cs)), (2, .pt b.c), (5, .ms 0 0 b.n.toNat)]) (v := []) (Hl := [(0, iB (ovL b.n (b.ms.take 0) (cs.take 0)))]) hne ?zu ?zw ?zx ⟨?zc, ?zv, ?zh, Nat.le_of_ble_eq_true rfl⟩ ?zr
  case zu =>
    (repeat' (first | exact trivial | exact Under.s _ | exact Under.un | assumption | exact (free_ints _ _ _).under | exact Under.ref _ _ (by decide) | exact Under.ms _ _ _ (by decide) | exact Under.mp _ (by decide) | exact (Free.agg _ (by assumption)).under | exact (Free.pt _ (by assumption)).under | exact grL_under _ | exact outA_under _ | exact Nat.le_of_ble_eq_true rfl | exact (fun _ _ => rfl) | exact um | exact ub | exact uc | exact iB_under _ | exact congrArg some hz | (refine And.intro ?_ ?_)))
  case zw =>
    (repeat' (first | exact trivial | exact Under.s _ | exact Under.un | assumption | exact (free_ints _ _ _).under | exact Under.ref _ _ (by decide) | exact Under.ms _ _ _ (by decide) | exact Under.mp _ (by decide) | exact (Free.agg _ (by assumption)).under | exact (Free.pt _ (by assumption)).under | exact grL_under _ | exact outA_under _ | exact Nat.le_of_ble_eq_true rfl | exact (fun _ _ => rfl) | exact um | exact ub | exact uc | exact iB_under _ | exact congrArg some hz | (refine And.intro ?_ ?_)))
  case zx =>
    (repeat' (first | exact trivial | exact Under.s _ | exact Under.un | assumption | exact (free_ints _ _ _).under | exact Under.ref _ _ (by decide) | exact Under.ms _ _ _ (by decide) | exact Under.mp _ (by decide) | exact (Free.agg _ (by assumption)).under | exact (Free.pt _ (by assumption)).under | exact grL_under _ | exact outA_under _ | exact Nat.le_of_ble_eq_true rfl | exact (fun _ _ => rfl) | exact um | exact ub | exact uc | exact iB_under _ | exact congrArg some hz | (refine And.intro ?_ ?_)))
  case zc =>
    (repeat' (first | (refine And.intro ?_ ?_) | exact trivial | exact A.Le.refl _ | exact rfl | exact um | exact ub | exact uc | exact iB_under _ | exact congrArg some hz))
  case zv =>
    (repeat' (first | (refine And.intro ?_ ?_) | exact trivial | exact A.Le.refl _ | exact rfl | exact um | exact ub | exact uc | exact iB_under _ | exact congrArg some hz))
  case zh =>
    (repeat' (first | (refine And.intro ?_ ?_) | exact trivial | exact A.Le.refl _ | exact rfl | exact um | exact ub | exact uc | exact iB_under _ | exact congrArg some hz))
  case zr =>
  refine Aw.seq ?_
  refine Aw.sm tab_ok mb0 [] rfl rfl ?zo ?zk
  case zo =>
    repeat' apply AllP.cons
    all_goals first | exact trivial | exact Nat.le_of_ble_eq_true rfl
  case zk =>
  refine Aw.block (Aw.rounds 1 hne [(1, .sl cb .any (ints cs)), (5, .ms 0 0 b.n.toNat), (14, .sl b.nn .any (b.ms.map Mv.c)), (15, .int b.ms.length)] (fun k : Nat => [(16, .int k)]) (fun k => [(0, iB (ovL b.n (b.ms.take k) (cs.take k)))]) (fun k => k ≤ b.ms.length) (fun k => b.ms.length - k) 0 ?zg ⟨?zc, ?zv, ?zh, Nat.le_of_ble_eq_true rfl⟩ ?zu (fun k zhk => ?zw) (fun k zhk => ?zx) fun k hk => ?zr)
  case zg =>
    (repeat' (first | exact Nat.zero_le _ | exact Nat.le_refl _ | exact trivial | exact um | exact ub | exact uc | exact iB_under _ | exact .of_eq (congrArg A.int lm.symm) | (refine And.intro ?_ ?_)))
  case zc =>
    (repeat' (first | (refine And.intro ?_ ?_) | exact trivial | exact A.Le.refl _ | exact rfl | exact um | exact ub | exact uc | exact iB_under _ | exact .of_eq (congrArg A.int lm.symm)))
  case zv =>
    (repeat' (first | (refine And.intro ?_ ?_) | exact trivial | exact A.Le.refl _ | exact rfl | exact um | exact ub | exact uc | exact iB_under _ | exact .of_eq (congrArg A.int lm.symm)))
  case zh =>
    (repeat' (first | (refine And.intro ?_ ?_) | exact trivial | exact A.Le.refl _ | exact rfl | exact um | exact ub | exact uc | exact iB_under _ | exact .of_eq (congrArg A.int lm.symm)))
  case zu =>
    (repeat' (first | exact trivial | exact Under.s _ | exact Under.un | assumption | exact (free_ints _ _ _).under | exact Under.ref _ _ (by decide) | exact Under.ms _ _ _ (by decide) | exact Under.mp _ (by decide) | exact (Free.agg _ (by assumption)).under | exact (Free.pt _ (by assumption)).under | exact grL_under _ | exact outA_under _ | exact Nat.le_of_ble_eq_true rfl | exact (fun _ _ => rfl) | exact um | exact ub | exact uc | exact iB_under _ | exact .of_eq (congrArg A.int lm.symm) | (refine And.intro ?_ ?_)))
  case zw =>
    (repeat' (first | exact trivial | exact Under.s _ | exact Under.un | assumption | exact (free_ints _ _ _).under | exact Under.ref _ _ (by decide) | exact Under.ms _ _ _ (by decide) | exact Under.mp _ (by decide) | exact (Free.agg _ (by assumption)).under | exact (Free.pt _ (by assumption)).under | exact grL_under _ | exact outA_under _ | exact Nat.le_of_ble_eq_true rfl | exact (fun _ _ => rfl) | exact um | exact ub | exact uc | exact iB_under _ | exact .of_eq (congrArg A.int lm.symm) | (refine And.intro ?_ ?_)))
  case zx =>
    (repeat' (first | exact trivial | exact Under.s _ | exact Under.un | assumption | exact (free_ints _ _ _).under | exact Under.ref _ _ (by decide) | exact Under.ms _ _ _ (by decide) | exact Under.mp _ (by decide) | exact (Free.agg _ (by assumption)).under | exact (Free.pt _ (by assumption)).under | exact grL_under _ | exact outA_under _ | exact Nat.le_of_ble_eq_true rfl | exact (fun _ _ => rfl) | exact um | exact ub | exact uc | exact iB_under _ | exact .of_eq (congrArg A.int lm.symm) | (refine And.intro ?_ ?_)))
  case zr =>
  refine Aw.sm tab_ok mb0 [] rfl rfl ?zo ?zk
  case zo =>
    repeat' apply AllP.cons
    all_goals first | exact trivial
  case zk =>
  refine Aw.seq (Aw.cond rfl (fun h1 => Aw.skip1 ?_) (fun h1 => Aw.exit2 ?_))
  · have hlt : k < b.ms.length := by have := of_decide_eq_true h1; omega
    have hgm := mv_at hlt
    have hmo := hb.m _ (List.getElem_mem hlt)
    have hkc : k < cs.length := by omega
    have hcv : 0 ≤ cs.getD k 0 ∧ cs.getD k 0 ≤ 1000 := by
      have e : cs.getD k 0 = cs[k] := by simp [List.getD_eq_getElem?_getD, hkc]
      rw [e]; exact hc.b _ (List.getElem_mem hkc)
    have hgc := ints_getD hkc
    have hst := ovL_step hlt hcl (n := b.n) (m := b.ms[k]) (c := cs.getD k 0) rfl rfl hmo
    have hbd := fun s => ov_bd (ms := b.ms.take k) (cs := cs.take k) (fun c h => hc.b c (List.mem_of_mem_take h)) s
    have htl : (b.ms.take k).length ≤ 10 := by rw [List.length_take]; omega
    have hf := hmo.f
    have ht := hmo.t
    have hne' := hmo.ne
    have hgt := ovL_get (ms := b.ms.take k) (cs := cs.take k) hmo.t
    have hgf := ovL_get (ms := b.ms.take k) (cs := cs.take k) hmo.f
    have hol := ovL_len b.n (b.ms.take k) (cs.take k)
    generalize b.ms[k] = m at *
    generalize cs.getD k 0 = c at *
    generalize hL1 : ovL b.n (b.ms.take (k + 1)) (cs.take (k + 1)) = L1 at *
    generalize ovL b.n (b.ms.take k) (cs.take k) = L at *
    have hbt := hbd m.to
    have hbf := hbd m.fr
    generalize ov (b.ms.take k) (cs.take k) m.to = xt at *
    generalize ov (b.ms.take k) (cs.take k) m.fr = xf at *
    clear hbd
    refine Aw.seq (Aw.block ?_)
    refine Aw.sm tab_ok mb0 [(1, m.c)] rfl rfl ?zo ?zk
    case zo =>
      repeat' apply AllP.cons
      all_goals first | exact trivial | exact rfl | exact Nat.le_of_ble_eq_true rfl | exact Int.natCast_nonneg _ | exact hgm
    case zk =>
    have q1 : ((L.map A.int).getD (0 + m.to.toNat * 1) .un).down = .int xt := by rw [← hgt]; exact getI (by omega)
    have q2 : 0 + m.to.toNat * 1 + 1 ≤ (L.map A.int).length := by rw [List.length_map, hol]; omega
    have q3 : 0 + m.to.toNat * 1 < (L.map A.int).length := by omega
    have q4 : m.to < ((b.n.toNat : Nat) : Int) := by omega
    refine Aw.sd tab_ok mixed mb0 [(4, [.int xt]), (7, [.int c])] rfl (by kernel_rfl) rfl rfl ?zo ?zk
    case zo =>
      repeat' apply AllP.cons
      all_goals first | exact trivial | exact rfl | exact Nat.le_of_ble_eq_true rfl | exact Int.natCast_nonneg _ | exact q1 | exact q2 | exact q4 | exact hgc | exact ht.1 | exact (by simp only [Ob.of, inR]; omega)
    case zk =>
    have hs1 := congrArg (fun x => some (B.cells x)) (set_cellsI (l := L) (k := m.to.toNat) (v := xt + c) (by omega))
    have hne2 : ∀ id, 2 ≤ id → E.φ0 id = none := fun id _ => hE id (by omega)
    refine Aw.keep (n := 2) (cst := [(1, .sl cb .any (ints cs)), (5, .ms 0 0 b.n.toNat), (14, .sl b.nn .any (b.ms.map Mv.c)), (15, .int b.ms.length), (7, .ref 1 0), (6, .int k)]) (v := [(16, .int k)]) (Hl := [(0, iB (L.set m.to.toNat (xt + c))), (1, .cells m.c)]) hne2 ?zu ?zw ?zx ⟨?zc, ?zv, ?zh, Nat.le_of_ble_eq_true rfl⟩ ?zr
    case zu =>
      (repeat' (first | exact trivial | exact Under.s _ | exact Under.un | assumption | exact (free_ints _ _ _).under | exact Under.ref _ _ (by decide) | exact Under.ms _ _ _ (by decide) | exact Under.mp _ (by decide) | exact (Free.agg _ (by assumption)).under | exact (Free.pt _ (by assumption)).under | exact grL_under _ | exact outA_under _ | exact Nat.le_of_ble_eq_true rfl | exact (fun _ _ => rfl) | exact um | exact ub | exact uc | exact iB_under _ | exact hs1 | exact .cells _ (fun x hx => (m.free x hx).under) | (refine And.intro ?_ ?_)))
    case zw =>
      (repeat' (first | exact trivial | exact Under.s _ | exact Under.un | assumption | exact (free_ints _ _ _).under | exact Under.ref _ _ (by decide) | exact Under.ms _ _ _ (by decide) | exact Under.mp _ (by decide) | exact (Free.agg _ (by assumption)).under | exact (Free.pt _ (by assumption)).under | exact grL_under _ | exact outA_under _ | exact Nat.le_of_ble_eq_true rfl | exact (fun _ _ => rfl) | exact um | exact ub | exact uc | exact iB_under _ | exact hs1 | exact .cells _ (fun x hx => (m.free x hx).under) | (refine And.intro ?_ ?_)))
    case zx =>
      (repeat' (first | exact trivial | exact Under.s _ | exact Under.un | assumption | exact (free_ints _ _ _).under | exact Under.ref _ _ (by decide) | exact Under.ms _ _ _ (by decide) | exact Under.mp _ (by decide) | exact (Free.agg _ (by assumption)).under | exact (Free.pt _ (by assumption)).under | exact grL_under _ | exact outA_under _ | exact Nat.le_of_ble_eq_true rfl | exact (fun _ _ => rfl) | exact um | exact ub | exact uc | exact iB_under _ | exact hs1 | exact .cells _ (fun x hx => (m.free x hx).under) | (refine And.intro ?_ ?_)))
    case zc =>
      (repeat' (first | (refine And.intro ?_ ?_) | exact trivial | exact A.Le.refl _ | exact rfl | exact um | exact ub | exact uc | exact iB_under _ | exact hs1 | exact .cells _ (fun x hx => (m.free x hx).under)))
    case zv =>
      (repeat' (first | (refine And.intro ?_ ?_) | exact trivial | exact A.Le.refl _ | exact rfl | exact um | exact ub | exact uc | exact iB_under _ | exact hs1 | exact .cells _ (fun x hx => (m.free x hx).under)))
    case zh =>
      (repeat' (first | (refine And.intro ?_ ?_) | exact trivial | exact A.Le.refl _ | exact rfl | exact um | exact ub | exact uc | exact iB_under _ | exact hs1 | exact .cells _ (fun x hx => (m.free x hx).under)))
    case zr =>
    have hol2 : (L.set m.to.toNat (xt + c)).length = b.n.toNat := by rw [List.length_set]; exact hol
    have hgf2 : (L.set m.to.toNat (xt + c)).getD m.fr.toNat 0 = xf := by
      rw [List.getD_eq_getElem?_getD, List.getElem?_set, if_neg (by omega), ← List.getD_eq_getElem?_getD]; exact hgf
    have hs2 := congrArg (fun x => some (B.cells x)) (set_cellsI (l := L.set m.to.toNat (xt + c)) (k := m.fr.toNat) (v := xf - c) (by omega))
    rw [hst] at hs2
    generalize L.set m.to.toNat (xt + c) = L2 at *
    have r1 : ((L2.map A.int).getD (0 + m.fr.toNat * 1) .un).down = .int xf := by rw [← hgf2]; exact getI (by omega)
    have r2 : 0 + m.fr.toNat * 1 + 1 ≤ (L2.map A.int).length := by rw [List.length_map, hol2]; omega
    have r3 : 0 + m.fr.toNat * 1 < (L2.map A.int).length := by omega
    have r4 : m.fr < ((b.n.toNat : Nat) : Int) := by omega
    refine Aw.ed tab_ok mixed mb0 [(4, [.int xf]), (7, [.int c])] rfl (by kernel_rfl) rfl rfl ?zo ?zk
    case zo =>
      repeat' apply AllP.cons
      all_goals first | exact trivial | exact rfl | exact Nat.le_of_ble_eq_true rfl | exact Int.natCast_nonneg _ | exact r1 | exact r2 | exact r4 | exact hgc | exact hf.1 | exact (by simp only [Ob.of, inR]; omega)
    case zk =>
    refine Aw.em tab_ok mb0 [] rfl rfl ?zo ?zk
    case zo =>
      repeat' apply AllP.cons
      all_goals first | exact trivial | exact inrk k (by omega)
    case zk =>
    refine ⟨k + 1, ?zg, ?zm, ⟨?zc, ?zv, ?zh, Nat.le_of_ble_eq_true rfl⟩⟩
    case zg =>
      (repeat' (first | assumption | omega | exact hs2.trans (congrArg (fun x => some (iB x)) hL1.symm) | (refine And.intro ?_ ?_)))
    case zm =>
      (repeat' (first | omega | exact hs2.trans (congrArg (fun x => some (iB x)) hL1.symm) | (refine And.intro ?_ ?_)))
    case zc =>
      (repeat' (first | (refine And.intro ?_ ?_) | exact trivial | exact A.Le.refl _ | exact rfl | exact hs2.trans (congrArg (fun x => some (iB x)) hL1.symm)))
    case zv =>
      (repeat' (first | (refine And.intro ?_ ?_) | exact trivial | exact A.Le.refl _ | exact rfl | exact hs2.trans (congrArg (fun x => some (iB x)) hL1.symm)))
    case zh =>
      (repeat' (first | (refine And.intro ?_ ?_) | exact trivial | exact A.Le.refl _ | exact rfl | exact hs2.trans (congrArg (fun x => some (iB x)) hL1.symm)))
  have hle : k = b.ms.length := by have := of_decide_eq_false h1; omega
  subst hle
  have hcs : cs.take b.ms.length = cs := by rw [hcl, List.take_length]
  rw [List.take_length, hcs]
  have hol := ovL_len b.n b.ms cs
  generalize ovL b.n b.ms cs = L at *
  refine Aw.freezeS (id := 0) (t := 5) (n := b.n.toNat) (sz := 1) (cs := L.map A.int) (ints L) rfl rfl (rowsI L) (by rw [ints_len]; exact hol) ?_
  refine Aw.sm tab_ok mb0 [] rfl rfl ?zo ?zk
  case zo =>
    repeat' apply AllP.cons
    all_goals first | exact trivial
  case zk =>
  exact Aw.ret ⟨_, .cons (.tmp _) .nil, rfl⟩
set_option maxHeartbeats 1000000 in
theorem over_m (b : Book) (hb : b.Ok) (cs : List Int) (hc : CsOk b.ms cs) : SCall Try.prog 82 [.agg b.c, .ms 0 0 cs.length] (ofH [(0, iB cs)]) 1 (fun v H' _ => v = .sl false .any (ints (ovL b.n b.ms cs)) ∧ H' = ofH [(0, iB cs)]) := by
  have lm : ((b.ms.map Mv.c).length : Int) = b.ms.length := by simp
  have um : ∀ {n : Nat}, Under n (A.sl b.nn .any (b.ms.map Mv.c)) := (free_map Mv.free _ _ _).under
  have uc : Under 2 (A.ms 0 0 cs.length) := .ms _ _ _ (by decide)
  have hn := hb.n
  have hl := hb.l
  have hcl := hc.l
  have hnz : 0 ≤ b.n ∧ b.n ≤ 6 := by omega
  refine SCall.drop (post := fun v H' _ => v = .sl false .any (ints (ovL b.n b.ms cs)) ∧ HasH H' [(0, iB cs)]) (SCall.of_bodyN tab_ok Try.func82 rfl Try.ntmps82 (Nat.le_of_ble_eq_true rfl) (allC (fun _ => rfl) (all1 fun _ => rfl)) fun E hE => ?_)
    (fun v H' c' h => ⟨_, h.2.ofH, h.1, rfl⟩)
  refine Aw.sm tab_ok mb0 [] rfl rfl ?zo ?zk
  case zo =>
    repeat' apply AllP.cons
    all_goals first | exact trivial
  case zk =>
  have ub : ∀ {n : Nat}, Under n (A.pt b.c) := (Free.pt _ b.free).under
  have hz : B.cells (((List.range (b.n.toNat * 1)).map fun j => (tab.zr 3).getD (j % 1) .un).map A.down) = iB (ovL b.n (b.ms.take 0) (cs.take 0)) := by
    unfold iB ovL; congr 1
    rw [Nat.mul_one, List.map_map, List.map_map]
    refine List.map_congr_left fun j _ => ?_
    show ((tab.zr 3).getD (j % 1) .un).down = A.int (ov [] [] j)
    rw [Nat.mod_one]; rfl
  have hne : ∀ id, 2 ≤ id → E.φ0 id = none := fun id _ => hE id (by omega)
  refine Aw.sm tab_ok mb0 [] rfl rfl ?zo ?zk
  case zo =>
    repeat' apply AllP.cons
    all_goals first | exact trivial | exact rfl | exact Nat.le_of_ble_eq_true rfl | exact hnz.1 | exact (by simp only [Ob.of, maxLen]; omega) | exact (show ((8 : Nat) : Int) * b.n ≤ 140737488355328 by omega)
  case zk =>
  refine Aw.keep (n := 2) (cst := [(1, .ms 0 0 cs.length), (2, .pt b.c), (5, .ms 1 0 b.n.toNat)]) (v := []) (Hl := [(0, iB cs), (1, iB (ovL b.n (b.ms.take 0) (cs.take 0)))]) hne ?zu ?zw ?zx ⟨?zc, ?zv, ?zh, Nat.le_of_ble_eq_true rfl⟩ ?zr
  case zu =>
    (repeat' (first | exact trivial | exact Under.s _ | exact Under.un | assumption | exact (free_ints _ _ _).under | exact Under.ref _ _ (by decide) | exact Under.ms _ _ _ (by decide) | exact Under.mp _ (by decide) | exact (Free.agg _ (by assumption)).under | exact (Free.pt _ (by assumption)).under | exact grL_under _ | exact outA_under _ | exact Nat.le_of_ble_eq_true rfl | exact (fun _ _ => rfl) | exact um | exact ub | exact uc | exact iB_under _ | exact congrArg some hz | (refine And.intro ?_ ?_)))
  case zw =>
    (repeat' (first | exact trivial | exact Under.s _ | exact Under.un | assumption | exact (free_ints _ _ _).under | exact Under.ref _ _ (by decide) | exact Under.ms _ _ _ (by decide) | exact Under.mp _ (by decide) | exact (Free.agg _ (by assumption)).under | exact (Free.pt _ (by assumption)).under | exact grL_under _ | exact outA_under _ | exact Nat.le_of_ble_eq_true rfl | exact (fun _ _ => rfl) | exact um | exact ub | exact uc | exact iB_under _ | exact congrArg some hz | (refine And.intro ?_ ?_)))
  case zx =>
    (repeat' (first | exact trivial | exact Under.s _ | exact Under.un | assumption | exact (free_ints _ _ _).under | exact Under.ref _ _ (by decide) | exact Under.ms _ _ _ (by decide) | exact Under.mp _ (by decide) | exact (Free.agg _ (by assumption)).under | exact (Free.pt _ (by assumption)).under | exact grL_under _ | exact outA_under _ | exact Nat.le_of_ble_eq_true rfl | exact (fun _ _ => rfl) | exact um | exact ub | exact uc | exact iB_under _ | exact congrArg some hz | (refine And.intro ?_ ?_)))
  case zc =>
    (repeat' (first | (refine And.intro ?_ ?_) | exact trivial | exact A.Le.refl _ | exact rfl | exact um | exact ub | exact uc | exact iB_under _ | exact congrArg some hz))
  case zv =>
    (repeat' (first | (refine And.intro ?_ ?_) | exact trivial | exact A.Le.refl _ | exact rfl | exact um | exact ub | exact uc | exact iB_under _ | exact congrArg some hz))
  case zh =>
    (repeat' (first | (refine And.intro ?_ ?_) | exact trivial | exact A.Le.refl _ | exact rfl | exact um | exact ub | exact uc | exact iB_under _ | exact congrArg some hz))
  case zr =>
  refine Aw.seq ?_
  refine Aw.sm tab_ok mb0 [] rfl rfl ?zo ?zk
  case zo =>
    repeat' apply AllP.cons
    all_goals first | exact trivial | exact Nat.le_of_ble_eq_true rfl
  case zk =>
  refine Aw.block (Aw.rounds 2 hne [(1, .ms 0 0 cs.length), (5, .ms 1 0 b.n.toNat), (14, .sl b.nn .any (b.ms.map Mv.c)), (15, .int b.ms.length)] (fun k : Nat => [(16, .int k)]) (fun k => [(0, iB cs), (1, iB (ovL b.n (b.ms.take k) (cs.take k)))]) (fun k => k ≤ b.ms.length) (fun k => b.ms.length - k) 0 ?zg ⟨?zc, ?zv, ?zh, Nat.le_of_ble_eq_true rfl⟩ ?zu (fun k zhk => ?zw) (fun k zhk => ?zx) fun k hk => ?zr)
  case zg =>
    (repeat' (first | exact Nat.zero_le _ | exact Nat.le_refl _ | exact trivial | exact um | exact ub | exact uc | exact iB_under _ | exact .of_eq (congrArg A.int lm.symm) | (refine And.intro ?_ ?_)))
  case zc =>
    (repeat' (first | (refine And.intro ?_ ?_) | exact trivial | exact A.Le.refl _ | exact rfl | exact um | exact ub | exact uc | exact iB_under _ | exact .of_eq (congrArg A.int lm.symm)))
  case zv =>
    (repeat' (first | (refine And.intro ?_ ?_) | exact trivial | exact A.Le.refl _ | exact rfl | exact um | exact ub | exact uc | exact iB_under _ | exact .of_eq (congrArg A.int lm.symm)))
  case zh =>
    (repeat' (first | (refine And.intro ?_ ?_) | exact trivial | exact A.Le.refl _ | exact rfl | exact um | exact ub | exact uc | exact iB_under _ | exact .of_eq (congrArg A.int lm.symm)))
  case zu =>
    (repeat' (first | exact trivial | exact Under.s _ | exact Under.un | assumption | exact (free_ints _ _ _).under | exact Under.ref _ _ (by decide) | exact Under.ms _ _ _ (by decide) | exact Under.mp _ (by decide) | exact (Free.agg _ (by assumption)).under | exact (Free.pt _ (by assumption)).under | exact grL_under _ | exact outA_under _ | exact Nat.le_of_ble_eq_true rfl | exact (fun _ _ => rfl) | exact um | exact ub | exact uc | exact iB_under _ | exact .of_eq (congrArg A.int lm.symm) | (refine And.intro ?_ ?_)))
  case zw =>
    (repeat' (first | exact trivial | exact Under.s _ | exact Under.un | assumption | exact (free_ints _ _ _).under | exact Under.ref _ _ (by decide) | exact Under.ms _ _ _ (by decide) | exact Under.mp _ (by decide) | exact (Free.agg _ (by assumption)).under | exact (Free.pt _ (by assumption)).under | exact grL_under _ | exact outA_under _ | exact Nat.le_of_ble_eq_true rfl | exact (fun _ _ => rfl) | exact um | exact ub | exact uc | exact iB_under _ | exact .of_eq (congrArg A.int lm.symm) | (refine And.intro ?_ ?_)))
  case zx =>
    (repeat' (first | exact trivial | exact Under.s _ | exact Under.un | assumption | exact (free_ints _ _ _).under | exact Under.ref _ _ (by decide) | exact Under.ms _ _ _ (by decide) | exact Under.mp _ (by decide) | exact (Free.agg _ (by assumption)).under | exact (Free.pt _ (by assumption)).under | exact grL_under _ | exact outA_under _ | exact Nat.le_of_ble_eq_true rfl | exact (fun _ _ => rfl) | exact um | exact ub | exact uc | exact iB_under _ | exact .of_eq (congrArg A.int lm.symm) | (refine And.intro ?_ ?_)))
  case zr =>
  refine Aw.sm tab_ok mb0 [] rfl rfl ?zo ?zk
  case zo =>
    repeat' apply AllP.cons
    all_goals first | exact trivial
  case zk =>
  refine Aw.seq (Aw.cond rfl (fun h1 => Aw.skip1 ?_) (fun h1 => Aw.exit2 ?_))
  · have hlt : k < b.ms.length := by have := of_decide_eq_true h1; omega
    have hgm := mv_at hlt
    have hmo := hb.m _ (List.getElem_mem hlt)
    have hkc : k < cs.length := by omega
    have hcv : 0 ≤ cs.getD k 0 ∧ cs.getD k 0 ≤ 1000 := by
      have e : cs.getD k 0 = cs[k] := by simp [List.getD_eq_getElem?_getD, hkc]
      rw [e]; exact hc.b _ (List.getElem_mem hkc)
    have hgc := getI hkc
    have hst := ovL_step hlt hcl (n := b.n) (m := b.ms[k]) (c := cs.getD k 0) rfl rfl hmo
    have hbd := fun s => ov_bd (ms := b.ms.take k) (cs := cs.take k) (fun c h => hc.b c (List.mem_of_mem_take h)) s
    have htl : (b.ms.take k).length ≤ 10 := by rw [List.length_take]; omega
    have hf := hmo.f
    have ht := hmo.t
    have hne' := hmo.ne
    have hgt := ovL_get (ms := b.ms.take k) (cs := cs.take k) hmo.t
    have hgf := ovL_get (ms := b.ms.take k) (cs := cs.take k) hmo.f
    have hol := ovL_len b.n (b.ms.take k) (cs.take k)
    generalize b.ms[k] = m at *
    generalize cs.getD k 0 = c at *
    generalize hL1 : ovL b.n (b.ms.take (k + 1)) (cs.take (k + 1)) = L1 at *
    generalize ovL b.n (b.ms.take k) (cs.take k) = L at *
    have hbt := hbd m.to
    have hbf := hbd m.fr
    generalize ov (b.ms.take k) (cs.take k) m.to = xt at *
    generalize ov (b.ms.take k) (cs.take k) m.fr = xf at *
    clear hbd
    refine Aw.seq (Aw.block ?_)
    refine Aw.sm tab_ok mb0 [(1, m.c)] rfl rfl ?zo ?zk
    case zo =>
      repeat' apply AllP.cons
      all_goals first | exact trivial | exact rfl | exact Nat.le_of_ble_eq_true rfl | exact Int.natCast_nonneg _ | exact hgm
    case zk =>
    have q1 : ((L.map A.int).getD (0 + m.to.toNat * 1) .un).down = .int xt := by rw [← hgt]; exact getI (by omega)
    have q2 : 0 + m.to.toNat * 1 + 1 ≤ (L.map A.int).length := by rw [List.length_map, hol]; omega
    have q3 : 0 + m.to.toNat * 1 < (L.map A.int).length := by omega
    have q4 : m.to < ((b.n.toNat : Nat) : Int) := by omega
    refine Aw.sd tab_ok mixed mb0 [(4, [.int xt]), (8, [.int c])] rfl (by kernel_rfl) rfl rfl ?zo ?zk
    case zo =>
      repeat' apply AllP.cons
      all_goals first | exact trivial | exact rfl | exact Nat.le_of_ble_eq_true rfl | exact Int.natCast_nonneg _ | exact q1 | exact q2 | exact q4 | exact hgc | exact ht.1 | exact (by simp only [Ob.of, inR]; omega) | exact (show 0 + Int.toNat (k : Int) * 1 < (cs.map A.int).length by rw [List.length_map, Int.toNat_natCast]; omega)
    case zk =>
    have hs1 := congrArg (fun x => some (B.cells x)) (set_cellsI (l := L) (k := m.to.toNat) (v := xt + c) (by omega))
    have hne2 : ∀ id, 3 ≤ id → E.φ0 id = none := fun id _ => hE id (by omega)
    refine Aw.keep (n := 3) (cst := [(1, .ms 0 0 cs.length), (5, .ms 1 0 b.n.toNat), (14, .sl b.nn .any (b.ms.map Mv.c)), (15, .int b.ms.length), (7, .ref 2 0), (6, .int k)]) (v := [(16, .int k)]) (Hl := [(0, iB cs), (1, iB (L.set m.to.toNat (xt + c))), (2, .cells m.c)]) hne2 ?zu ?zw ?zx ⟨?zc, ?zv, ?zh, Nat.le_of_ble_eq_true rfl⟩ ?zr
    case zu =>
      (repeat' (first | exact trivial | exact Under.s _ | exact Under.un | assumption | exact (free_ints _ _ _).under | exact Under.ref _ _ (by decide) | exact Under.ms _ _ _ (by decide) | exact Under.mp _ (by decide) | exact (Free.agg _ (by assumption)).under | exact (Free.pt _ (by assumption)).under | exact grL_under _ | exact outA_under _ | exact Nat.le_of_ble_eq_true rfl | exact (fun _ _ => rfl) | exact um | exact ub | exact uc | exact iB_under _ | exact hs1 | exact .cells _ (fun x hx => (m.free x hx).under) | (refine And.intro ?_ ?_)))
    case zw =>
      (repeat' (first | exact trivial | exact Under.s _ | exact Under.un | assumption | exact (free_ints _ _ _).under | exact Under.ref _ _ (by decide) | exact Under.ms _ _ _ (by decide) | exact Under.mp _ (by decide) | exact (Free.agg _ (by assumption)).under | exact (Free.pt _ (by assumption)).under | exact grL_under _ | exact outA_under _ | exact Nat.le_of_ble_eq_true rfl | exact (fun _ _ => rfl) | exact um | exact ub | exact uc | exact iB_under _ | exact hs1 | exact .cells _ (fun x hx => (m.free x hx).under) | (refine And.intro ?_ ?_)))
    case zx =>
      (repeat' (first | exact trivial | exact Under.s _ | exact Under.un | assumption | exact (free_ints _ _ _).under | exact Under.ref _ _ (by decide) | exact Under.ms _ _ _ (by decide) | exact Under.mp _ (by decide) | exact (Free.agg _ (by assumption)).under | exact (Free.pt _ (by assumption)).under | exact grL_under _ | exact outA_under _ | exact Nat.le_of_ble_eq_true rfl | exact (fun _ _ => rfl) | exact um | exact ub | exact uc | exact iB_under _ | exact hs1 | exact .cells _ (fun x hx => (m.free x hx).under) | (refine And.intro ?_ ?_)))
    case zc =>
      (repeat' (first | (refine And.intro ?_ ?_) | exact trivial | exact A.Le.refl _ | exact rfl | exact um | exact ub | exact uc | exact iB_under _ | exact hs1 | exact .cells _ (fun x hx => (m.free x hx).under)))
    case zv =>
      (repeat' (first | (refine And.intro ?_ ?_) | exact trivial | exact A.Le.refl _ | exact rfl | exact um | exact ub | exact uc | exact iB_under _ | exact hs1 | exact .cells _ (fun x hx => (m.free x hx).under)))
    case zh =>
      (repeat' (first | (refine And.intro ?_ ?_) | exact trivial | exact A.Le.refl _ | exact rfl | exact um | exact ub | exact uc | exact iB_under _ | exact hs1 | exact .cells _ (fun x hx => (m.free x hx).under)))
    case zr =>
    have hol2 : (L.set m.to.toNat (xt + c)).length = b.n.toNat := by rw [List.length_set]; exact hol
    have hgf2 : (L.set m.to.toNat (xt + c)).getD m.fr.toNat 0 = xf := by
      rw [List.getD_eq_getElem?_getD, List.getElem?_set, if_neg (by omega), ← List.getD_eq_getElem?_getD]; exact hgf
    have hs2 := congrArg (fun x => some (B.cells x)) (set_cellsI (l := L.set m.to.toNat (xt + c)) (k := m.fr.toNat) (v := xf - c) (by omega))
    rw [hst] at hs2
    generalize L.set m.to.toNat (xt + c) = L2 at *
    have r1 : ((L2.map A.int).getD (0 + m.fr.toNat * 1) .un).down = .int xf := by rw [← hgf2]; exact getI (by omega)
    have r2 : 0 + m.fr.toNat * 1 + 1 ≤ (L2.map A.int).length := by rw [List.length_map, hol2]; omega
    have r3 : 0 + m.fr.toNat * 1 < (L2.map A.int).length := by omega
    have r4 : m.fr < ((b.n.toNat : Nat) : Int) := by omega
    refine Aw.ed tab_ok mixed mb0 [(4, [.int xf]), (8, [.int c])] rfl (by kernel_rfl) rfl rfl ?zo ?zk
    case zo =>
      repeat' apply AllP.cons
      all_goals first | exact trivial | exact rfl | exact Nat.le_of_ble_eq_true rfl | exact Int.natCast_nonneg _ | exact r1 | exact r2 | exact r4 | exact hgc | exact hf.1 | exact (by simp only [Ob.of, inR]; omega) | exact (show 0 + Int.toNat (k : Int) * 1 < (cs.map A.int).length by rw [List.length_map, Int.toNat_natCast]; omega)
    case zk =>
    refine Aw.em tab_ok mb0 [] rfl rfl ?zo ?zk
    case zo =>
      repeat' apply AllP.cons
      all_goals first | exact trivial | exact inrk k (by omega)
    case zk =>
    refine ⟨k + 1, ?zg, ?zm, ⟨?zc, ?zv, ?zh, Nat.le_of_ble_eq_true rfl⟩⟩
    case zg =>
      (repeat' (first | assumption | omega | exact hs2.trans (congrArg (fun x => some (iB x)) hL1.symm) | (refine And.intro ?_ ?_)))
    case zm =>
      (repeat' (first | omega | exact hs2.trans (congrArg (fun x => some (iB x)) hL1.symm) | (refine And.intro ?_ ?_)))
    case zc =>
      (repeat' (first | (refine And.intro ?_ ?_) | exact trivial | exact A.Le.refl _ | exact rfl | exact hs2.trans (congrArg (fun x => some (iB x)) hL1.symm)))
    case zv =>
      (repeat' (first | (refine And.intro ?_ ?_) | exact trivial | exact A.Le.refl _ | exact rfl | exact hs2.trans (congrArg (fun x => some (iB x)) hL1.symm)))
    case zh =>
      (repeat' (first | (refine And.intro ?_ ?_) | exact trivial | exact A.Le.refl _ | exact rfl | exact hs2.trans (congrArg (fun x => some (iB x)) hL1.symm)))
  have hle : k = b.ms.length := by have := of_decide_eq_false h1; omega
  subst hle
  have hcs : cs.take b.ms.length = cs := by rw [hcl, List.take_length]
  rw [List.take_length, hcs]
  have hol := ovL_len b.n b.ms cs
  generalize ovL b.n b.ms cs = L at *
  refine Aw.freezeS (id := 1) (t := 5) (n := b.n.toNat) (sz := 1) (cs := L.map A.int) (ints L) rfl rfl (rowsI L) (by rw [ints_len]; exact hol) ?_
  refine Aw.sm tab_ok mb0 [] rfl rfl ?zo ?zk
  case zo =>
    repeat' apply AllP.cons
    all_goals first | exact trivial
  case zk =>
  exact Aw.ret ⟨_, .cons (.tmp _) .nil, rfl, ⟨rfl, trivial⟩⟩
theorem over_r (b : Book) (hb : b.Ok) (cs : List Int) (hc : CsOk b.ms cs) : RCall Try.prog 82 [.agg b.c, .ms 0 0 cs.length] (ofH [(0, iB cs)]) (.sl false .any (ints (ovL b.n b.ms cs))) := by
  have dom : ∀ id bx, ofH [(0, iB cs)] id = some bx → id = 0 ∧ bx = iB cs := fun id bx h => by
    simp only [ofH, updH_apply] at h
    split at h
    · rename_i e; cases h; exact ⟨e, rfl⟩
    · cases h
  have inn : Nms (fun i => (ofH [(0, iB cs)] i).isSome = true) (.ms 0 0 cs.length) := .ms _ _ _ rfl
  refine RCall.of (n := 1) (enters_of Try.func82 rfl rfl) (fun id bx h => by rw [(dom id bx h).1]; decide) (fun id bx h => ?_) (allC (Free.agg _ b.free).nms (all1 inn)) (free_ints _ _ _).nms (fun _ => rfl) ((over_m b hb cs hc).mono fun v H' c' h => ⟨h.1, fun id bx hb => by rw [h.2]; exact hb⟩)
  rw [(dom id bx h).2]
  exact .cells _ fun x hx => by obtain ⟨v, _, rfl⟩ := List.mem_map.1 hx; exact .s _
def countsA (r : Bool × Int) : A := .tup [.bool r.1, .int r.2]
theorem allIn_iff {ms : List Mv} {cs : List Int} : allIn ms cs = true ↔ ∀ k, k < ms.length → (ms.getD k ⟨0, 0, 0, 0⟩).lo ≤ cs.getD k 0 ∧ cs.getD k 0 ≤ (ms.getD k ⟨0, 0, 0, 0⟩).hi := by
  unfold allIn inB
  rw [List.all_eq_true]
  exact ⟨fun h k hk => wi_iff.1 (h k (List.mem_range.2 hk)), fun h k hk => wi_iff.2 (h k (List.mem_range.1 hk))⟩
set_option maxHeartbeats 1000000 in
theorem counts_t (b : Book) (hbl : (b.ms.length : Int) ≤ 9223372036854775806) (cb : Bool) (cs : List Int) : Ans Try.prog 33 [.agg b.c, .sl cb .any (ints cs)] (countsA (CountsR b cs)) := by
  have hfr : Free (countsA (CountsR b cs)) := .tup _ (allC (.s _) (all1 (.s _)))
  have fc : Free (.sl cb .any (ints cs)) := free_ints _ _ _
  have uc : ∀ {n : Nat}, Under n (A.sl cb .any (ints cs)) := fc.under
  have lm : ((b.ms.map Mv.c).length : Int) = b.ms.length := by simp
  have lc := ints_lenI cs
  have um : ∀ {n : Nat}, Under n (A.sl b.nn .any (b.ms.map Mv.c)) := (free_map Mv.free _ _ _).under
  have ub : ∀ {n : Nat}, Under n (A.pt b.c) := (Free.pt _ b.free).under
  have hchk := book_chk b hbl
  refine told Try.func33 rfl rfl (Pure.of tab_ok Try.func33 rfl Try.ntmps33 rfl (allC (.agg _ b.free) (all1 (fc))) (allC (fun _ => rfl) (all1 (fun _ => rfl))) (by first | exact .s _ | assumption | exact .tup _ (by intro x hx; simp only [List.mem_cons, List.not_mem_nil, or_false] at hx; rcases hx with rfl | rfl | rfl | rfl <;> first | exact .s _ | (simp_all; done))) fun E hE => ?_)
  refine Aw.sm tab_ok mb0 [] rfl rfl ?zo ?zk
  case zo =>
    repeat' apply AllP.cons
    all_goals first | exact trivial
  case zk =>
  by_cases hbo : b.ok = true
  rotate_left
  · have e : CountsR b cs = (false, 63) := by unfold CountsR; rw [if_neg hbo]
    have e2 : b.chk = 63 := by unfold Book.chk; rw [if_neg hbo]
    rw [e2] at hchk
    rw [e]
    refine Aw.seq ?_
    refine Aw.sm tab_ok mb0 [(1, [.int 63])] rfl rfl ?zo ?zk
    case zo =>
      repeat' apply AllP.cons
      all_goals first | exact trivial | exact Nat.le_of_ble_eq_true rfl | exact hchk
    case zk =>
    refine Aw.sm tab_ok mb0 [] rfl rfl ?zo ?zk
    case zo =>
      repeat' apply AllP.cons
      all_goals first | exact trivial
    case zk =>
    refine Aw.cond rfl (fun h => ?_) (fun h => by cases h)
    refine Aw.sm tab_ok mb0 [] rfl rfl ?zo ?zk
    case zo =>
      repeat' apply AllP.cons
      all_goals first | exact trivial
    case zk =>
    exact Aw.ret ⟨_, .cons (.tmp _) (.cons (.tmp _) .nil), rfl⟩
  have e2 : b.chk = 0 := by unfold Book.chk; rw [if_pos hbo]
  have hB := Book.ok_iff.1 hbo
  have hn := hB.n
  have hl := hB.l
  rw [e2] at hchk
  refine Aw.seq ?_
  refine Aw.sm tab_ok mb0 [(1, [.int 0])] rfl rfl ?zo ?zk
  case zo =>
    repeat' apply AllP.cons
    all_goals first | exact trivial | exact Nat.le_of_ble_eq_true rfl | exact hchk
  case zk =>
  refine Aw.sm tab_ok mb0 [] rfl rfl ?zo ?zk
  case zo =>
    repeat' apply AllP.cons
    all_goals first | exact trivial
  case zk =>
  refine Aw.cond rfl (fun h => by cases h) (fun h => Aw.skip ?_)
  refine Aw.seq ?_
  refine Aw.sm tab_ok mb0 [] rfl rfl ?zo ?zk
  case zo =>
    repeat' apply AllP.cons
    all_goals first | exact trivial | exact Nat.le_of_ble_eq_true rfl
  case zk =>
  refine Aw.cond rfl (fun h => ?_) (fun h => Aw.skip ?_)
  · have h : (((ints cs).length : Int) != ((b.ms.map Mv.c).length : Int)) = true := h
    have hne : cs.length ≠ b.ms.length := by rw [lm, lc] at h; simp at h; omega
    have e : CountsR b cs = (false, 64) := by unfold CountsR; rw [if_pos hbo, if_neg hne]
    rw [e]
    refine Aw.sm tab_ok mb0 [] rfl rfl ?zo ?zk
    case zo =>
      repeat' apply AllP.cons
      all_goals first | exact trivial
    case zk =>
    exact Aw.ret ⟨_, .cons (.tmp _) (.cons (.tmp _) .nil), rfl⟩
  have h : (((ints cs).length : Int) != ((b.ms.map Mv.c).length : Int)) = false := h
  have hcl : cs.length = b.ms.length := by rw [lm, lc] at h; simp at h; omega
  refine Aw.seq ?_
  refine Aw.sm tab_ok mb0 [] rfl rfl ?zo ?zk
  case zo =>
    repeat' apply AllP.cons
    all_goals first | exact trivial | exact Nat.le_of_ble_eq_true rfl
  case zk =>
  refine Aw.block (Aw.rounds 0 hE [(1, .sl cb .any (ints cs)), (2, .pt b.c), (23, .sl b.nn .any (b.ms.map Mv.c)), (24, .int b.ms.length)] (fun k : Nat => [(25, .int k)]) (fun k => []) (fun k => k ≤ b.ms.length ∧ ∀ i, i < k → inB b.ms cs i = true) (fun k => b.ms.length - k) 0 ?zg ⟨?zc, ?zv, ?zh, Nat.le_of_ble_eq_true rfl⟩ ?zu (fun k zhk => ?zw) (fun k zhk => ?zx) fun k hk => ?zr)
  case zg =>
    (repeat' (first | exact Nat.zero_le _ | exact Nat.le_refl _ | exact trivial | exact uc | exact ub | exact um | exact .of_eq (congrArg A.int lm.symm) | exact ⟨Nat.zero_le _, fun i h => absurd h (Nat.not_lt_zero _)⟩ | (refine And.intro ?_ ?_)))
  case zc =>
    (repeat' (first | (refine And.intro ?_ ?_) | exact trivial | exact A.Le.refl _ | exact rfl | exact uc | exact ub | exact um | exact .of_eq (congrArg A.int lm.symm) | exact ⟨Nat.zero_le _, fun i h => absurd h (Nat.not_lt_zero _)⟩))
  case zv =>
    (repeat' (first | (refine And.intro ?_ ?_) | exact trivial | exact A.Le.refl _ | exact rfl | exact uc | exact ub | exact um | exact .of_eq (congrArg A.int lm.symm) | exact ⟨Nat.zero_le _, fun i h => absurd h (Nat.not_lt_zero _)⟩))
  case zh =>
    (repeat' (first | (refine And.intro ?_ ?_) | exact trivial | exact A.Le.refl _ | exact rfl | exact uc | exact ub | exact um | exact .of_eq (congrArg A.int lm.symm) | exact ⟨Nat.zero_le _, fun i h => absurd h (Nat.not_lt_zero _)⟩))
  case zu =>
    (repeat' (first | exact trivial | exact Under.s _ | exact Under.un | assumption | exact (free_ints _ _ _).under | exact Under.ref _ _ (by decide) | exact Under.ms _ _ _ (by decide) | exact Under.mp _ (by decide) | exact (Free.agg _ (by assumption)).under | exact (Free.pt _ (by assumption)).under | exact grL_under _ | exact outA_under _ | exact Nat.le_of_ble_eq_true rfl | exact (fun _ _ => rfl) | exact uc | exact ub | exact um | exact .of_eq (congrArg A.int lm.symm) | exact ⟨Nat.zero_le _, fun i h => absurd h (Nat.not_lt_zero _)⟩ | (refine And.intro ?_ ?_)))
  case zw =>
    (repeat' (first | exact trivial | exact Under.s _ | exact Under.un | assumption | exact (free_ints _ _ _).under | exact Under.ref _ _ (by decide) | exact Under.ms _ _ _ (by decide) | exact Under.mp _ (by decide) | exact (Free.agg _ (by assumption)).under | exact (Free.pt _ (by assumption)).under | exact grL_under _ | exact outA_under _ | exact Nat.le_of_ble_eq_true rfl | exact (fun _ _ => rfl) | exact uc | exact ub | exact um | exact .of_eq (congrArg A.int lm.symm) | exact ⟨Nat.zero_le _, fun i h => absurd h (Nat.not_lt_zero _)⟩ | (refine And.intro ?_ ?_)))
  case zx =>
    (repeat' (first | exact trivial | exact Under.s _ | exact Under.un | assumption | exact (free_ints _ _ _).under | exact Under.ref _ _ (by decide) | exact Under.ms _ _ _ (by decide) | exact Under.mp _ (by decide) | exact (Free.agg _ (by assumption)).under | exact (Free.pt _ (by assumption)).under | exact grL_under _ | exact outA_under _ | exact Nat.le_of_ble_eq_true rfl | exact (fun _ _ => rfl) | exact uc | exact ub | exact um | exact .of_eq (congrArg A.int lm.symm) | exact ⟨Nat.zero_le _, fun i h => absurd h (Nat.not_lt_zero _)⟩ | (refine And.intro ?_ ?_)))
  case zr =>
  obtain ⟨hk, hin⟩ := hk
  refine Aw.sm tab_ok mb0 [] rfl rfl ?zo ?zk
  case zo =>
    repeat' apply AllP.cons
    all_goals first | exact trivial
  case zk =>
  refine Aw.seq (Aw.cond rfl (fun h1 => Aw.skip1 ?_) (fun h1 => Aw.exit2 ?_))
  · have hlt : k < b.ms.length := by have := of_decide_eq_true h1; omega
    have hgm := mv_at hlt
    have hgc := ints_getD (l := cs) (k := k) (by omega)
    have hik : inB b.ms cs k = wi (cs.getD k 0) b.ms[k].lo b.ms[k].hi := by unfold inB; simp [List.getD_eq_getElem?_getD, hlt]
    generalize b.ms[k] = m at *
    generalize cs.getD k 0 = c at *
    refine Aw.seq (Aw.block ?_)
    refine Aw.sm tab_ok mb0 [(1, m.c)] rfl rfl ?zo ?zk
    case zo =>
      repeat' apply AllP.cons
      all_goals first | exact trivial | exact rfl | exact Nat.le_of_ble_eq_true rfl | exact Int.natCast_nonneg _ | exact hgm
    case zk =>
    refine Aw.sd tab_ok mixed mb0 [(2, [.int c]), (10, [.bool (wi c m.lo m.hi)])] rfl (by kernel_rfl) rfl rfl ?zo ?zk
    case zo =>
      repeat' apply AllP.cons
      all_goals first | exact trivial | exact rfl | exact Nat.le_of_ble_eq_true rfl | exact Int.natCast_nonneg _ | exact within_t _ _ _ | exact hgc
    case zk =>
    refine Aw.cond rfl (fun h2 => ?_) (fun h2 => Aw.skip ?_)
    · have h2 : (!wi c m.lo m.hi) = true := h2
      have h3 : inB b.ms cs k = false := by rw [hik]; simpa using h2
      have hno : ¬ allIn b.ms cs = true := fun h => by
        unfold allIn at h
        have := List.all_eq_true.1 h k (List.mem_range.2 hlt)
        rw [h3] at this; cases this
      have e : CountsR b cs = (false, 0) := by unfold CountsR; rw [if_pos hbo, if_pos hcl, if_neg hno]
      rw [e]
      refine Aw.sm tab_ok mb0 [] rfl rfl ?zo ?zk
      case zo =>
        repeat' apply AllP.cons
        all_goals first | exact trivial
      case zk =>
      exact Aw.ret ⟨_, .cons (.tmp _) (.cons (.tmp _) .nil), rfl⟩
    · have h2 : (!wi c m.lo m.hi) = false := h2
      have h3 : inB b.ms cs k = true := by rw [hik]; simpa using h2
      refine Aw.em tab_ok mb0 [] rfl rfl ?zo ?zk
      case zo =>
        repeat' apply AllP.cons
        all_goals first | exact trivial | exact inrk k (by omega)
      case zk =>
      refine ⟨k + 1, ?zg, ?zm, ⟨?zc, ?zv, ?zh, Nat.le_of_ble_eq_true rfl⟩⟩
      case zg =>
        (repeat' (first | assumption | omega | exact ⟨hlt, fun i hi => by rcases Nat.lt_succ_iff_lt_or_eq.1 hi with h | rfl; exact hin i h; exact h3⟩ | (refine And.intro ?_ ?_)))
      case zm =>
        (repeat' (first | omega | exact ⟨hlt, fun i hi => by rcases Nat.lt_succ_iff_lt_or_eq.1 hi with h | rfl; exact hin i h; exact h3⟩ | (refine And.intro ?_ ?_)))
      case zc =>
        (repeat' (first | (refine And.intro ?_ ?_) | exact trivial | exact A.Le.refl _ | exact rfl | exact ⟨hlt, fun i hi => by rcases Nat.lt_succ_iff_lt_or_eq.1 hi with h | rfl; exact hin i h; exact h3⟩))
      case zv =>
        (repeat' (first | (refine And.intro ?_ ?_) | exact trivial | exact A.Le.refl _ | exact rfl | exact ⟨hlt, fun i hi => by rcases Nat.lt_succ_iff_lt_or_eq.1 hi with h | rfl; exact hin i h; exact h3⟩))
      case zh =>
        (repeat' (first | (refine And.intro ?_ ?_) | exact trivial | exact A.Le.refl _ | exact rfl | exact ⟨hlt, fun i hi => by rcases Nat.lt_succ_iff_lt_or_eq.1 hi with h | rfl; exact hin i h; exact h3⟩))
  have hle : k = b.ms.length := by have := of_decide_eq_false h1; omega
  subst hle
  have hall : allIn b.ms cs = true := List.all_eq_true.2 fun i hi => hin i (List.mem_range.1 hi)
  have e : CountsR b cs = ((ovL b.n b.ms cs).all (· == 0), 0) := by unfold CountsR; rw [if_pos hbo, if_pos hcl, if_pos hall]
  have hcs : CsOk b.ms cs := ⟨hcl.symm, fun c hc => by
    obtain ⟨i, hi, rfl⟩ := List.getElem_of_mem hc
    have h1 := allIn_iff.1 hall i (by omega)
    have h2 := (hB.m (b.ms[i]'(by omega)) (List.getElem_mem _)).k
    have e1 : b.ms.getD i ⟨0, 0, 0, 0⟩ = b.ms[i]'(by omega) := by simp [List.getD_eq_getElem?_getD, show i < b.ms.length by omega]
    have e2 : cs.getD i 0 = cs[i] := by simp [List.getD_eq_getElem?_getD, hi]
    rw [e1, e2] at h1; omega⟩
  have hov := over_t b hB cb cs hcs
  have hol := ovL_len b.n b.ms cs
  rw [e]
  generalize ovL b.n b.ms cs = L at *
  have uL : ∀ {n : Nat}, Under n (A.sl false .any (ints L)) := (free_ints _ _ _).under
  have lL := ints_lenI L
  refine Aw.keep (n := 0) (cst := [(1, .sl cb .any (ints cs)), (2, .pt b.c)]) (v := []) (Hl := []) hE ?zu ?zw ?zx ⟨?zc, ?zv, ?zh, Nat.le_of_ble_eq_true rfl⟩ ?zr
  case zu =>
    (repeat' (first | exact trivial | exact Under.s _ | exact Under.un | assumption | exact (free_ints _ _ _).under | exact Under.ref _ _ (by decide) | exact Under.ms _ _ _ (by decide) | exact Under.mp _ (by decide) | exact (Free.agg _ (by assumption)).under | exact (Free.pt _ (by assumption)).under | exact grL_under _ | exact outA_under _ | exact Nat.le_of_ble_eq_true rfl | exact (fun _ _ => rfl) | exact uc | exact ub | (refine And.intro ?_ ?_)))
  case zw =>
    (repeat' (first | exact trivial | exact Under.s _ | exact Under.un | assumption | exact (free_ints _ _ _).under | exact Under.ref _ _ (by decide) | exact Under.ms _ _ _ (by decide) | exact Under.mp _ (by decide) | exact (Free.agg _ (by assumption)).under | exact (Free.pt _ (by assumption)).under | exact grL_under _ | exact outA_under _ | exact Nat.le_of_ble_eq_true rfl | exact (fun _ _ => rfl) | exact uc | exact ub | (refine And.intro ?_ ?_)))
  case zx =>
    (repeat' (first | exact trivial | exact Under.s _ | exact Under.un | assumption | exact (free_ints _ _ _).under | exact Under.ref _ _ (by decide) | exact Under.ms _ _ _ (by decide) | exact Under.mp _ (by decide) | exact (Free.agg _ (by assumption)).under | exact (Free.pt _ (by assumption)).under | exact grL_under _ | exact outA_under _ | exact Nat.le_of_ble_eq_true rfl | exact (fun _ _ => rfl) | exact uc | exact ub | (refine And.intro ?_ ?_)))
  case zc =>
    (repeat' (first | (refine And.intro ?_ ?_) | exact trivial | exact A.Le.refl _ | exact rfl | exact uc | exact ub))
  case zv =>
    (repeat' (first | (refine And.intro ?_ ?_) | exact trivial | exact A.Le.refl _ | exact rfl | exact uc | exact ub))
  case zh =>
    (repeat' (first | (refine And.intro ?_ ?_) | exact trivial | exact A.Le.refl _ | exact rfl | exact uc | exact ub))
  case zr =>
  refine Aw.seq ?_
  refine Aw.sm tab_ok mb0 [(3, [.sl false .any (ints L)])] rfl rfl ?zo ?zk
  case zo =>
    repeat' apply AllP.cons
    all_goals first | exact trivial | exact Nat.le_of_ble_eq_true rfl | exact hov
  case zk =>
  refine Aw.block (Aw.rounds 0 hE [(46, .sl false .any (ints L)), (47, .int L.length)] (fun k : Nat => [(48, .int k)]) (fun k => []) (fun k => k ≤ L.length ∧ ∀ i, i < k → L.getD i 0 = 0) (fun k => L.length - k) 0 ?zg ⟨?zc, ?zv, ?zh, Nat.le_of_ble_eq_true rfl⟩ ?zu (fun k zhk => ?zw) (fun k zhk => ?zx) fun k hk => ?zr)
  case zg =>
    (repeat' (first | exact Nat.zero_le _ | exact Nat.le_refl _ | exact trivial | exact uL | exact .of_eq (congrArg A.int lL.symm) | exact ⟨Nat.zero_le _, fun i h => absurd h (Nat.not_lt_zero _)⟩ | (refine And.intro ?_ ?_)))
  case zc =>
    (repeat' (first | (refine And.intro ?_ ?_) | exact trivial | exact A.Le.refl _ | exact rfl | exact uL | exact .of_eq (congrArg A.int lL.symm) | exact ⟨Nat.zero_le _, fun i h => absurd h (Nat.not_lt_zero _)⟩))
  case zv =>
    (repeat' (first | (refine And.intro ?_ ?_) | exact trivial | exact A.Le.refl _ | exact rfl | exact uL | exact .of_eq (congrArg A.int lL.symm) | exact ⟨Nat.zero_le _, fun i h => absurd h (Nat.not_lt_zero _)⟩))
  case zh =>
    (repeat' (first | (refine And.intro ?_ ?_) | exact trivial | exact A.Le.refl _ | exact rfl | exact uL | exact .of_eq (congrArg A.int lL.symm) | exact ⟨Nat.zero_le _, fun i h => absurd h (Nat.not_lt_zero _)⟩))
  case zu =>
    (repeat' (first | exact trivial | exact Under.s _ | exact Under.un | assumption | exact (free_ints _ _ _).under | exact Under.ref _ _ (by decide) | exact Under.ms _ _ _ (by decide) | exact Under.mp _ (by decide) | exact (Free.agg _ (by assumption)).under | exact (Free.pt _ (by assumption)).under | exact grL_under _ | exact outA_under _ | exact Nat.le_of_ble_eq_true rfl | exact (fun _ _ => rfl) | exact uL | exact .of_eq (congrArg A.int lL.symm) | exact ⟨Nat.zero_le _, fun i h => absurd h (Nat.not_lt_zero _)⟩ | (refine And.intro ?_ ?_)))
  case zw =>
    (repeat' (first | exact trivial | exact Under.s _ | exact Under.un | assumption | exact (free_ints _ _ _).under | exact Under.ref _ _ (by decide) | exact Under.ms _ _ _ (by decide) | exact Under.mp _ (by decide) | exact (Free.agg _ (by assumption)).under | exact (Free.pt _ (by assumption)).under | exact grL_under _ | exact outA_under _ | exact Nat.le_of_ble_eq_true rfl | exact (fun _ _ => rfl) | exact uL | exact .of_eq (congrArg A.int lL.symm) | exact ⟨Nat.zero_le _, fun i h => absurd h (Nat.not_lt_zero _)⟩ | (refine And.intro ?_ ?_)))
  case zx =>
    (repeat' (first | exact trivial | exact Under.s _ | exact Under.un | assumption | exact (free_ints _ _ _).under | exact Under.ref _ _ (by decide) | exact Under.ms _ _ _ (by decide) | exact Under.mp _ (by decide) | exact (Free.agg _ (by assumption)).under | exact (Free.pt _ (by assumption)).under | exact grL_under _ | exact outA_under _ | exact Nat.le_of_ble_eq_true rfl | exact (fun _ _ => rfl) | exact uL | exact .of_eq (congrArg A.int lL.symm) | exact ⟨Nat.zero_le _, fun i h => absurd h (Nat.not_lt_zero _)⟩ | (refine And.intro ?_ ?_)))
  case zr =>
  obtain ⟨hk, hz⟩ := hk
  refine Aw.sm tab_ok mb0 [] rfl rfl ?zo ?zk
  case zo =>
    repeat' apply AllP.cons
    all_goals first | exact trivial
  case zk =>
  refine Aw.seq (Aw.cond rfl (fun h1 => Aw.skip1 ?_) (fun h1 => Aw.exit2 ?_))
  · have hlt : k < L.length := by have := of_decide_eq_true h1; omega
    have hgl := ints_get hlt
    have hlk : L.getD k 0 = L[k] := by simp [List.getD_eq_getElem?_getD, hlt]
    have hmem := List.getElem_mem hlt
    generalize L[k] = x at *
    refine Aw.seq (Aw.block ?_)
    refine Aw.sm tab_ok mb0 [(0, [.int x])] rfl rfl ?zo ?zk
    case zo =>
      repeat' apply AllP.cons
      all_goals first | exact trivial | exact rfl | exact Nat.le_of_ble_eq_true rfl | exact Int.natCast_nonneg _ | exact hgl
    case zk =>
    refine Aw.sm tab_ok mb0 [] rfl rfl ?zo ?zk
    case zo =>
      repeat' apply AllP.cons
      all_goals first | exact trivial
    case zk =>
    refine Aw.cond rfl (fun h2 => ?_) (fun h2 => Aw.skip ?_)
    · have h2 : (x != 0) = true := h2
      have h3 : L.all (· == 0) = false := by
        rw [← Bool.not_eq_true]; intro h
        have := List.all_eq_true.1 h x hmem
        simp at h2 this; exact h2 this
      rw [h3]
      refine Aw.sm tab_ok mb0 [] rfl rfl ?zo ?zk
      case zo =>
        repeat' apply AllP.cons
        all_goals first | exact trivial
      case zk =>
      exact Aw.ret ⟨_, .cons (.tmp _) (.cons (.tmp _) .nil), rfl⟩
    · have h2 : (x != 0) = false := h2
      have h3 : x = 0 := by simpa using h2
      refine Aw.em tab_ok mb0 [] rfl rfl ?zo ?zk
      case zo =>
        repeat' apply AllP.cons
        all_goals first | exact trivial | exact inrk k (by omega)
      case zk =>
      refine ⟨k + 1, ?zg, ?zm, ⟨?zc, ?zv, ?zh, Nat.le_of_ble_eq_true rfl⟩⟩
      case zg =>
        (repeat' (first | assumption | omega | exact ⟨hlt, fun i hi => by rcases Nat.lt_succ_iff_lt_or_eq.1 hi with h | rfl; exact hz i h; rw [hlk, h3]⟩ | (refine And.intro ?_ ?_)))
      case zm =>
        (repeat' (first | omega | exact ⟨hlt, fun i hi => by rcases Nat.lt_succ_iff_lt_or_eq.1 hi with h | rfl; exact hz i h; rw [hlk, h3]⟩ | (refine And.intro ?_ ?_)))
      case zc =>
        (repeat' (first | (refine And.intro ?_ ?_) | exact trivial | exact A.Le.refl _ | exact rfl | exact ⟨hlt, fun i hi => by rcases Nat.lt_succ_iff_lt_or_eq.1 hi with h | rfl; exact hz i h; rw [hlk, h3]⟩))
      case zv =>
        (repeat' (first | (refine And.intro ?_ ?_) | exact trivial | exact A.Le.refl _ | exact rfl | exact ⟨hlt, fun i hi => by rcases Nat.lt_succ_iff_lt_or_eq.1 hi with h | rfl; exact hz i h; rw [hlk, h3]⟩))
      case zh =>
        (repeat' (first | (refine And.intro ?_ ?_) | exact trivial | exact A.Le.refl _ | exact rfl | exact ⟨hlt, fun i hi => by rcases Nat.lt_succ_iff_lt_or_eq.1 hi with h | rfl; exact hz i h; rw [hlk, h3]⟩))
  have hle : k = L.length := by have := of_decide_eq_false h1; omega
  subst hle
  have h3 : L.all (· == 0) = true := List.all_eq_true.2 fun x hx => by
    obtain ⟨i, hi, rfl⟩ := List.getElem_of_mem hx
    have := hz i hi
    simpa [List.getD_eq_getElem?_getD, hi] using this
  rw [h3]
  refine Aw.sm tab_ok mb0 [] rfl rfl ?zo ?zk
  case zo =>
    repeat' apply AllP.cons
    all_goals first | exact trivial
  case zk =>
  exact Aw.ret ⟨_, .cons (.tmp _) (.cons (.tmp _) .nil), rfl⟩
end Go.Proofs.Ytampldajinhenaa

namespace Go.Proofs.Ytampldajinhenaa
open Go Go.AL Go.AL.Q Go.AL.Br
theorem pow_bd {n : Nat} (h : n ≤ 6) : (1 : Int) ≤ 2 ^ n ∧ (2 : Int) ^ n ≤ 64 := by
  rcases (show n = 0 ∨ n = 1 ∨ n = 2 ∨ n = 3 ∨ n = 4 ∨ n = 5 ∨ n = 6 by omega) with rfl | rfl | rfl | rfl | rfl | rfl | rfl <;> decide
theorem shl_n {n : Nat} (h : n ≤ 6) : IntKind.i64.wrap (1 * 2 ^ min n 64) = 2 ^ n := by
  rcases (show n = 0 ∨ n = 1 ∨ n = 2 ∨ n = 3 ∨ n = 4 ∨ n = 5 ∨ n = 6 by omega) with rfl | rfl | rfl | rfl | rfl | rfl | rfl <;> decide
set_option maxHeartbeats 1000000 in
theorem proves_t (b : Book) (hbl : (b.ms.length : Int) ≤ 9223372036854775806) (set : Int) : Ans Try.prog 52 [.agg b.c, .int set] (countsA (ProvesR b set)) := by
  have hfr : Free (countsA (ProvesR b set)) := .tup _ (allC (.s _) (all1 (.s _)))
  have lm : ((b.ms.map Mv.c).length : Int) = b.ms.length := by simp
  have um : ∀ {n : Nat}, Under n (A.sl b.nn .any (b.ms.map Mv.c)) := (free_map Mv.free _ _ _).under
  have ub : ∀ {n : Nat}, Under n (A.pt b.c) := (Free.pt _ b.free).under
  have hchk := book_chk b hbl
  refine told Try.func52 rfl rfl (Pure.of tab_ok Try.func52 rfl Try.ntmps52 rfl (allC (.agg _ b.free) (all1 (.s _))) (allC (fun _ => rfl) (all1 (fun _ => rfl))) (by first | exact .s _ | assumption | exact .tup _ (by intro x hx; simp only [List.mem_cons, List.not_mem_nil, or_false] at hx; rcases hx with rfl | rfl | rfl | rfl <;> first | exact .s _ | (simp_all; done))) fun E hE => ?_)
  refine Aw.sm tab_ok mb0 [] rfl rfl ?zo ?zk
  case zo =>
    repeat' apply AllP.cons
    all_goals first | exact trivial
  case zk =>
  by_cases hbo : b.ok = true
  rotate_left
  · have e : ProvesR b set = (false, 63) := by unfold ProvesR; rw [if_neg hbo]
    have e2 : b.chk = 63 := by unfold Book.chk; rw [if_neg hbo]
    rw [e2] at hchk
    rw [e]
    refine Aw.seq ?_
    refine Aw.sm tab_ok mb0 [(1, [.int 63])] rfl rfl ?zo ?zk
    case zo =>
      repeat' apply AllP.cons
      all_goals first | exact trivial | exact Nat.le_of_ble_eq_true rfl | exact hchk
    case zk =>
    refine Aw.sm tab_ok mb0 [] rfl rfl ?zo ?zk
    case zo =>
      repeat' apply AllP.cons
      all_goals first | exact trivial
    case zk =>
    refine Aw.cond rfl (fun h => ?_) (fun h => by cases h)
    refine Aw.sm tab_ok mb0 [] rfl rfl ?zo ?zk
    case zo =>
      repeat' apply AllP.cons
      all_goals first | exact trivial
    case zk =>
    exact Aw.ret ⟨_, .cons (.tmp _) (.cons (.tmp _) .nil), rfl⟩
  have e2 : b.chk = 0 := by unfold Book.chk; rw [if_pos hbo]
  have hB := Book.ok_iff.1 hbo
  have hn := hB.n
  have hl := hB.l
  rw [e2] at hchk
  refine Aw.seq ?_
  refine Aw.sm tab_ok mb0 [(1, [.int 0])] rfl rfl ?zo ?zk
  case zo =>
    repeat' apply AllP.cons
    all_goals first | exact trivial | exact Nat.le_of_ble_eq_true rfl | exact hchk
  case zk =>
  refine Aw.sm tab_ok mb0 [] rfl rfl ?zo ?zk
  case zo =>
    repeat' apply AllP.cons
    all_goals first | exact trivial
  case zk =>
  refine Aw.cond rfl (fun h => by cases h) (fun h => Aw.skip ?_)
  have hpow := pow_bd (n := b.n.toNat) (by omega)
  refine Aw.seq ?_
  have hsh := shl_n (n := b.n.toNat) (by omega)
  have hwi : Ans Try.prog 62 [.int set, .int 0, .int (IntKind.i64.wrap (1 * 2 ^ min b.n.toNat 64) - 1)] (.bool (wi set 0 (2 ^ b.n.toNat - 1))) := by rw [hsh]; exact within_t _ _ _
  refine Aw.sm tab_ok mb0 [(5, [.bool (wi set 0 (2 ^ b.n.toNat - 1))])] rfl rfl ?zo ?zk
  case zo =>
    repeat' apply AllP.cons
    all_goals first | exact trivial | exact Nat.le_of_ble_eq_true rfl | exact hwi | exact (show inR (IntKind.i64.wrap (1 * 2 ^ min b.n.toNat 64) - 1) by rw [hsh]; simp only [inR]; omega) | exact (by simp only [Ob.of]; omega)
  case zk =>
  by_cases hso : wi set 0 (2 ^ b.n.toNat - 1) = true
  rotate_left
  · have e : ProvesR b set = (false, 64) := by unfold ProvesR; rw [if_pos hbo, if_neg hso]
    have hso : wi set 0 (2 ^ b.n.toNat - 1) = false := by simpa using hso
    rw [e, hso]
    refine Aw.cond rfl (fun h => ?_) (fun h => by cases h)
    refine Aw.sm tab_ok mb0 [] rfl rfl ?zo ?zk
    case zo =>
      repeat' apply AllP.cons
      all_goals first | exact trivial
    case zk =>
    exact Aw.ret ⟨_, .cons (.tmp _) (.cons (.tmp _) .nil), rfl⟩
  have e : ProvesR b set = (decide (pvF set b.ms > 0), 0) := by unfold ProvesR; rw [if_pos hbo, if_pos hso]
  rw [e, hso]
  refine Aw.cond rfl (fun h => by cases h) (fun h => Aw.skip ?_)
  refine Aw.sm tab_ok mb0 [] rfl rfl ?zo ?zk
  case zo =>
    repeat' apply AllP.cons
    all_goals first | exact trivial
  case zk =>
  refine Aw.seq ?_
  refine Aw.sm tab_ok mb0 [] rfl rfl ?zo ?zk
  case zo =>
    repeat' apply AllP.cons
    all_goals first | exact trivial | exact Nat.le_of_ble_eq_true rfl
  case zk =>
  refine Aw.block (Aw.rounds 0 hE [(1, .int set), (25, .sl b.nn .any (b.ms.map Mv.c)), (26, .int b.ms.length)] (fun k : Nat => [(7, .int ((b.ms.take k).foldl (pvStep set) 0)), (27, .int k)]) (fun k => []) (fun k => k ≤ b.ms.length) (fun k => b.ms.length - k) 0 ?zg ⟨?zc, ?zv, ?zh, Nat.le_of_ble_eq_true rfl⟩ ?zu (fun k zhk => ?zw) (fun k zhk => ?zx) fun k hk => ?zr)
  case zg =>
    (repeat' (first | exact Nat.zero_le _))
  case zc =>
    (repeat' (first | (refine And.intro ?_ ?_) | exact trivial | exact A.Le.refl _ | exact .of_eq (congrArg A.int lm.symm)))
  case zv =>
    (repeat' (first | (refine And.intro ?_ ?_) | exact trivial | exact A.Le.refl _))
  case zh =>
    (repeat' (first | exact trivial))
  case zu =>
    (repeat' (first | exact trivial | exact Under.s _ | exact um | (refine And.intro ?_ ?_)))
  case zw =>
    (repeat' (first | exact trivial | exact Under.s _ | (refine And.intro ?_ ?_)))
  case zx =>
    (repeat' (first | exact trivial))
  case zr =>
  refine Aw.sm tab_ok mb0 [] rfl rfl ?zo ?zk
  case zo =>
    repeat' apply AllP.cons
    all_goals first | exact trivial
  case zk =>
  refine Aw.seq (Aw.cond rfl (fun h1 => Aw.skip1 ?_) (fun h1 => Aw.exit2 ?_))
  · have hlt : k < b.ms.length := by have := of_decide_eq_true h1; omega
    have hgm := mv_at hlt
    have hmo := hB.m _ (List.getElem_mem hlt)
    have hst : (b.ms.take (k + 1)).foldl (pvStep set) 0 = pvStep set ((b.ms.take k).foldl (pvStep set) 0) b.ms[k] := by
      rw [List.take_succ_eq_append_getElem hlt, List.foldl_append]; rfl
    have hbd := pv_bd (set := set) (ms := b.ms.take k) (fun m hm => hB.m m (List.mem_of_mem_take hm)) 0 0 (Int.le_refl _) (Int.le_refl _) (Int.le_refl _)
    have htl : (b.ms.take k).length ≤ 10 := by rw [List.length_take]; omega
    generalize hv1 : (b.ms.take (k + 1)).foldl (pvStep set) 0 = v1 at *
    generalize (b.ms.take k).foldl (pvStep set) 0 = v at *
    generalize b.ms[k] = m at *
    have hf := hmo.f
    have ht := hmo.t
    have hk' := hmo.k
    have hlo := least_t m
    have hhi := greatest_t m
    unfold pvStep at hst
    refine Aw.seq (Aw.block ?_)
    refine Aw.sm tab_ok mb0 [(0, m.c)] rfl rfl ?zo ?zk
    case zo =>
      repeat' apply AllP.cons
      all_goals first | exact trivial | exact rfl | exact Nat.le_of_ble_eq_true rfl | exact Int.natCast_nonneg _ | exact hgm
    case zk =>
    refine Aw.sd tab_ok mixed mb0 [] rfl (by kernel_rfl) rfl rfl ?zo ?zk
    case zo =>
      repeat' apply AllP.cons
      all_goals first | exact trivial | exact Nat.le_of_ble_eq_true rfl | exact hf.1 | exact ht.1
    case zk =>
    have ub1 : bitV set m.fr = iand (set.fdiv (2 ^ min m.fr.toNat 64)) 1 := rfl
    have ub2 : bitV set m.to = iand (set.fdiv (2 ^ min m.to.toNat 64)) 1 := rfl
    rw [ub1, ub2] at hst
    generalize iand (set.fdiv (2 ^ min m.fr.toNat 64)) 1 = x at *
    generalize iand (set.fdiv (2 ^ min m.to.toNat 64)) 1 = y at *
    refine Aw.block ?_
    refine Aw.sm tab_ok mb0 [] rfl rfl ?zo ?zk
    case zo =>
      repeat' apply AllP.cons
      all_goals first | exact trivial
    case zk =>
    refine Aw.cond rfl (fun h2 => ?_) (fun h2 => ?_)
    · have h2 : x > y := of_decide_eq_true h2
      rw [if_pos h2] at hst
      refine Aw.em tab_ok mb0 [(3, [.int m.lo])] rfl rfl ?zo ?zk
      case zo =>
        repeat' apply AllP.cons
        all_goals first | exact trivial | exact Nat.le_of_ble_eq_true rfl | exact hlo | exact (by simp only [Ob.of, inR]; omega)
      case zk =>
      refine Aw.em tab_ok mb0 [] rfl rfl ?zo ?zk
      case zo =>
        repeat' apply AllP.cons
        all_goals first | exact trivial | exact inrk k (by omega)
      case zk =>
      refine ⟨k + 1, ?zg, ?zm, ⟨?zc, ?zv, ?zh, Nat.le_of_ble_eq_true rfl⟩⟩
      case zg =>
        (repeat' (first | assumption))
      case zm =>
        (repeat' (first | omega))
      case zc =>
        (repeat' (first | (refine And.intro ?_ ?_) | exact trivial | exact A.Le.refl _))
      case zv =>
        (repeat' (first | (refine And.intro ?_ ?_) | exact trivial | exact A.Le.refl _ | exact .of_eq (congrArg A.int (hv1.trans hst))))
      case zh =>
        (repeat' (first | exact trivial))
    · have h2 : ¬ x > y := of_decide_eq_false h2
      rw [if_neg h2] at hst
      refine Aw.sm tab_ok mb0 [] rfl rfl ?zo ?zk
      case zo =>
        repeat' apply AllP.cons
        all_goals first | exact trivial
      case zk =>
      refine Aw.cond rfl (fun h3 => ?_) (fun h3 => Aw.skip ?_)
      · have h3 : x < y := of_decide_eq_true h3
        rw [if_pos h3] at hst
        refine Aw.em tab_ok mb0 [(3, [.int m.hi])] rfl rfl ?zo ?zk
        case zo =>
          repeat' apply AllP.cons
          all_goals first | exact trivial | exact Nat.le_of_ble_eq_true rfl | exact hhi | exact (by simp only [Ob.of, inR]; omega)
        case zk =>
        refine Aw.em tab_ok mb0 [] rfl rfl ?zo ?zk
        case zo =>
          repeat' apply AllP.cons
          all_goals first | exact trivial | exact inrk k (by omega)
        case zk =>
        refine ⟨k + 1, ?zg, ?zm, ⟨?zc, ?zv, ?zh, Nat.le_of_ble_eq_true rfl⟩⟩
        case zg =>
          (repeat' (first | assumption))
        case zm =>
          (repeat' (first | omega))
        case zc =>
          (repeat' (first | (refine And.intro ?_ ?_) | exact trivial | exact A.Le.refl _))
        case zv =>
          (repeat' (first | (refine And.intro ?_ ?_) | exact trivial | exact A.Le.refl _ | exact .of_eq (congrArg A.int (hv1.trans hst))))
        case zh =>
          (repeat' (first | exact trivial))
      · have h3 : ¬ x < y := of_decide_eq_false h3
        rw [if_neg h3] at hst
        refine Aw.em tab_ok mb0 [] rfl rfl ?zo ?zk
        case zo =>
          repeat' apply AllP.cons
          all_goals first | exact trivial | exact inrk k (by omega)
        case zk =>
        refine ⟨k + 1, ?zg, ?zm, ⟨?zc, ?zv, ?zh, Nat.le_of_ble_eq_true rfl⟩⟩
        case zg =>
          (repeat' (first | assumption))
        case zm =>
          (repeat' (first | omega))
        case zc =>
          (repeat' (first | (refine And.intro ?_ ?_) | exact trivial | exact A.Le.refl _))
        case zv =>
          (repeat' (first | (refine And.intro ?_ ?_) | exact trivial | exact A.Le.refl _ | exact .of_eq (congrArg A.int (hv1.trans hst))))
        case zh =>
          (repeat' (first | exact trivial))
  have hle : k = b.ms.length := by have := of_decide_eq_false h1; omega
  subst hle
  rw [List.take_length]
  refine Aw.sm tab_ok mb0 [] rfl rfl ?zo ?zk
  case zo =>
    repeat' apply AllP.cons
    all_goals first | exact trivial
  case zk =>
  exact Aw.ret ⟨_, .cons (.tmp _) (.cons (.tmp _) .nil), rfl⟩
theorem stp_at {l : List Stp} {k : Nat} (h : k < l.length) : (l.map Stp.c)[k]? = some l[k].c := get_map h
theorem walk_s (cs : List Int) (hcs : ∀ c ∈ cs, -100000 ≤ c ∧ c ≤ 100000) (sb : Bool) (l : List Stp) (hl : l.length ≤ 1000) (hks0 : ∀ s ∈ l, s.k < cs.length) :
    SCall Try.prog 98 [.ms 0 0 cs.length, .sl sb .any (l.map Stp.c)] (ofH [(0, iB cs)]) 1 (fun v H' _ => v = .tup [] ∧ H' = ofH [(0, iB (walkF cs l))]) := by
  have ll : ((l.map Stp.c).length : Int) = l.length := by simp
  have ul : ∀ {n : Nat}, Under n (A.sl sb .any (l.map Stp.c)) := (free_map Stp.free _ _ _).under
  have uc : Under 1 (A.ms 0 0 cs.length) := .ms _ _ _ (by decide)
  refine SCall.drop (post := fun v H' _ => v = .tup [] ∧ HasH H' [(0, iB (walkF cs l))]) (SCall.of_bodyN tab_ok Try.func98 rfl Try.ntmps98 (Nat.le_of_ble_eq_true rfl) (allC (fun _ => rfl) (all1 fun _ => rfl)) fun E hE => ?_)
    (fun v H' c' h => ⟨_, h.2.ofH, h.1, rfl⟩)
  refine Aw.sm tab_ok mb0 [] rfl rfl ?zo ?zk
  case zo =>
    repeat' apply AllP.cons
    all_goals first | exact trivial
  case zk =>
  refine Aw.block (Aw.rounds 1 hE [(0, .ms 0 0 cs.length), (6, .sl sb .any (l.map Stp.c)), (7, .int l.length)] (fun k : Nat => [(8, .int k)]) (fun k => [(0, iB (walkF cs (l.take k)))]) (fun k => k ≤ l.length) (fun k => l.length - k) 0 ?zg ⟨?zc, ?zv, ?zh, Nat.le_of_ble_eq_true rfl⟩ ?zu (fun k zhk => ?zw) (fun k zhk => ?zx) fun k hk => ?zr)
  case zg =>
    (repeat' (first | exact Nat.zero_le _))
  case zc =>
    (repeat' (first | (refine And.intro ?_ ?_) | exact trivial | exact A.Le.refl _ | exact .of_eq (congrArg A.int ll.symm)))
  case zv =>
    (repeat' (first | (refine And.intro ?_ ?_) | exact trivial | exact A.Le.refl _))
  case zh =>
    (repeat' (first | (refine And.intro ?_ ?_) | exact trivial | exact rfl))
  case zu =>
    (repeat' (first | exact trivial | exact Under.s _ | assumption | exact ul | (refine And.intro ?_ ?_)))
  case zw =>
    (repeat' (first | exact trivial | exact Under.s _ | (refine And.intro ?_ ?_)))
  case zx =>
    (repeat' (first | exact trivial | exact Nat.le_of_ble_eq_true rfl | exact iB_under _ | (refine And.intro ?_ ?_)))
  case zr =>
  refine Aw.sm tab_ok mb0 [] rfl rfl ?zo ?zk
  case zo =>
    repeat' apply AllP.cons
    all_goals first | exact trivial
  case zk =>
  refine Aw.seq (Aw.cond rfl (fun h1 => Aw.skip1 ?_) (fun h1 => Aw.exit2 ?_))
  · have hlt : k < l.length := by have := of_decide_eq_true h1; omega
    have hgs := stp_at hlt
    have hks := hks0 _ (List.getElem_mem hlt)
    have hwt := walk_take (cs := cs) hlt
    have hwl := walkF_len (l.take k) cs
    have hwb := walk_bd (B := 100000) (l.take k) cs 0 (fun c hc => by have := hcs c hc; push_cast; omega) (by decide)
    have htl : (l.take k).length ≤ 1000 := by rw [List.length_take]; omega
    have hvb : -200000 ≤ (walkF cs (l.take k)).getD l[k].k 0 ∧ (walkF cs (l.take k)).getD l[k].k 0 ≤ 200000 := by
      have e : (walkF cs (l.take k)).getD l[k].k 0 = (walkF cs (l.take k))[l[k].k]'(by omega) := by simp [List.getD_eq_getElem?_getD, show l[k].k < (walkF cs (l.take k)).length by omega]
      have := hwb _ (List.getElem_mem (show l[k].k < (walkF cs (l.take k)).length by omega))
      rw [e]; push_cast at this; omega
    generalize hv1 : walkF cs (l.take (k + 1)) = W1 at *
    generalize walkF cs (l.take k) = W at *
    generalize l[k] = s at *
    unfold walk1 at hwt
    have q1 := getI (g := W) (k := s.k) (by omega)
    have q2 : 0 + s.k * 1 < (W.map A.int).length := by rw [List.length_map]; omega
    have q3 : 0 + s.k * 1 + 1 ≤ (W.map A.int).length := by rw [List.length_map]; omega
    have q4 : (s.k : Int) < (cs.length : Int) := by omega
    have q0 : 0 ≤ (s.k : Int) := Int.natCast_nonneg _
    generalize hv : W.getD s.k 0 = v at *
    obtain ⟨sk, fw⟩ := s
    simp only at *
    refine Aw.seq (Aw.block ?_)
    refine Aw.sm tab_ok mb0 [(0, [.int sk, .bool fw])] rfl rfl ?zo ?zk
    case zo =>
      repeat' apply AllP.cons
      all_goals first | exact trivial | exact rfl | exact Nat.le_of_ble_eq_true rfl | exact Int.natCast_nonneg _ | exact hgs
    case zk =>
    refine Aw.sm tab_ok mb0 [] rfl rfl ?zo ?zk
    case zo =>
      repeat' apply AllP.cons
      all_goals first | exact trivial | exact Nat.le_of_ble_eq_true rfl
    case zk =>
    cases fw with
    | true =>
      refine Aw.cond rfl (fun _ => ?_) (fun h => Bool.noConfusion (show true = false from h))
      have hsc := congrArg (fun x => some (B.cells x)) (set_cellsI (l := W) (k := sk) (v := v - 1) (by omega))
      refine Aw.em tab_ok mb0 [(4, [.int v])] rfl rfl ?zo ?zk
      case zo =>
        repeat' apply AllP.cons
        all_goals first | exact trivial | exact rfl | exact Nat.le_of_ble_eq_true rfl | exact Int.natCast_nonneg _ | exact q1 | exact q2 | exact q4 | exact (by simp only [Ob.of, inR]; omega)
      case zk =>
      refine Aw.em tab_ok mb0 [] rfl rfl ?zo ?zk
      case zo =>
        repeat' apply AllP.cons
        all_goals first | exact trivial | exact inrk k (by omega)
      case zk =>
      refine ⟨k + 1, ?zg, ?zm, ⟨?zc, ?zv, ?zh, Nat.le_of_ble_eq_true rfl⟩⟩
      case zg =>
        (repeat' (first | assumption))
      case zm =>
        (repeat' (first | omega))
      case zc =>
        (repeat' (first | (refine And.intro ?_ ?_) | exact trivial | exact A.Le.refl _))
      case zv =>
        (repeat' (first | (refine And.intro ?_ ?_) | exact trivial | exact A.Le.refl _))
      case zh =>
        (repeat' (first | (refine And.intro ?_ ?_) | exact trivial | exact hsc.trans (congrArg (fun x => some (iB x)) (hv1.trans hwt).symm)))
    | false =>
      refine Aw.cond rfl (fun h => Bool.noConfusion (show false = true from h)) (fun _ => ?_)
      have hsc := congrArg (fun x => some (B.cells x)) (set_cellsI (l := W) (k := sk) (v := v + 1) (by omega))
      refine Aw.em tab_ok mb0 [(4, [.int v])] rfl rfl ?zo ?zk
      case zo =>
        repeat' apply AllP.cons
        all_goals first | exact trivial | exact rfl | exact Nat.le_of_ble_eq_true rfl | exact Int.natCast_nonneg _ | exact q1 | exact q2 | exact q4 | exact (by simp only [Ob.of, inR]; omega)
      case zk =>
      refine Aw.em tab_ok mb0 [] rfl rfl ?zo ?zk
      case zo =>
        repeat' apply AllP.cons
        all_goals first | exact trivial | exact inrk k (by omega)
      case zk =>
      refine ⟨k + 1, ?zg, ?zm, ⟨?zc, ?zv, ?zh, Nat.le_of_ble_eq_true rfl⟩⟩
      case zg =>
        (repeat' (first | assumption))
      case zm =>
        (repeat' (first | omega))
      case zc =>
        (repeat' (first | (refine And.intro ?_ ?_) | exact trivial | exact A.Le.refl _))
      case zv =>
        (repeat' (first | (refine And.intro ?_ ?_) | exact trivial | exact A.Le.refl _))
      case zh =>
        (repeat' (first | (refine And.intro ?_ ?_) | exact trivial | exact hsc.trans (congrArg (fun x => some (iB x)) (hv1.trans hwt).symm)))
  have hle : k = l.length := by have := of_decide_eq_false h1; omega
  subst hle
  rw [List.take_length]
  exact ⟨_, .nil, rfl, rfl, trivial⟩
end Go.Proofs.Ytampldajinhenaa

namespace Go.Proofs.Ytampldajinhenaa
open Go Go.AL Go.AL.Q Go.AL.Br
theorem und3 : Try.prog.underlying 3 = some (.int .i64) := by kernel_rfl
def onFn2 (b : Book) (n : Nat) (to wo : Int) : A := .fn (.func 99) [] [.pt [.int to], .pt b.c, .pt [.int wo], .ref 2 0, .pt [.ms 0 0 n], .ref 3 0]
def wyH (b : Book) (cs : List Int) (to wo : Int) (met : List Int) : List (Nat × B) := [(0, iB cs), (1, .map (setI met)), (2, .cells [.mp 1]), (3, .cells [onFn2 b cs.length to wo])]
theorem onFn2_under (b : Book) (n : Nat) (to wo : Int) {k : Nat} (h : 4 ≤ k) : Under k (onFn2 b n to wo) := .fn _ _ _ (fun _ h => nomatch h) (allC (Free.pt _ (all1 (.s _))).under (allC (Free.pt _ b.free).under (allC (Free.pt _ (all1 (.s _))).under (allC (.ref _ _ (by omega)) (allC (.pt _ (all1 (.ms _ _ _ (by omega)))) (all1 (.ref _ _ (by omega))))))))
theorem setI_under (met : List Int) {n : Nat} : UnderB n (.map (setI met)) := .map _ fun e he => ⟨(setI_free met e he).1.under, (setI_free met e he).2.under⟩
theorem wyH_under (b : Book) (cs : List Int) (to wo : Int) (met : List Int) {n : Nat} (h : 4 ≤ n) : UnderH n (wyH b cs to wo met) :=
  ⟨⟨by omega, iB_under _⟩, ⟨by omega, setI_under _⟩, ⟨by omega, .cells _ (all1 (.mp _ (by omega)))⟩, ⟨by omega, .cells _ (all1 (onFn2_under b _ to wo h))⟩, trivial⟩
def sid : List Stp → Nat
  | [_] => 4
  | _ => 5
theorem sid_ge (l : List Stp) : 4 ≤ sid l := by unfold sid; split <;> decide
def StV (l : List Stp) (v : A) (is : Bool) (H' : Hp) : Prop := match l with
  | [] => v = .tup [.sl true .exact [], .bool is]
  | s :: l => ∃ id cap, id = sid (s :: l) ∧ v = .tup [.gs id (s :: l).length cap, .bool is] ∧ ∃ m, H' id = some (.cells (((s :: l).map Stp.c).flatten ++ List.replicate m A.un)) ∧ (((s :: l).map Stp.c).flatten ++ List.replicate m A.un).length = cap * 2
def OnQ (b : Book) (cs : List Int) (to wo : Int) (r : Wy) (v : A) (H' : Hp) : Prop := HasH H' (wyH b cs to wo r.2) ∧ match r.1 with
  | some l => StV l v true H'
  | none => v = .tup [.sl true .exact [], .bool false]
theorem stp_flat (l : List Stp) : (l.map Stp.c).flatten.map A.down = (l.map Stp.c).flatten := by
  induction l with
  | nil => rfl
  | cons s l ih => rw [List.map_cons, List.flatten_cons, List.map_append, ih]; rfl
theorem stp_two (l : List Stp) : ∀ z ∈ l.map Stp.c, z.length = 2 := fun z hz => by obtain ⟨s, _, rfl⟩ := List.mem_map.1 hz; rfl
theorem stp_len (l : List Stp) : (l.map Stp.c).flatten.length = l.length * 2 := by
  have := flat_len (stp_two l)
  rw [List.length_map] at this; exact this
theorem stp_rows (l : List Stp) (junk : List A) : RowsAre ((l.map Stp.c).flatten ++ junk) (l.map Stp.c) 2 := ⟨stp_two l, by rw [List.length_append, stp_len, List.length_map]; omega, fun i j hi hj => by
  rw [List.length_map] at hi
  have hlt : i * 2 + j < l.length * 2 := by omega
  have h1 := flat_get (stp_two l) (i * 2 + j) (by rw [List.length_map]; exact hlt)
  rw [show (i * 2 + j) / 2 = i by omega, show (i * 2 + j) % 2 = j by omega] at h1
  have h2 : ((l.map Stp.c).flatten ++ junk).getD (i * 2 + j) .un = (l.map Stp.c).flatten.getD (i * 2 + j) .un := by
    rw [List.getD_eq_getElem?_getD, List.getElem?_append_left (by rw [stp_len]; exact hlt), ← List.getD_eq_getElem?_getD]
  rw [h2, h1]
  have h3 : (l.map Stp.c).getD i [] = l[i].c := by simp [List.getD_eq_getElem?_getD, hi]
  rw [h3]
  match j, hj with
  | 0, _ => rfl
  | 1, _ => rfl⟩
set_option maxHeartbeats 4000000 in
theorem on_w (b : Book) (hb : b.Ok) (cs : List Int) (hc : CsOk b.ms cs) (to wo : Int) : ∀ (f : Nat) (at' : Int) (met : List Int), MetOk b.n met → b.n < met.length + f → f ≤ 7 →
    SCall Try.prog 99 [.int at', .pt [.int to], .pt b.c, .pt [.int wo], .ref 2 0, .pt [.ms 0 0 cs.length], .ref 3 0] (ofH (wyH b cs to wo met)) 4 (fun v H' c' => 6 ≤ c' ∧ OnQ b cs to wo (onW b.ms cs to wo f at' met) v H') := by
  intro f
  induction f with
  | zero => intro at' met hm hl; have := hm.len (by have := hb.n; omega); omega
  | succ f ih =>
    intro at' met hm hl hf7
    have hn := hb.n
    have hbl := hb.l
    have hcl := hc.l
    have lm : ((b.ms.map Mv.c).length : Int) = b.ms.length := by simp
    have um : ∀ {n : Nat}, Under n (A.sl b.nn .any (b.ms.map Mv.c)) := (free_map Mv.free _ _ _).under
    have ub : ∀ {n : Nat}, Under n (A.pt b.c) := (Free.pt _ b.free).under
    have ucs : ∀ {n : Nat}, 1 ≤ n → Under n (A.pt [.ms 0 0 cs.length]) := fun h => .pt _ (all1 (.ms _ _ _ (by omega)))
    have uwo : ∀ {n : Nat}, Under n (A.pt [.int wo]) := (Free.pt _ (all1 (.s _))).under
    have hun : onW b.ms cs to wo (f + 1) at' met = if at' = to then (some [], met) else onGo (onW b.ms cs to wo f) b.ms cs wo at' (List.range b.ms.length) met := rfl
    rw [hun]
    refine SCall.of_bodyN tab_ok Try.func99 rfl Try.ntmps99 (Nat.le_of_ble_eq_true rfl) (allC (fun _ => rfl) (allC (fun _ => rfl) (allC (fun _ => rfl) (allC (fun _ => rfl) (allC (fun _ => rfl) (allC (fun _ => rfl) (all1 fun _ => rfl))))))) fun E hE => ?_
    refine Aw.sm tab_ok mb0 [] rfl rfl ?zo ?zk
    case zo =>
      repeat' apply AllP.cons
      all_goals first | exact trivial
    case zk =>
    refine Aw.seq ?_
    refine Aw.sm tab_ok mb0 [] rfl rfl ?zo ?zk
    case zo =>
      repeat' apply AllP.cons
      all_goals first | exact trivial | exact Nat.le_of_ble_eq_true rfl
    case zk =>
    refine Aw.cond rfl (fun h => ?_) (fun h => Aw.skip ?_)
    · have h : (at' == to) = true := h
      rw [if_pos (eq_of_beq h)]
      refine Aw.sm tab_ok mb0 [] rfl rfl ?zo ?zk
      case zo =>
        repeat' apply AllP.cons
        all_goals first | exact trivial
      case zk =>
      refine Aw.raise (c' := 6) (Nat.le_of_ble_eq_true rfl) ?_
      exact Aw.ret ⟨_, .cons (.tmp _) (.cons (.tmp _) .nil), Nat.le_of_ble_eq_true rfl, ⟨rfl, rfl, rfl, rfl, trivial⟩, rfl⟩
    have h : (at' == to) = false := h
    have hne : at' ≠ to := by simpa using h
    rw [if_neg hne]
    refine Aw.seq ?_
    refine Aw.sm tab_ok mb0 [] rfl rfl ?zo ?zk
    case zo =>
      repeat' apply AllP.cons
      all_goals first | exact trivial | exact Nat.le_of_ble_eq_true rfl
    case zk =>
    generalize hR : onGo (onW b.ms cs to wo f) b.ms cs wo at' (List.range b.ms.length) met = R at *
    refine Aw.block (Aw.rounds 4 hE [(0, .int at'), (3, .pt [.int wo]), (4, .ref 2 0), (5, .pt [.ms 0 0 cs.length]), (6, .ref 3 0), (22, .sl b.nn .any (b.ms.map Mv.c)), (23, .int b.ms.length)] (fun i : (Nat×List Int) => [(24, .int i.1)]) (fun i => wyH b cs to wo i.2) (fun i => i.1 ≤ b.ms.length ∧ MetOk b.n i.2 ∧ met.length ≤ i.2.length ∧ onGo (onW b.ms cs to wo f) b.ms cs wo at' ((List.range b.ms.length).drop i.1) i.2 = R) (fun i => b.ms.length - i.1) (0, met) ?zg ⟨?zc, ?zv, ?zh, Nat.le_of_ble_eq_true rfl⟩ ?zu (fun i zhk => ?zw) (fun i zhk => ?zx) fun i hk => ?zr)
    case zg =>
      (repeat' (first | exact ⟨Nat.zero_le _, hm, Nat.le_refl _, hR⟩))
    case zc =>
      (repeat' (first | (refine And.intro ?_ ?_) | exact trivial | exact A.Le.refl _ | exact .of_eq (congrArg A.int lm.symm)))
    case zv =>
      (repeat' (first | (refine And.intro ?_ ?_) | exact trivial | exact A.Le.refl _))
    case zh =>
      (repeat' (first | (refine And.intro ?_ ?_) | exact trivial | exact rfl))
    case zu =>
      (repeat' (first | exact trivial | exact Under.s _ | exact Under.ref _ _ (by decide) | exact um | exact uwo | exact ucs (by decide) | (refine And.intro ?_ ?_)))
    case zw =>
      (repeat' (first | exact trivial | exact Under.s _ | (refine And.intro ?_ ?_)))
    case zx =>
      (repeat' (first | exact trivial | exact Nat.le_of_ble_eq_true rfl | exact iB_under _ | exact setI_under _ | exact .cells _ (all1 (.mp _ (by decide))) | exact .cells _ (all1 (onFn2_under b _ to wo (Nat.le_refl _))) | (refine And.intro ?_ ?_)))
    case zr =>
    obtain ⟨k, met1⟩ := i
    obtain ⟨hk, hm1, hml, hrun⟩ := hk
    simp only at hk hm1 hml hrun
    refine Aw.sm tab_ok mb0 [] rfl rfl ?zo ?zk
    case zo =>
      repeat' apply AllP.cons
      all_goals first | exact trivial
    case zk =>
    refine Aw.seq (Aw.cond rfl (fun h1 => Aw.skip1 ?_) (fun h1 => Aw.exit2 ?_))
    · have hlt : k < b.ms.length := by have := of_decide_eq_true h1; omega
      have hdr : (List.range b.ms.length).drop k = k :: (List.range b.ms.length).drop (k + 1) := by
        rw [List.drop_eq_getElem_cons (by simpa using hlt)]; simp
      have hmk : b.ms.getD k ⟨0, 0, 0, 0⟩ = b.ms[k] := by simp [List.getD_eq_getElem?_getD, hlt]
      rw [hdr, onGo, hmk] at hrun
      have hgm := mv_at hlt
      have hmo := hb.m _ (List.getElem_mem hlt)
      have hgc := getI (g := cs) (k := k) (by omega)
      generalize b.ms[k] = m at *
      have hlo := least_t m
      have hhi := greatest_t m
      refine Aw.seq (Aw.block ?_)
      refine Aw.sm tab_ok mb0 [(1, m.c)] rfl rfl ?zo ?zk
      case zo =>
        repeat' apply AllP.cons
        all_goals first | exact trivial | exact rfl | exact Nat.le_of_ble_eq_true rfl | exact Int.natCast_nonneg _ | exact hgm
      case zk =>
      refine Aw.freeze (id := 4) (t := 11) (cs := m.c) rfl rfl ?_
      have ump : ∀ {n : Nat}, Under n (A.pt m.c) := (Free.pt _ m.free).under
      refine Aw.keep (n := 4) (cst := [(0, .int at'), (3, .pt [.int wo]), (4, .ref 2 0), (5, .pt [.ms 0 0 cs.length]), (6, .ref 3 0), (10, .int k), (11, .pt m.c), (22, .sl b.nn .any (b.ms.map Mv.c)), (23, .int b.ms.length), (24, .int k)]) (v := []) (Hl := wyH b cs to wo met1) hE ?zu ?zw ?zx ⟨?zc, ?zv, ?zh, Nat.le_of_ble_eq_true rfl⟩ ?zr
      case zu =>
        (repeat' (first | exact trivial | exact Under.s _ | exact Under.ref _ _ (by decide) | exact um | exact ump | exact uwo | exact ucs (by decide) | (refine And.intro ?_ ?_)))
      case zw =>
        (repeat' (first | exact trivial))
      case zx =>
        (repeat' (first | exact trivial | exact Nat.le_of_ble_eq_true rfl | exact iB_under _ | exact setI_under _ | exact .cells _ (all1 (.mp _ (by decide))) | exact .cells _ (all1 (onFn2_under b _ to wo (Nat.le_refl _))) | (refine And.intro ?_ ?_)))
      case zc =>
        (repeat' (first | (refine And.intro ?_ ?_) | exact trivial | exact A.Le.refl _))
      case zv =>
        (repeat' (first | exact trivial))
      case zh =>
        (repeat' (first | (refine And.intro ?_ ?_) | exact trivial | exact rfl))
      case zr =>
      refine Aw.sd tab_ok mixed mb0 [] rfl (by kernel_rfl) rfl rfl ?zo ?zk
      case zo =>
        repeat' apply AllP.cons
        all_goals first | exact trivial | exact rfl | exact Nat.le_of_ble_eq_true rfl
      case zk =>
      have h11 : ∀ id, 11 ≤ id → E.φ0 id = none := fun id _ => hE id (by omega)
      have umo : ∀ {n : Nat}, 4 ≤ n → UnderB n (.cells [onFn2 b cs.length to wo]) := fun h => .cells _ (all1 (onFn2_under b _ to wo h))
      have ump1 : ∀ {n : Nat}, 4 ≤ n → UnderB n (.cells [.mp 1]) := fun h => .cells _ (all1 (.mp _ (by omega)))
      have ust : ∀ (q : Bool) {n : Nat}, UnderB n (.cells [.int k, .bool q]) := fun q n => .cells _ (allC (.s _) (all1 (.s _)))
      have hfn := hmo.ne
      refine Aw.join1 11 h11 [(0, .int at'), (3, .pt [.int wo]), (4, .ref 2 0), (5, .pt [.ms 0 0 cs.length]), (6, .ref 3 0), (10, .int k), (11, .pt m.c), (12, .ref 8 0), (22, .sl b.nn .any (b.ms.map Mv.c)), (23, .int b.ms.length), (24, .int k)] [(13, .int (nxS m at'))] (wyH b cs to wo met1 ++ [(8, .cells [.int k, .bool (decide (at' = m.to))])])
        ⟨.s _, uwo, .ref _ _ (by decide), ucs (by decide), .ref _ _ (by decide), .s _, ump, .ref _ _ (by decide), um, .s _, .s _, trivial⟩ ⟨.s _, trivial⟩ (by unfold wyH; exact ⟨⟨by decide, iB_under _⟩, ⟨by decide, setI_under _⟩, ⟨by decide, ump1 (by decide)⟩, ⟨by decide, umo (by decide)⟩, ⟨by decide, ust _⟩, trivial⟩) ?_ ?_
      · refine Aw.sm tab_ok mb0 [] rfl rfl ?zo ?zk
        case zo =>
          repeat' apply AllP.cons
          all_goals first | exact trivial | exact Nat.le_of_ble_eq_true rfl
        case zk =>
        refine Aw.cond rfl (fun h2 => ?_) (fun h2 => Aw.skip ?_)
        · have h2 : (at' == m.to) = true := h2
          have h2 := eq_of_beq h2
          have e1 : nxS m at' = m.fr := by unfold nxS; rw [if_pos h2]
          rw [e1, decide_eq_true h2]
          refine Aw.ed tab_ok mixed mb0 [] rfl (by kernel_rfl) rfl rfl ?zo ?zk
          case zo =>
            repeat' apply AllP.cons
            all_goals first | exact trivial | exact rfl | exact Nat.le_of_ble_eq_true rfl
          case zk =>
          exact ⟨⟨.refl _, .refl _, .refl _, .refl _, .refl _, .refl _, .refl _, .refl _, .refl _, .refl _, .refl _, trivial⟩, ⟨.refl _, trivial⟩, ⟨rfl, rfl, rfl, rfl, rfl, trivial⟩, Nat.le_of_ble_eq_true rfl⟩
        · have h2 : (at' == m.to) = false := h2
          have h2 : at' ≠ m.to := by simpa using h2
          have e1 : nxS m at' = m.to := by unfold nxS; rw [if_neg h2]
          rw [e1, decide_eq_false h2]
          exact ⟨⟨.refl _, .refl _, .refl _, .refl _, .refl _, .refl _, .refl _, .refl _, .refl _, .refl _, .refl _, trivial⟩, ⟨.refl _, trivial⟩, ⟨rfl, rfl, rfl, rfl, rfl, trivial⟩, Nat.le_of_ble_eq_true rfl⟩
      have hnx := nxS_in hmo at'
      have hcan : canB b.ms cs wo met1 at' k m = cond (cond (!((k : Int) == wo)) (!met1.contains (nxS m at')) false) (cond (cond (at' == m.fr) (decide (cs.getD k 0 < m.hi)) false) true (cond (at' == m.to) (decide (cs.getD k 0 > m.lo)) false)) false := rfl
      have hlk := setI_lk (T := tab) (et := 4) und3 rfl met1 (nxS m at')
      have hup := fun h => setI_up und3 (l := met1) (a := nxS m at') h
      have hhas := setI_has und3 met1 (nxS m at')
      have hadd := fun h => hm1.add hnx h
      generalize nxS m at' = nx at *
      generalize cs.getD k 0 = c at *
      have q2 : 0 + Int.toNat (k : Int) * 1 < (cs.map A.int).length := by rw [List.length_map, Int.toNat_natCast]; omega
      have q4 : (k : Int) < (cs.length : Int) := by omega
      have q5 : 0 ≤ (k : Int) := Int.natCast_nonneg _
      refine Aw.sd tab_ok mixed mb0 [(6, [.bool (met1.contains nx), .bool (met1.contains nx)]), (18, [.int c]), (21, [.int m.hi]), (33, [.int c]), (36, [.int m.lo])] rfl (by kernel_rfl) rfl rfl ?zo ?zk
      case zo =>
        repeat' apply AllP.cons
        all_goals first | exact trivial | exact id | exact fun _ => rfl | exact Nat.le_of_ble_eq_true rfl | exact fun _ => Nat.le_of_ble_eq_true rfl | exact fun _ => Int.natCast_nonneg _ | exact gq_c | exact fun _ => hlk | exact fun _ => hgc | exact fun _ => q2 | exact fun _ => q4 | exact fun _ => hhi | exact fun _ => hlo | exact fun _ _ => rfl
      case zk =>
      refine Aw.seq ?_
      refine Aw.sm tab_ok mb0 [] rfl rfl ?zo ?zk
      case zo =>
        repeat' apply AllP.cons
        all_goals first | exact trivial
      case zk =>
      have hcB : ∀ q : Bool, (!cond (cond ((k : Int) != wo) (!met1.contains nx) false) (cond (cond (at' == m.fr) (decide (c < m.hi)) false) true (cond (at' == m.to) (decide (c > m.lo)) false)) false) = q → canB b.ms cs wo met1 at' k m = !q := fun q h => by rw [hcan, ← h, Bool.not_not]; rfl
      refine Aw.cond rfl (fun h3 => ?_) (fun h3 => Aw.skip ?_)
      · have h3 := hcB _ h3
        rw [h3] at hrun
        have hrun : onGo (onW b.ms cs to wo f) b.ms cs wo at' ((List.range b.ms.length).drop (k + 1)) met1 = R := hrun
        refine Aw.exit (thenE (blkE ?_))
        refine Aw.em tab_ok mb0 [] rfl rfl ?zo ?zk
        case zo =>
          repeat' apply AllP.cons
          all_goals first | exact trivial | exact inrk k (by omega)
        case zk =>
        refine ⟨(k + 1, met1), ?zg, ?zm, ⟨?zc, ?zv, ?zh, Nat.le_of_ble_eq_true rfl⟩⟩
        case zg =>
          (repeat' (first | exact ⟨hlt, hm1, hml, hrun⟩))
        case zm =>
          (repeat' (first | omega))
        case zc =>
          (repeat' (first | (refine And.intro ?_ ?_) | exact trivial | exact A.Le.refl _))
        case zv =>
          (repeat' (first | (refine And.intro ?_ ?_) | exact trivial | exact A.Le.refl _))
        case zh =>
          (repeat' (first | (refine And.intro ?_ ?_) | exact trivial | exact rfl))
      have h3 := hcB _ h3
      have h3 : canB b.ms cs wo met1 at' k m = true := h3
      rw [if_pos h3] at hrun
      have hct : met1.contains nx = false := by
        have h4 : cond (cond (!((k : Int) == wo)) (!met1.contains nx) false) (cond (cond (at' == m.fr) (decide (c < m.hi)) false) true (cond (at' == m.to) (decide (c > m.lo)) false)) false = true := hcan ▸ h3
        have := ac2 (ac1 h4)
        simpa using this
      have hup := hup hct
      have hm2 := hadd hct
      generalize hfw : decide (at' = m.to) = fw at *
      refine Aw.freeze (id := 8) (t := 12) (cs := [.int k, .bool fw]) rfl rfl ?_
      have ust2 : ∀ {n : Nat}, Under n (A.pt [.int k, .bool fw]) := (Free.pt _ (allC (.s _) (all1 (.s _)))).under
      refine Aw.keep (n := 4) (cst := [(0, .int at'), (3, .pt [.int wo]), (4, .ref 2 0), (5, .pt [.ms 0 0 cs.length]), (6, .ref 3 0), (12, .pt [.int k, .bool fw]), (13, .int nx), (22, .sl b.nn .any (b.ms.map Mv.c)), (23, .int b.ms.length), (24, .int k)]) (v := []) (Hl := wyH b cs to wo met1) hE ?zu ?zw ?zx ⟨?zc, ?zv, ?zh, Nat.le_of_ble_eq_true rfl⟩ ?zr
      case zu =>
        (repeat' (first | exact trivial | exact Under.s _ | exact Under.ref _ _ (by decide) | exact um | exact ust2 | exact uwo | exact ucs (by decide) | (refine And.intro ?_ ?_)))
      case zw =>
        (repeat' (first | exact trivial))
      case zx =>
        (repeat' (first | exact trivial | exact Nat.le_of_ble_eq_true rfl | exact iB_under _ | exact setI_under _ | exact ump1 (by decide) | exact umo (by decide) | (refine And.intro ?_ ?_)))
      case zc =>
        (repeat' (first | (refine And.intro ?_ ?_) | exact trivial | exact A.Le.refl _))
      case zv =>
        (repeat' (first | exact trivial))
      case zh =>
        (repeat' (first | (refine And.intro ?_ ?_) | exact trivial | exact rfl))
      case zr =>
      refine Aw.sm tab_ok mb0 [] rfl rfl ?zo ?zk
      case zo =>
        repeat' apply AllP.cons
        all_goals first | exact trivial | exact Nat.le_of_ble_eq_true rfl | exact hhas
      case zk =>
      refine Aw.keep (n := 4) (cst := [(0, .int at'), (3, .pt [.int wo]), (4, .ref 2 0), (5, .pt [.ms 0 0 cs.length]), (6, .ref 3 0), (12, .pt [.int k, .bool fw]), (13, .int nx), (22, .sl b.nn .any (b.ms.map Mv.c)), (23, .int b.ms.length), (24, .int k)]) (v := []) (Hl := wyH b cs to wo (met1 ++ [nx])) hE ?zu ?zw ?zx ⟨?zc, ?zv, ?zh, Nat.le_of_ble_eq_true rfl⟩ ?zr
      case zu =>
        (repeat' (first | exact trivial | exact Under.s _ | exact Under.ref _ _ (by decide) | exact um | exact ust2 | exact uwo | exact ucs (by decide) | (refine And.intro ?_ ?_)))
      case zw =>
        (repeat' (first | exact trivial))
      case zx =>
        (repeat' (first | exact trivial | exact Nat.le_of_ble_eq_true rfl | exact iB_under _ | exact setI_under _ | exact ump1 (by decide) | exact umo (by decide) | (refine And.intro ?_ ?_)))
      case zc =>
        (repeat' (first | (refine And.intro ?_ ?_) | exact trivial | exact A.Le.refl _))
      case zv =>
        (repeat' (first | exact trivial))
      case zh =>
        (repeat' (first | (refine And.intro ?_ ?_) | exact trivial | exact rfl | exact congrArg (fun x => some (B.map x)) hup))
      case zr =>
      have hcall := ih nx (met1 ++ [nx]) hm2 (by rw [List.length_append]; simp; omega) (by omega)
      have hrl7 := onW_len (ms := b.ms) (cs := cs) (to := to) (wo := wo) f nx (met1 ++ [nx])
      have hmr := onW_met hb.m (cs := cs) (to := to) (wo := wo) f nx (met1 ++ [nx]) hm2
      generalize onW b.ms cs to wo f nx (met1 ++ [nx]) = r at *
      obtain ⟨r1, r2⟩ := r
      simp only at hrun hmr hrl7
      refine Aw.ss rfl ?_
      refine RegL.partE tab_ok mb0 false 2 0 [(0, [onFn2 b cs.length to wo])] ?_
      conv => arg 5; whnf
      refine PartK.mk ?zo ?zk
      case zo =>
        repeat' apply AllP.cons
        all_goals first | exact trivial | exact rfl | exact Nat.le_of_ble_eq_true rfl
      case zk =>
      refine Does.raw rfl (DoesR.call (fst := []) (cap := [.pt [.int to], .pt b.c, .pt [.int wo], .ref 2 0, .pt [.ms 0 0 cs.length], .ref 3 0]) rfl rfl (enters_of Try.func99 rfl rfl) hcall ?_)
      rintro v H' c' ⟨hc6, ⟨hh0, hh1, hh2, hh3, _⟩, hq⟩
      have hc4 : 4 ≤ c' := Nat.le_trans (by decide) hc6
      cases r1 with
      | none =>
        have hq : v = .tup [.sl true .exact [], .bool false] := hq
        subst hq
        have hrun : onGo (onW b.ms cs to wo f) b.ms cs wo at' ((List.range b.ms.length).drop (k + 1)) r2 = R := hrun
        refine RegL.partE tab_ok mb0 false 5 3 [] ?_
        conv => arg 5; whnf
        refine PartK.mk ?zo ?zk
        case zo =>
          repeat' apply AllP.cons
          all_goals first | exact trivial
        case zk =>
        refine Aw.sm tab_ok mb0 [] rfl rfl ?zo ?zk
        case zo =>
          repeat' apply AllP.cons
          all_goals first | exact trivial
        case zk =>
        refine Aw.cond rfl (fun h => by cases h) (fun _ => Aw.skip ?_)
        obtain ⟨hr1, u, hr2⟩ := hmr
        have hrl : met.length ≤ r2.length := by rw [hr2]; simp; omega
        refine Aw.em tab_ok mb0 [] rfl rfl ?zo ?zk
        case zo =>
          repeat' apply AllP.cons
          all_goals first | exact trivial | exact inrk k (by omega)
        case zk =>
        refine ⟨(k + 1, r2), ?zg, ?zm, ⟨?zc, ?zv, ?zh, hc4⟩⟩
        case zg =>
          (repeat' (first | exact ⟨hlt, hr1, hrl, hrun⟩))
        case zm =>
          (repeat' (first | omega))
        case zc =>
          (repeat' (first | (refine And.intro ?_ ?_) | exact trivial | exact A.Le.refl _))
        case zv =>
          (repeat' (first | (refine And.intro ?_ ?_) | exact trivial | exact A.Le.refl _))
        case zh =>
          (repeat' (first | (refine And.intro ?_ ?_) | exact trivial | exact hh0 | exact hh1 | exact hh2 | exact hh3))
      | some l =>
        have hrun : (some (⟨k, fw⟩ :: l), r2) = R := hrun
        subst hrun
        have hq : StV l v true H' := hq
        cases l with
        | nil =>
          have hq : v = .tup [.sl true .exact [], .bool true] := hq
          subst hq
          refine RegL.partE tab_ok mb0 false 5 3 [] ?_
          conv => arg 5; whnf
          refine PartK.mk ?zo ?zk
          case zo =>
            repeat' apply AllP.cons
            all_goals first | exact trivial
          case zk =>
          refine Aw.sm tab_ok mb0 [] rfl rfl ?zo ?zk
          case zo =>
            repeat' apply AllP.cons
            all_goals first | exact trivial
          case zk =>
          refine Aw.cond rfl (fun _ => ?_) (fun h => by cases h)
          refine Aw.keep (n := 4) (cst := [(12, .pt [.int k, .bool fw]), (15, .sl true .exact [])]) (v := []) (Hl := wyH b cs to wo r2) hE ?zu ?zw ?zx ⟨?zc, ?zv, ?zh, hc4⟩ ?zr
          case zu =>
            (repeat' (first | exact trivial | exact ust2 | exact (Free.sl _ _ _ (fun _ h => by cases h)).under | (refine And.intro ?_ ?_)))
          case zw =>
            (repeat' (first | exact trivial))
          case zx =>
            (repeat' (first | exact trivial | exact Nat.le_of_ble_eq_true rfl | exact iB_under _ | exact setI_under _ | exact ump1 (by decide) | exact umo (by decide) | (refine And.intro ?_ ?_)))
          case zc =>
            (repeat' (first | (refine And.intro ?_ ?_) | exact trivial | exact A.Le.refl _))
          case zv =>
            (repeat' (first | exact trivial))
          case zh =>
            (repeat' (first | (refine And.intro ?_ ?_) | exact trivial | exact hh0 | exact hh1 | exact hh2 | exact hh3))
          case zr =>
          refine Aw.ss rfl ?_
          refine RegL.partE tab_ok mb0 false 1 0 [] ?_
          conv => arg 5; whnf
          refine PartK.mk ?zo ?zk
          case zo =>
            repeat' apply AllP.cons
            all_goals first | exact trivial | exact Nat.le_of_ble_eq_true rfl
          case zk =>
          refine Does.raw rfl (DoesR.litG tab_ok rfl rfl rfl ⟨show 1 * 2 ≤ 16777216 by decide, show 0 < 1 by decide, trivial⟩ ?_)
          refine RegL.partE tab_ok mb0 false 1 2 [] ?_
          conv => arg 5; whnf
          refine PartK.mk ?zo ?zk
          case zo =>
            repeat' apply AllP.cons
            all_goals first | exact trivial
          case zk =>
          refine Does.raw rfl (DoesR.appGs0 tab_ok rfl rfl rfl (fun h => by cases h) rfl rfl ?_)
          refine RegL.partE tab_ok mb0 false 2 4 [] ?_
          conv => arg 5; whnf
          refine PartK.mk ?zo ?zk
          case zo =>
            repeat' apply AllP.cons
            all_goals first | exact trivial
          case zk =>
          refine Aw.raise (c' := 6) (Nat.le_of_ble_eq_true rfl) ?_
          exact Aw.ret ⟨_, .cons (.tmp _) (.cons (.tmp _) .nil), Nat.le_of_ble_eq_true rfl, ⟨rfl, rfl, rfl, rfl, trivial⟩, 4, 1, rfl, rfl, 0, rfl, rfl⟩
        | cons s l =>
          obtain ⟨id, cap, hid, hv, mj, hj, hjl⟩ := hq
          have hid : 4 ≤ id := by rw [hid]; exact sid_ge _
          subst hv
          refine RegL.partE tab_ok mb0 false 5 3 [] ?_
          conv => arg 5; whnf
          refine PartK.mk ?zo ?zk
          case zo =>
            repeat' apply AllP.cons
            all_goals first | exact trivial
          case zk =>
          refine Aw.sm tab_ok mb0 [] rfl rfl ?zo ?zk
          case zo =>
            repeat' apply AllP.cons
            all_goals first | exact trivial
          case zk =>
          refine Aw.cond rfl (fun _ => ?_) (fun h => by cases h)
          refine Aw.freezeG (t := 15) (id := id) (n := (s :: l).length) (cap := cap) (sz := 2) ((s :: l).map Stp.c) hj rfl (stp_rows (s :: l) (List.replicate mj A.un)) (by simp) ?_
          have usl : ∀ {n : Nat}, Under n (A.sl false .any ((s :: l).map Stp.c)) := (free_map Stp.free _ _ _).under
          have go : ∀ (i : Nat) (bx : Option B), i < 4 → H' i = bx → updH H' id none i = bx := fun i bx hi he => by rw [updH_other _ _ (by omega)]; exact he
          refine Aw.keep (n := 4) (cst := [(12, .pt [.int k, .bool fw]), (15, .sl false .any ((s :: l).map Stp.c))]) (v := []) (Hl := wyH b cs to wo r2) hE ?zu ?zw ?zx ⟨?zc, ?zv, ?zh, hc4⟩ ?zr
          case zu =>
            (repeat' (first | exact trivial | exact ust2 | exact usl | (refine And.intro ?_ ?_)))
          case zw =>
            (repeat' (first | exact trivial))
          case zx =>
            (repeat' (first | exact trivial | exact Nat.le_of_ble_eq_true rfl | exact iB_under _ | exact setI_under _ | exact ump1 (by decide) | exact umo (by decide) | (refine And.intro ?_ ?_)))
          case zc =>
            (repeat' (first | (refine And.intro ?_ ?_) | exact trivial | exact A.Le.refl _))
          case zv =>
            (repeat' (first | exact trivial))
          case zh =>
            (repeat' (first | (refine And.intro ?_ ?_) | exact trivial | exact go 0 _ (by decide) hh0 | exact go 1 _ (by decide) hh1 | exact go 2 _ (by decide) hh2 | exact go 3 _ (by decide) hh3))
          case zr =>
          refine Aw.ss rfl ?_
          refine RegL.partE tab_ok mb0 false 1 0 [] ?_
          conv => arg 5; whnf
          refine PartK.mk ?zo ?zk
          case zo =>
            repeat' apply AllP.cons
            all_goals first | exact trivial | exact Nat.le_of_ble_eq_true rfl
          case zk =>
          refine Does.raw rfl (DoesR.litG tab_ok rfl rfl rfl ⟨show 1 * 2 ≤ 16777216 by decide, show 0 < 1 by decide, trivial⟩ ?_)
          refine RegL.partE tab_ok mb0 false 1 2 [] ?_
          conv => arg 5; whnf
          refine PartK.mk ?zo ?zk
          case zo =>
            repeat' apply AllP.cons
            all_goals first | exact trivial
          case zk =>
          have hl2 := stp_two (s :: l)
          have hl7 := hrl7 _ rfl
          have hlm : ((s :: l).map Stp.c).length = (s :: l).length := List.length_map _
          refine Does.raw rfl (DoesR.appGs tab_ok (cs := [.int k, .bool fw]) (ys := (s :: l).map Stp.c) rfl rfl rfl (fun h => by cases h) (by decide) rfl rfl rfl rfl (by simp) hl2 (show (1 + ((s :: l).map Stp.c).length) * 16 ≤ 140737488355328 by omega) (show 1 + ((s :: l).map Stp.c).length ≤ maxLen by unfold maxLen; omega) (fun h => ?_) (fun cap' hcap => ?_))
          · exfalso; rw [hlm, List.length_cons] at h; omega
          have e1 : 1 + ((s :: l).map Stp.c).length = (⟨k, fw⟩ :: s :: l : List Stp).length := by rw [hlm]; simp; omega
          rw [e1] at hcap ⊢
          refine RegL.partE tab_ok mb0 false 2 4 [] ?_
          conv => arg 5; whnf
          refine PartK.mk ?zo ?zk
          case zo =>
            repeat' apply AllP.cons
            all_goals first | exact trivial
          case zk =>
          refine Aw.raise (c' := 6) (Nat.le_of_ble_eq_true rfl) ?_
          refine Aw.ret ⟨_, .cons (.tmp _) (.cons (.tmp _) .nil), Nat.le_of_ble_eq_true rfl, ⟨rfl, rfl, rfl, rfl, trivial⟩, 5, cap', rfl, rfl, (cap' - (⟨k, fw⟩ :: s :: l : List Stp).length) * 2, ?_, ?_⟩
          · show some (B.cells ((([A.int k, A.bool fw] : List A).take (1 * 2)).map A.down ++ ((s :: l).map Stp.c).flatten.map A.down ++ _)) = _
            rw [stp_flat]; rfl
          · rw [List.length_append, stp_len, List.length_replicate]
            have := hcap
            rw [← Nat.add_mul]; congr 1; omega
    · have hend : k = b.ms.length := by have := of_decide_eq_false h1; omega
      subst hend
      rw [List.drop_of_length_le (by simp), onGo] at hrun
      subst hrun
      refine Aw.sm tab_ok mb0 [] rfl rfl ?zo ?zk
      case zo =>
        repeat' apply AllP.cons
        all_goals first | exact trivial
      case zk =>
      refine Aw.raise (c' := 6) (Nat.le_of_ble_eq_true rfl) ?_
      exact Aw.ret ⟨_, .cons (.tmp _) (.cons (.tmp _) .nil), Nat.le_of_ble_eq_true rfl, ⟨rfl, rfl, rfl, rfl, trivial⟩, rfl⟩
end Go.Proofs.Ytampldajinhenaa

namespace Go.Proofs.Ytampldajinhenaa
open Go Go.AL Go.AL.Q Go.AL.Br
theorem stpB_under (l : List Stp) (m : Nat) {n : Nat} : UnderB n (.cells ((l.map Stp.c).flatten ++ List.replicate m A.un)) := .cells _ fun x hx => by
  rcases List.mem_append.1 hx with h | h
  · obtain ⟨z, hz, hx⟩ := List.mem_flatten.1 h
    obtain ⟨s, _, rfl⟩ := List.mem_map.1 hz
    exact (s.free x hx).under
  · rw [List.mem_replicate] at h; rw [h.2]; exact .un
def StW (l : List Stp) (v : A) (H' : Hp) : Prop := match l with
  | [] => v = .tup [.sl true .exact [], .mp 1]
  | s :: l => ∃ id cap, id = sid (s :: l) ∧ v = .tup [.gs id (s :: l).length cap, .mp 1] ∧ ∃ m, H' id = some (.cells (((s :: l).map Stp.c).flatten ++ List.replicate m A.un)) ∧ (((s :: l).map Stp.c).flatten ++ List.replicate m A.un).length = cap * 2
def WyQ (cs : List Int) (r : Wy) (v : A) (H' : Hp) : Prop := HasH H' [(0, iB cs), (1, .map (setI r.2))] ∧ StW (r.1.getD []) v H'
set_option maxRecDepth 100000 in
set_option maxHeartbeats 2000000 in
theorem way_w (b : Book) (hb : b.Ok) (cs : List Int) (hc : CsOk b.ms cs) (fr to wo : Int) (hf : 0 ≤ fr ∧ fr < b.n) :
    SCall Try.prog 97 [.agg b.c, .ms 0 0 cs.length, .int fr, .int to, .int wo] (ofH [(0, iB cs)]) 1 (fun v H' c' => 6 ≤ c' ∧ WyQ cs (wayW b.ms cs fr to wo) v H') := by
  have hn := hb.n
  refine SCall.of_bodyN tab_ok Try.func97 rfl Try.ntmps97 (Nat.le_of_ble_eq_true rfl) (allC (fun _ => rfl) (allC (fun _ => rfl) (allC (fun _ => rfl) (allC (fun _ => rfl) (all1 fun _ => rfl))))) fun E hE => ?_
  have h4e : ∀ id, 4 ≤ id → E.φ0 id = none := fun id _ => hE id (by omega)
  have hhas := setI_has und3 [] fr
  have hup := setI_up und3 (l := []) (a := fr) rfl
  refine Aw.sm tab_ok mb0 [] rfl rfl ?zo ?zk
  case zo =>
    repeat' apply AllP.cons
    all_goals first | exact trivial
  case zk =>
  refine Aw.ss rfl ?_
  refine RegL.partE tab_ok mb0 false 2 0 [] ?_
  conv => arg 5; whnf
  refine PartK.mk ?zo ?zk
  case zo =>
    repeat' apply AllP.cons
    all_goals first | exact trivial
  case zk =>
  refine Does.raw rfl (DoesP.mapInsert tab_ok (t := 146) (x := .tmp 16) (k := .tmp 17) (v := .const (.bool true)) (id := 1) (kt := 3) (et := 4) (kvs := []) (ks := []) (kv := .int .i64 fr) (j := none) rfl rfl rfl rfl rfl rfl rfl (ck_int und3 false fr) (findIx_ints und3 fr []) (fun i h => by cases h) ?_).toR
  refine RegL.partE tab_ok mb0 false 3 3 [] ?_
  conv => arg 5; whnf
  refine PartK.mk ?zo ?zk
  case zo =>
    repeat' apply AllP.cons
    all_goals first | exact trivial | exact rfl | exact Nat.le_of_ble_eq_true rfl
  case zk =>
  refine Aw.sm tab_ok mb0 [] rfl rfl ?zo ?zk
  case zo =>
    repeat' apply AllP.cons
    all_goals first | exact trivial
  case zk =>
  refine Aw.sm tab_ok mb0 [] rfl rfl ?zo ?zk
  case zo =>
    repeat' apply AllP.cons
    all_goals first | exact trivial | exact rfl | exact Nat.le_of_ble_eq_true rfl
  case zk =>
  have uH : UnderH 4 (wyH b cs to wo [fr]) := wyH_under b cs to wo [fr] (Nat.le_refl _)
  refine Aw.keep (n := 4) (cst := [(2, .int fr), (12, .ref 2 0), (13, .ref 3 0)]) (v := []) (Hl := wyH b cs to wo [fr]) h4e ?zu ?zw ?zx ⟨?zc, ?zv, ?zh, Nat.le_of_ble_eq_true rfl⟩ ?zr
  case zu =>
    (repeat' (first | exact trivial | exact Under.s _ | exact Under.ref _ _ (by decide) | (refine And.intro ?_ ?_)))
  case zw =>
    (repeat' (first | exact trivial))
  case zx =>
    (repeat' (first | assumption))
  case zc =>
    (repeat' (first | (refine And.intro ?_ ?_) | exact trivial | exact A.Le.refl _))
  case zv =>
    (repeat' (first | exact trivial))
  case zh =>
    (repeat' (first | (refine And.intro ?_ ?_) | exact trivial | exact rfl))
  case zr =>
  have hcall := on_w b hb cs hc to wo 7 fr [fr] ⟨by simp, fun s hs => by simp at hs; subst hs; exact hf⟩ (by simp; omega) (Nat.le_refl _)
  have hw : wayW b.ms cs fr to wo = onW b.ms cs to wo 7 fr [fr] := rfl
  rw [hw]
  generalize onW b.ms cs to wo 7 fr [fr] = r at *
  obtain ⟨r1, r2⟩ := r
  refine Aw.ss rfl ?_
  refine RegL.partE tab_ok mb0 false 2 0 [(0, [onFn2 b cs.length to wo])] ?_
  conv => arg 5; whnf
  refine PartK.mk ?zo ?zk
  case zo =>
    repeat' apply AllP.cons
    all_goals first | exact trivial | exact rfl | exact Nat.le_of_ble_eq_true rfl
  case zk =>
  refine Does.raw rfl (DoesR.call (fst := []) (cap := [.pt [.int to], .pt b.c, .pt [.int wo], .ref 2 0, .pt [.ms 0 0 cs.length], .ref 3 0]) rfl rfl (enters_of Try.func99 rfl rfl) hcall ?_)
  rintro v H' c' ⟨hc6, ⟨hh0, hh1, hh2, hh3, _⟩, hq⟩
  have hc4 : 4 ≤ c' := Nat.le_trans (by decide) hc6
  have hc5 : 5 ≤ c' := Nat.le_trans (by decide) hc6
  have hh1 : H' 1 = some (.map (setI r2)) := hh1
  cases r1 with
  | none =>
    have hq : v = .tup [.sl true .exact [], .bool false] := hq
    subst hq
    refine RegL.partE tab_ok mb0 false 5 3 [] ?_
    conv => arg 5; whnf
    refine PartK.mk ?zo ?zk
    case zo =>
      repeat' apply AllP.cons
      all_goals first | exact trivial
    case zk =>
    refine Aw.keep (n := 4) (cst := [(12, .ref 2 0), (14, .sl true .exact []), (15, .bool false)]) (v := []) (Hl := wyH b cs to wo r2) h4e ?zu ?zw ?zx ⟨?zc, ?zv, ?zh, hc4⟩ ?zr
    case zu =>
      (repeat' (first | exact trivial | exact Under.s _ | exact Under.ref _ _ (by decide) | exact (Free.sl _ _ _ (fun _ h => by cases h)).under | (refine And.intro ?_ ?_)))
    case zw =>
      (repeat' (first | exact trivial))
    case zx =>
      (repeat' (first | exact trivial | exact Nat.le_of_ble_eq_true rfl | exact iB_under _ | exact setI_under _ | exact .cells _ (all1 (.mp _ (by decide))) | exact .cells _ (all1 (onFn2_under b _ to wo (Nat.le_refl _))) | (refine And.intro ?_ ?_)))
    case zc =>
      (repeat' (first | (refine And.intro ?_ ?_) | exact trivial | exact A.Le.refl _))
    case zv =>
      (repeat' (first | exact trivial))
    case zh =>
      (repeat' (first | (refine And.intro ?_ ?_) | exact trivial | exact hh0 | exact hh1 | exact hh2 | exact hh3))
    case zr =>
    refine Aw.seq ?_
    refine Aw.sm tab_ok mb0 [] rfl rfl ?zo ?zk
    case zo =>
      repeat' apply AllP.cons
      all_goals first | exact trivial
    case zk =>
    refine Aw.cond rfl (fun h => ?_) (fun h => by cases h)
    refine Aw.sd tab_ok mixed mb0 [] rfl (by kernel_rfl) rfl rfl ?zo ?zk
    case zo =>
      repeat' apply AllP.cons
      all_goals first | exact trivial | exact Nat.le_of_ble_eq_true rfl
    case zk =>
    exact Aw.ret ⟨_, .cons (.tmp _) (.cons (.tmp _) .nil), Nat.le_of_ble_eq_true rfl, ⟨rfl, rfl, trivial⟩, rfl⟩
  | some l =>
    have hq : StV l v true H' := hq
    cases l with
    | nil =>
      have hq : v = .tup [.sl true .exact [], .bool true] := hq
      subst hq
      refine RegL.partE tab_ok mb0 false 5 3 [] ?_
      conv => arg 5; whnf
      refine PartK.mk ?zo ?zk
      case zo =>
        repeat' apply AllP.cons
        all_goals first | exact trivial
      case zk =>
      refine Aw.keep (n := 4) (cst := [(12, .ref 2 0), (14, .sl true .exact []), (15, .bool true)]) (v := []) (Hl := wyH b cs to wo r2) h4e ?zu ?zw ?zx ⟨?zc, ?zv, ?zh, hc4⟩ ?zr
      case zu =>
        (repeat' (first | exact trivial | exact Under.s _ | exact Under.ref _ _ (by decide) | exact (Free.sl _ _ _ (fun _ h => by cases h)).under | (refine And.intro ?_ ?_)))
      case zw =>
        (repeat' (first | exact trivial))
      case zx =>
        (repeat' (first | exact trivial | exact Nat.le_of_ble_eq_true rfl | exact iB_under _ | exact setI_under _ | exact .cells _ (all1 (.mp _ (by decide))) | exact .cells _ (all1 (onFn2_under b _ to wo (Nat.le_refl _))) | (refine And.intro ?_ ?_)))
      case zc =>
        (repeat' (first | (refine And.intro ?_ ?_) | exact trivial | exact A.Le.refl _))
      case zv =>
        (repeat' (first | exact trivial))
      case zh =>
        (repeat' (first | (refine And.intro ?_ ?_) | exact trivial | exact hh0 | exact hh1 | exact hh2 | exact hh3))
      case zr =>
      refine Aw.seq ?_
      refine Aw.sm tab_ok mb0 [] rfl rfl ?zo ?zk
      case zo =>
        repeat' apply AllP.cons
        all_goals first | exact trivial
      case zk =>
      refine Aw.cond rfl (fun h => by cases h) (fun _ => Aw.skip ?_)
      refine Aw.sd tab_ok mixed mb0 [] rfl (by kernel_rfl) rfl rfl ?zo ?zk
      case zo =>
        repeat' apply AllP.cons
        all_goals first | exact trivial | exact Nat.le_of_ble_eq_true rfl
      case zk =>
      exact Aw.ret ⟨_, .cons (.tmp _) (.cons (.tmp _) .nil), Nat.le_of_ble_eq_true rfl, ⟨rfl, rfl, trivial⟩, rfl⟩
    | cons s l =>
      obtain ⟨id, cap, hid, hv, mj, hj, hjl⟩ := hq
      subst hv
      refine RegL.partE tab_ok mb0 false 5 3 [] ?_
      conv => arg 5; whnf
      refine PartK.mk ?zo ?zk
      case zo =>
        repeat' apply AllP.cons
        all_goals first | exact trivial
      case zk =>
      cases l with
      | nil =>
        have hid : id = 4 := hid
        subst hid
        have hne : ∀ id, 5 ≤ id → E.φ0 id = none := fun id _ => hE id (by omega)
        refine Aw.keep (n := 5) (cst := [(12, .ref 2 0), (14, .gs 4 [s].length cap), (15, .bool true)]) (v := []) (Hl := wyH b cs to wo r2 ++ [(4, .cells (([s].map Stp.c).flatten ++ List.replicate mj A.un))]) hne ?zu ?zw ?zx ⟨?zc, ?zv, ?zh, hc5⟩ ?zr
        case zu =>
          (repeat' (first | exact trivial | exact Under.s _ | exact Under.ref _ _ (by decide) | exact .gs _ _ _ (by decide) | (refine And.intro ?_ ?_)))
        case zw =>
          (repeat' (first | exact trivial))
        case zx =>
          (repeat' (first | exact trivial | exact Nat.le_of_ble_eq_true rfl | exact iB_under _ | exact setI_under _ | exact .cells _ (all1 (.mp _ (by decide))) | exact .cells _ (all1 (onFn2_under b _ to wo (by decide))) | exact stpB_under _ _ | (refine And.intro ?_ ?_)))
        case zc =>
          (repeat' (first | (refine And.intro ?_ ?_) | exact trivial | exact A.Le.refl _))
        case zv =>
          (repeat' (first | exact trivial))
        case zh =>
          (repeat' (first | (refine And.intro ?_ ?_) | exact trivial | exact hh0 | exact hh1 | exact hh2 | exact hh3 | exact hj))
        case zr =>
        refine Aw.seq ?_
        refine Aw.sm tab_ok mb0 [] rfl rfl ?zo ?zk
        case zo =>
          repeat' apply AllP.cons
          all_goals first | exact trivial
        case zk =>
        refine Aw.cond rfl (fun h => by cases h) (fun _ => Aw.skip ?_)
        refine Aw.sd tab_ok mixed mb0 [] rfl (by kernel_rfl) rfl rfl ?zo ?zk
        case zo =>
          repeat' apply AllP.cons
          all_goals first | exact trivial | exact Nat.le_of_ble_eq_true rfl
        case zk =>
        exact Aw.ret ⟨_, .cons (.tmp _) (.cons (.tmp _) .nil), Nat.le_of_ble_eq_true rfl, ⟨rfl, rfl, trivial⟩, 4, cap, rfl, rfl, mj, rfl, hjl⟩
      | cons s2 l =>
        have hid : id = 5 := hid
        subst hid
        have hne : ∀ id, 6 ≤ id → E.φ0 id = none := fun id _ => hE id (by omega)
        refine Aw.keep (n := 6) (cst := [(12, .ref 2 0), (14, .gs 5 (s :: s2 :: l).length cap), (15, .bool true)]) (v := []) (Hl := wyH b cs to wo r2 ++ [(5, .cells (((s :: s2 :: l).map Stp.c).flatten ++ List.replicate mj A.un))]) hne ?zu ?zw ?zx ⟨?zc, ?zv, ?zh, hc6⟩ ?zr
        case zu =>
          (repeat' (first | exact trivial | exact Under.s _ | exact Under.ref _ _ (by decide) | exact .gs _ _ _ (by decide) | (refine And.intro ?_ ?_)))
        case zw =>
          (repeat' (first | exact trivial))
        case zx =>
          (repeat' (first | exact trivial | exact Nat.le_of_ble_eq_true rfl | exact iB_under _ | exact setI_under _ | exact .cells _ (all1 (.mp _ (by decide))) | exact .cells _ (all1 (onFn2_under b _ to wo (by decide))) | exact stpB_under _ _ | (refine And.intro ?_ ?_)))
        case zc =>
          (repeat' (first | (refine And.intro ?_ ?_) | exact trivial | exact A.Le.refl _))
        case zv =>
          (repeat' (first | exact trivial))
        case zh =>
          (repeat' (first | (refine And.intro ?_ ?_) | exact trivial | exact hh0 | exact hh1 | exact hh2 | exact hh3 | exact hj))
        case zr =>
        refine Aw.seq ?_
        refine Aw.sm tab_ok mb0 [] rfl rfl ?zo ?zk
        case zo =>
          repeat' apply AllP.cons
          all_goals first | exact trivial
        case zk =>
        refine Aw.cond rfl (fun h => by cases h) (fun _ => Aw.skip ?_)
        refine Aw.sd tab_ok mixed mb0 [] rfl (by kernel_rfl) rfl rfl ?zo ?zk
        case zo =>
          repeat' apply AllP.cons
          all_goals first | exact trivial | exact Nat.le_of_ble_eq_true rfl
        case zk =>
        exact Aw.ret ⟨_, .cons (.tmp _) (.cons (.tmp _) .nil), Nat.le_of_ble_eq_true rfl, ⟨rfl, rfl, trivial⟩, 5, cap, rfl, rfl, mj, rfl, hjl⟩
end Go.Proofs.Ytampldajinhenaa

namespace Go.Proofs.Ytampldajinhenaa
open Go Go.AL Go.AL.Q Go.AL.Br
theorem iB_nms (cs : List Int) {D : Nat → Prop} : NmsB D (iB cs) := .cells _ fun x hx => by obtain ⟨v, _, rfl⟩ := List.mem_map.1 hx; exact .s _
theorem walk_f {cs : List Int} (hcs : ∀ c ∈ cs, -100000 ≤ c ∧ c ≤ 100000) (sb : Bool) {l : List Stp} (hl : l.length ≤ 1000) (hk : ∀ s ∈ l, s.k < cs.length) {H : Hp} {c : Nat} (hH : H 0 = some (iB cs)) :
    SCall Try.prog 98 [.ms 0 0 cs.length, .sl sb .any (l.map Stp.c)] H c (fun v H1 c1 => v = .tup [] ∧ c1 = c ∧ H1 = overH H (ofH [(0, iB cs)]) (ofH [(0, iB (walkF cs l))])) := by
  have dom : ∀ (q : List Int) id bx, ofH [(0, iB q)] id = some bx → id = 0 ∧ bx = iB q := fun q id bx h => by
    simp only [ofH, updH_apply] at h
    split at h
    · rename_i e; cases h; exact ⟨e, rfl⟩
    · cases h
  refine ((walk_s cs hcs sb l hl hk).frame (H := H) (c := c) (fun id bx hb => by rw [(dom cs id bx hb).1]; decide) (fun id bx hb => ?_) ?_ ?_).mono ?_
  · obtain ⟨rfl, rfl⟩ := dom cs id bx hb
    exact ⟨iB_nms cs, hH⟩
  · exact allC (.ms _ _ _ rfl) (all1 (free_map Stp.free _ _ _).nms)
  · rintro v H' c' ⟨rfl, rfl⟩
    refine ⟨.tup _ allN, fun id bx hb => ?_⟩
    obtain ⟨rfl, rfl⟩ := dom _ id bx hb
    exact ⟨rfl, iB_nms _⟩
  · rintro v H1 c1 ⟨H', c', ⟨rfl, rfl⟩, h2, h3⟩
    exact ⟨rfl, h3, h2⟩
theorem stp_app (st : List Stp) (x : Stp) : ((st ++ [x]).map Stp.c).flatten = (st.map Stp.c).flatten ++ x.c := by rw [List.map_append, List.flatten_append]; simp
theorem lim_eq (m : Mv) (fw : Bool) (v : Int) : cond (cond (!fw) (v == m.hi) false) true (cond fw (v == m.lo) false) = (v == limV m fw) := by
  cases fw
  · show cond (v == m.hi) true false = (v == m.hi); cases (v == m.hi) <;> rfl
  · show (v == m.lo) = (v == m.lo); rfl
set_option maxHeartbeats 4000000 in
theorem pushed_t (b : Book) (hb : b.Ok) (cb : Bool) (cs : List Int) (hf : Feas b.ms cs) (k : Nat) (hk : k < b.ms.length) (fw : Bool) : Ans Try.prog 84 [.agg b.c, .sl cb .any (ints cs), .int k, .bool fw] (.int (pushF b.ms k fw cs)) := by
  have hn := hb.n
  have hbl := hb.l
  have fc : Free (.sl cb .any (ints cs)) := free_ints _ _ _
  have hgm := mv_at hk
  have hmk := mvk_get hk
  have hmo := hb.m _ (mvk_mem hk)
  have hcl := hf.l
  have hil := ints_len cs
  have h1z := ints_one cs
  rw [← hmk] at hgm
  unfold pushF
  generalize hR : pushW b.ms k fw (dist b.ms k fw cs + 1) cs = R
  generalize hm : mvk b.ms k = m at *
  have hlo := least_t m
  have hhi := greatest_t m
  have ump : ∀ {n : Nat}, Under n (A.pt m.c) := (Free.pt _ m.free).under
  have ub : ∀ {n : Nat}, Under n (A.pt b.c) := (Free.pt _ b.free).under
  refine told Try.func84 rfl rfl (Pure.of tab_ok Try.func84 rfl Try.ntmps84 rfl (allC (.agg _ b.free) (allC (fc) (allC (.s _) (all1 (.s _))))) (allC (fun _ => rfl) (allC (fun _ => rfl) (allC (fun _ => rfl) (all1 (fun _ => rfl))))) (by first | exact .s _ | assumption | exact .tup _ (by intro x hx; simp only [List.mem_cons, List.not_mem_nil, or_false] at hx; rcases hx with rfl | rfl | rfl | rfl <;> first | exact .s _ | (simp_all; done))) fun E hE => ?_)
  refine Aw.sm tab_ok mb0 [] rfl rfl ?zo ?zk
  case zo =>
    repeat' apply AllP.cons
    all_goals first | exact trivial
  case zk =>
  have hne : ints cs ≠ [] := fun h => by have := congrArg List.length h; rw [hil] at this; have : cs.length = 0 := this; omega
  refine Aw.sm tab_ok mb0 [(2, [.ms 0 0 0])] rfl rfl ?zo ?zk
  case zo =>
    repeat' apply AllP.cons
    all_goals first | exact trivial | exact rfl | exact Nat.le_of_ble_eq_true rfl | exact h1z | exact hne | exact (show (ints cs).length * 8 ≤ 140737488355328 by omega) | exact (show (ints cs).length ≤ maxLen by unfold maxLen; omega)
  case zk =>
  have h1e : ∀ id, 1 ≤ id → E.φ0 id = none := fun id _ => hE id (by omega)
  have hfl : B.cells ((ints cs).flatten.map A.down) = iB cs := by rw [ints_flatten]; rfl
  refine Aw.keep (n := 1) (cst := [(2, .int k), (3, .bool fw), (4, .pt b.c), (9, .ms 0 0 cs.length)]) (v := []) (Hl := [(0, iB cs)]) h1e ?zu ?zw ?zx ⟨?zc, ?zv, ?zh, Nat.le_of_ble_eq_true rfl⟩ ?zr
  case zu =>
    (repeat' (first | exact trivial | exact Under.s _ | exact Under.ms _ _ _ (by decide) | exact ub | (refine And.intro ?_ ?_)))
  case zw =>
    (repeat' (first | exact trivial))
  case zx =>
    (repeat' (first | exact trivial | exact Nat.le_of_ble_eq_true rfl | exact iB_under _ | (refine And.intro ?_ ?_)))
  case zc =>
    (repeat' (first | (refine And.intro ?_ ?_) | exact trivial | exact A.Le.refl _ | exact .of_eq (by rw [← hil]; rfl)))
  case zv =>
    (repeat' (first | exact trivial))
  case zh =>
    (repeat' (first | (refine And.intro ?_ ?_) | exact trivial | exact congrArg some hfl))
  case zr =>
  refine Aw.sm tab_ok mb0 [(4, m.c)] rfl rfl ?zo ?zk
  case zo =>
    repeat' apply AllP.cons
    all_goals first | exact trivial | exact rfl | exact Nat.le_of_ble_eq_true rfl | exact Int.natCast_nonneg _ | exact hgm
  case zk =>
  refine Aw.freeze (id := 1) (t := 10) (cs := m.c) rfl rfl ?_
  have ums : Under 1 (A.ms 0 0 cs.length) := .ms _ _ _ (by decide)
  refine Aw.keep (n := 1) (cst := [(2, .int k), (3, .bool fw), (4, .pt b.c), (9, .ms 0 0 cs.length), (10, .pt m.c)]) (v := []) (Hl := [(0, iB cs)]) h1e ?zu ?zw ?zx ⟨?zc, ?zv, ?zh, Nat.le_of_ble_eq_true rfl⟩ ?zr
  case zu =>
    (repeat' (first | exact trivial | exact Under.s _ | assumption | exact ub | exact ump | (refine And.intro ?_ ?_)))
  case zw =>
    (repeat' (first | exact trivial))
  case zx =>
    (repeat' (first | exact trivial | exact Nat.le_of_ble_eq_true rfl | exact iB_under _ | (refine And.intro ?_ ?_)))
  case zc =>
    (repeat' (first | (refine And.intro ?_ ?_) | exact trivial | exact A.Le.refl _))
  case zv =>
    (repeat' (first | exact trivial))
  case zh =>
    (repeat' (first | (refine And.intro ?_ ?_) | exact trivial | exact rfl))
  case zr =>
  refine Aw.sd tab_ok mixed mb0 [] rfl (by kernel_rfl) rfl rfl ?zo ?zk
  case zo =>
    repeat' apply AllP.cons
    all_goals first | exact trivial | exact Nat.le_of_ble_eq_true rfl
  case zk =>
  refine Aw.join1 1 h1e [(2, .int k), (3, .bool fw), (4, .pt b.c), (9, .ms 0 0 cs.length), (10, .pt m.c)] [(11, .int (pFr m fw)), (12, .int (pTo m fw))] [(0, iB cs)] ⟨.s _, .s _, ub, ums, ump, trivial⟩ ⟨.s _, .s _, trivial⟩ ⟨⟨by decide, iB_under _⟩, trivial⟩ ?_ ?_
  · refine Aw.sm tab_ok mb0 [] rfl rfl ?zo ?zk
    case zo =>
      repeat' apply AllP.cons
      all_goals first | exact trivial
    case zk =>
    cases fw with
    | true =>
      refine Aw.cond rfl (fun _ => ?_) (fun h => Bool.noConfusion (show true = false from h))
      refine Aw.ed tab_ok mixed mb0 [] rfl (by kernel_rfl) rfl rfl ?zo ?zk
      case zo =>
        repeat' apply AllP.cons
        all_goals first | exact trivial | exact Nat.le_of_ble_eq_true rfl
      case zk =>
      exact ⟨⟨.refl _, .refl _, .refl _, .refl _, .refl _, trivial⟩, ⟨.refl _, .refl _, trivial⟩, ⟨rfl, trivial⟩, Nat.le_of_ble_eq_true rfl⟩
    | false =>
      refine Aw.cond rfl (fun h => Bool.noConfusion (show false = true from h)) (fun _ => Aw.skip ?_)
      exact ⟨⟨.refl _, .refl _, .refl _, .refl _, .refl _, trivial⟩, ⟨.refl _, .refl _, trivial⟩, ⟨rfl, trivial⟩, Nat.le_of_ble_eq_true rfl⟩
  have hpf := pFr_in hmo fw
  have hpn := pFr_ne hmo fw
  refine Aw.block (Aw.rounds 1 h1e [(2, .int k), (3, .bool fw), (4, .pt b.c), (9, .ms 0 0 cs.length), (10, .pt m.c), (11, .int (pFr m fw)), (12, .int (pTo m fw))] (fun i : (Nat×List Int) => []) (fun i => [(0, iB i.2)]) (fun i => Feas b.ms i.2 ∧ dist b.ms k fw i.2 < i.1 ∧ pushW b.ms k fw i.1 i.2 = R) (fun i => i.1) (dist b.ms k fw cs + 1, cs) ?zg ⟨?zc, ?zv, ?zh, Nat.le_of_ble_eq_true rfl⟩ ?zu (fun i zhk => ?zw) (fun i zhk => ?zx) fun i hk => ?zr)
  case zg =>
    (repeat' (first | exact ⟨hf, Nat.lt_succ_self _, hR⟩))
  case zc =>
    (repeat' (first | (refine And.intro ?_ ?_) | exact trivial | exact A.Le.refl _))
  case zv =>
    (repeat' (first | exact trivial))
  case zh =>
    (repeat' (first | (refine And.intro ?_ ?_) | exact trivial | exact rfl))
  case zu =>
    (repeat' (first | exact trivial | exact Under.s _ | assumption | exact ub | exact ump | (refine And.intro ?_ ?_)))
  case zw =>
    (repeat' (first | exact trivial))
  case zx =>
    (repeat' (first | exact trivial | exact Nat.le_of_ble_eq_true rfl | exact iB_under _ | (refine And.intro ?_ ?_)))
  case zr =>
  obtain ⟨f, l⟩ := i
  obtain ⟨hfl, hdl, hrun⟩ := hk
  simp only at hfl hdl hrun
  cases f with
  | zero => omega
  | succ f =>
  have hll : l.length = cs.length := by have := hfl.l; omega
  rw [pushW, hm] at hrun
  have hgk := getI (g := l) (k := k) (by omega)
  have q2 : 0 + Int.toNat (k : Int) * 1 < (l.map A.int).length := by rw [List.length_map, Int.toNat_natCast]; omega
  have q4 : (k : Int) < (cs.length : Int) := by omega
  have q5 : 0 ≤ (k : Int) := Int.natCast_nonneg _
  have hps := fun h st hs => push_step hn hb.m (by omega) hfl (fw := fw) (k := k) h (st := st) hs
  rw [hm] at hps
  generalize hv : l.getD k 0 = v at *
  refine Aw.block ?_
  refine Aw.seq ?_
  refine Aw.sd tab_ok mixed mb0 [(6, [.int v]), (8, [.int m.hi]), (17, [.int v]), (19, [.int m.lo])] rfl (by kernel_rfl) rfl rfl ?zo ?zk
  case zo =>
    repeat' apply AllP.cons
    all_goals first | exact trivial | exact id | exact fun _ => rfl | exact fun _ => Nat.le_of_ble_eq_true rfl | exact fun _ => Int.natCast_nonneg _ | exact gq_f | exact gq_c | exact fun _ => hgk | exact fun _ => q2 | exact fun _ => q4 | exact fun _ => hhi | exact fun _ => hlo | exact fun _ _ => rfl
  case zk =>
  have hle := lim_eq m fw v
  refine Aw.cond rfl (fun h1 => ?_) (fun h1 => Aw.skip ?_)
  · have h1 : cond (cond (!fw) (v == m.hi) false) true (cond fw (v == m.lo) false) = true := h1
    rw [hle] at h1
    rw [if_pos h1] at hrun
    subst hrun
    refine Aw.sm tab_ok mb0 [(3, [.int v])] rfl rfl ?zo ?zk
    case zo =>
      repeat' apply AllP.cons
      all_goals first | exact trivial | exact Int.natCast_nonneg _ | exact hgk | exact q2 | exact q4
    case zk =>
    exact Aw.ret ⟨_, .cons (.tmp _) .nil, rfl⟩
  have h1 : cond (cond (!fw) (v == m.hi) false) true (cond fw (v == m.lo) false) = false := h1
  rw [hle] at h1
  rw [if_neg (by rw [h1]; decide)] at hrun
  have hvl : v ≠ limV m fw := by simpa using h1
  have hps := hps hvl
  have hcall := way_w b hb l (hfl.cs hb.m) (pFr m fw) (pTo m fw) k hpf
  rw [hll] at hcall
  have hwi := way_is hn hb.m hfl (wo := k) hpf hpn
  have hnot := hwi.not
  have hfound := hwi.found
  generalize wayW b.ms l (pFr m fw) (pTo m fw) k = r at *
  obtain ⟨r1, r2⟩ := r
  simp only at hrun hnot hfound hps
  refine Aw.keep (n := 1) (cst := [(2, .int k), (3, .bool fw), (4, .pt b.c), (9, .ms 0 0 cs.length), (10, .pt m.c), (11, .int (pFr m fw)), (12, .int (pTo m fw))]) (v := []) (Hl := [(0, iB l)]) h1e ?zu ?zw ?zx ⟨?zc, ?zv, ?zh, Nat.le_of_ble_eq_true rfl⟩ ?zr
  case zu =>
    (repeat' (first | exact trivial | exact Under.s _ | assumption | exact ub | exact ump | (refine And.intro ?_ ?_)))
  case zw =>
    (repeat' (first | exact trivial))
  case zx =>
    (repeat' (first | exact trivial | exact Nat.le_of_ble_eq_true rfl | exact iB_under _ | (refine And.intro ?_ ?_)))
  case zc =>
    (repeat' (first | (refine And.intro ?_ ?_) | exact trivial | exact A.Le.refl _))
  case zv =>
    (repeat' (first | exact trivial))
  case zh =>
    (repeat' (first | (refine And.intro ?_ ?_) | exact trivial | exact rfl))
  case zr =>
  refine Aw.ss rfl ?_
  refine RegL.partE tab_ok mb0 false 5 0 [] ?_
  conv => arg 5; whnf
  refine PartK.mk ?zo ?zk
  case zo =>
    repeat' apply AllP.cons
    all_goals first | exact trivial | exact Nat.le_of_ble_eq_true rfl
  case zk =>
  refine Does.raw rfl (DoesR.call (fst := []) (cap := []) rfl rfl (enters_of Try.func97 rfl rfl) hcall ?_)
  rintro v' H' c' ⟨hc6, ⟨hh0, hh1, _⟩, hq⟩
  have hc4 : 4 ≤ c' := Nat.le_trans (by decide) hc6
  have hc5 : 5 ≤ c' := Nat.le_trans (by decide) hc6
  have hh1 : H' 1 = some (.map (setI r2)) := hh1
  have hlk := setI_lk (T := tab) (et := 4) und3 rfl r2 (pTo m fw)
  have h4e : ∀ id, 4 ≤ id → E.φ0 id = none := fun id _ => hE id (by omega)
  cases r1 with
  | none =>
    have hq : v' = .tup [.sl true .exact [], .mp 1] := hq
    subst hq
    have hno := (hnot rfl).1
    have hno : r2.contains (pTo m fw) = false := by rw [← Bool.not_eq_true, List.contains_iff_mem]; exact hno
    have hrun : v = R := hrun
    subst hrun
    refine RegL.partE tab_ok mb0 false 5 6 [] ?_
    conv => arg 5; whnf
    refine PartK.mk ?zo ?zk
    case zo =>
      repeat' apply AllP.cons
      all_goals first | exact trivial
    case zk =>
    refine Aw.keep (n := 4) (cst := [(2, .int k), (9, .ms 0 0 cs.length), (12, .int (pTo m fw)), (14, .mp 1)]) (v := []) (Hl := [(0, iB l), (1, .map (setI r2))]) h4e ?zu ?zw ?zx ⟨?zc, ?zv, ?zh, hc4⟩ ?zr
    case zu =>
      (repeat' (first | exact trivial | exact Under.s _ | exact Under.ms _ _ _ (by decide) | exact Under.mp _ (by decide) | (refine And.intro ?_ ?_)))
    case zw =>
      (repeat' (first | exact trivial))
    case zx =>
      (repeat' (first | exact trivial | exact Nat.le_of_ble_eq_true rfl | exact iB_under _ | exact setI_under _ | (refine And.intro ?_ ?_)))
    case zc =>
      (repeat' (first | (refine And.intro ?_ ?_) | exact trivial | exact A.Le.refl _))
    case zv =>
      (repeat' (first | exact trivial))
    case zh =>
      (repeat' (first | (refine And.intro ?_ ?_) | exact trivial | exact hh0 | exact hh1))
    case zr =>
    refine Aw.seq ?_
    refine Aw.sm tab_ok mb0 [(2, [.bool (r2.contains (pTo m fw)), .bool (r2.contains (pTo m fw))])] rfl rfl ?zo ?zk
    case zo =>
      repeat' apply AllP.cons
      all_goals first | exact trivial | exact hlk
    case zk =>
    refine Aw.cond rfl (fun _ => ?_) (fun h2 => absurd (show (!r2.contains (pTo m fw)) = false from h2) (by rw [hno]; decide))
    refine Aw.sm tab_ok mb0 [(3, [.int v])] rfl rfl ?zo ?zk
    case zo =>
      repeat' apply AllP.cons
      all_goals first | exact trivial | exact Int.natCast_nonneg _ | exact hgk | exact q2 | exact q4
    case zk =>
    exact Aw.ret ⟨_, .cons (.tmp _) .nil, rfl⟩
  | some st =>
    have hq : StW st v' H' := hq
    have hrun : pushW b.ms k fw f (walkF l (st ++ [⟨k, fw⟩])) = R := hrun
    have hin := (hfound st rfl).1
    have hin : r2.contains (pTo m fw) = true := by rw [List.contains_iff_mem]; exact hin
    obtain ⟨hp1, hp2, hp3, hp4, hp5, hp6, hp7⟩ := hps st rfl
    cases st with
    | nil => exact absurd rfl hp7
    | cons s st =>
    obtain ⟨id, cap, hid, hv', mj, hj, hjl⟩ := hq
    subst hv'
    cases st with
    | nil =>
      have hid : id = 4 := hid
      subst hid
      have hne' : ∀ id, 5 ≤ id → E.φ0 id = none := fun id _ => hE id (by omega)
      refine RegL.partE tab_ok mb0 false 5 6 [] ?_
      conv => arg 5; whnf
      refine PartK.mk ?zo ?zk
      case zo =>
        repeat' apply AllP.cons
        all_goals first | exact trivial
      case zk =>
      refine Aw.keep (n := 5) (cst := [(2, .int k), (3, .bool fw), (4, .pt b.c), (9, .ms 0 0 cs.length), (10, .pt m.c), (11, .int (pFr m fw)), (12, .int (pTo m fw)), (13, .gs 4 [s].length cap), (14, .mp 1)]) (v := []) (Hl := [(0, iB l), (1, .map (setI r2)), (4, .cells (([s].map Stp.c).flatten ++ List.replicate mj A.un))]) hne' ?zu ?zw ?zx ⟨?zc, ?zv, ?zh, hc5⟩ ?zr
      case zu =>
        (repeat' (first | exact trivial | exact Under.s _ | exact Under.ms _ _ _ (by decide) | exact Under.mp _ (by decide) | exact ub | exact ump | exact .gs _ _ _ (by decide) | (refine And.intro ?_ ?_)))
      case zw =>
        (repeat' (first | exact trivial))
      case zx =>
        (repeat' (first | exact trivial | exact Nat.le_of_ble_eq_true rfl | exact iB_under _ | exact setI_under _ | exact stpB_under _ _ | (refine And.intro ?_ ?_)))
      case zc =>
        (repeat' (first | (refine And.intro ?_ ?_) | exact trivial | exact A.Le.refl _))
      case zv =>
        (repeat' (first | exact trivial))
      case zh =>
        (repeat' (first | (refine And.intro ?_ ?_) | exact trivial | exact hh0 | exact hh1 | exact hj))
      case zr =>
      refine Aw.seq ?_
      refine Aw.sm tab_ok mb0 [(2, [.bool (r2.contains (pTo m fw)), .bool (r2.contains (pTo m fw))])] rfl rfl ?zo ?zk
      case zo =>
        repeat' apply AllP.cons
        all_goals first | exact trivial | exact hlk
      case zk =>
      refine Aw.cond rfl (fun h2 => absurd (show (!r2.contains (pTo m fw)) = true from h2) (by rw [hin]; decide)) (fun _ => Aw.skip ?_)
      generalize hst : [s] = st at *
      have hstl := hp6
      rw [List.length_append] at hstl
      have hstl : st.length + 1 ≤ 8 := hstl
      have hfl2 := stp_len st
      have hap := stp_app st ⟨k, fw⟩
      refine Aw.es rfl ?_
      refine RegL.partE tab_ok mb0 false 6 0 [] ?_
      conv => arg 5; whnf
      refine PartK.mk ?zo ?zk
      case zo =>
        repeat' apply AllP.cons
        all_goals first | exact trivial | exact Nat.le_of_ble_eq_true rfl
      case zk =>
      have hxc : ([A.int k, A.bool fw] : List A) = Stp.c ⟨k, fw⟩ := rfl
      have hlm : (st.map Stp.c).length = st.length := List.length_map _
      refine Does.raw rfl (DoesR.appFz tab_ok (es := st.map Stp.c) (ys := [Stp.c ⟨k, fw⟩]) (m := mj) (n := st.length) (cap := cap) (id := 4) rfl rfl rfl (fun h => by cases h) (by decide) rfl rfl hjl hlm (stp_two st) (stp_flat st) rfl (by simp) (stp_two [⟨k, fw⟩]) (stp_flat [⟨k, fw⟩]) (show (st.length + 1) * 16 ≤ 140737488355328 by omega) (show st.length + 1 ≤ maxLen by unfold maxLen; omega) (Nat.le_of_ble_eq_true rfl) (fun H1 c1 hH1 hc1 => ?_))
      have hH10 : H1 0 = some (iB l) := hH1 0 (by decide) (Nat.le_of_ble_eq_true rfl)
      have hbd : ∀ c ∈ l, -100000 ≤ c ∧ c ≤ 100000 := fun c hc => by have := (hfl.cs hb.m).b c hc; omega
      have hml : ∀ s ∈ st ++ [(⟨k, fw⟩ : Stp)], s.k < l.length := fun s hs => by have := hp5 s hs; have := hfl.l; omega
      have hwk := walk_f hbd false (l := st ++ [(⟨k, fw⟩ : Stp)]) (by omega) hml (H := H1) (c := c1) hH10
      rw [hll, List.map_append] at hwk
      refine Does.raw rfl (DoesR.call (fst := []) (cap := []) rfl rfl (enters_of Try.func98 rfl rfl) hwk ?_)
      rintro v2 H2 c2 ⟨rfl, rfl, rfl⟩
      have hge : 5 ≤ c2 := hc1
      have hG := hrun
      have hdd : dist b.ms k fw (walkF l (st ++ [⟨k, fw⟩])) < f := by omega
      refine ⟨(f, walkF l (st ++ [⟨k, fw⟩])), ?zg, ?zm, ⟨?zc, ?zv, ?zh, (Nat.le_trans (by decide) hge)⟩⟩
      case zg =>
        (repeat' (first | exact ⟨hp1, hdd, hG⟩))
      case zm =>
        (repeat' (first | omega))
      case zc =>
        (repeat' (first | (refine And.intro ?_ ?_) | exact trivial | exact A.Le.refl _))
      case zv =>
        (repeat' (first | exact trivial))
      case zh =>
        (repeat' (first | (refine And.intro ?_ ?_) | exact trivial | exact rfl))
    | cons s2 st =>
      have hid : id = 5 := hid
      subst hid
      have hne' : ∀ id, 6 ≤ id → E.φ0 id = none := fun id _ => hE id (by omega)
      refine RegL.partE tab_ok mb0 false 5 6 [] ?_
      conv => arg 5; whnf
      refine PartK.mk ?zo ?zk
      case zo =>
        repeat' apply AllP.cons
        all_goals first | exact trivial
      case zk =>
      refine Aw.keep (n := 6) (cst := [(2, .int k), (3, .bool fw), (4, .pt b.c), (9, .ms 0 0 cs.length), (10, .pt m.c), (11, .int (pFr m fw)), (12, .int (pTo m fw)), (13, .gs 5 (s :: s2 :: st).length cap), (14, .mp 1)]) (v := []) (Hl := [(0, iB l), (1, .map (setI r2)), (5, .cells (((s :: s2 :: st).map Stp.c).flatten ++ List.replicate mj A.un))]) hne' ?zu ?zw ?zx ⟨?zc, ?zv, ?zh, hc6⟩ ?zr
      case zu =>
        (repeat' (first | exact trivial | exact Under.s _ | exact Under.ms _ _ _ (by decide) | exact Under.mp _ (by decide) | exact ub | exact ump | exact .gs _ _ _ (by decide) | (refine And.intro ?_ ?_)))
      case zw =>
        (repeat' (first | exact trivial))
      case zx =>
        (repeat' (first | exact trivial | exact Nat.le_of_ble_eq_true rfl | exact iB_under _ | exact setI_under _ | exact stpB_under _ _ | (refine And.intro ?_ ?_)))
      case zc =>
        (repeat' (first | (refine And.intro ?_ ?_) | exact trivial | exact A.Le.refl _))
      case zv =>
        (repeat' (first | exact trivial))
      case zh =>
        (repeat' (first | (refine And.intro ?_ ?_) | exact trivial | exact hh0 | exact hh1 | exact hj))
      case zr =>
      refine Aw.seq ?_
      refine Aw.sm tab_ok mb0 [(2, [.bool (r2.contains (pTo m fw)), .bool (r2.contains (pTo m fw))])] rfl rfl ?zo ?zk
      case zo =>
        repeat' apply AllP.cons
        all_goals first | exact trivial | exact hlk
      case zk =>
      refine Aw.cond rfl (fun h2 => absurd (show (!r2.contains (pTo m fw)) = true from h2) (by rw [hin]; decide)) (fun _ => Aw.skip ?_)
      generalize hst : (s :: s2 :: st) = st at *
      have hstl := hp6
      rw [List.length_append] at hstl
      have hstl : st.length + 1 ≤ 8 := hstl
      have hfl2 := stp_len st
      have hap := stp_app st ⟨k, fw⟩
      refine Aw.es rfl ?_
      refine RegL.partE tab_ok mb0 false 6 0 [] ?_
      conv => arg 5; whnf
      refine PartK.mk ?zo ?zk
      case zo =>
        repeat' apply AllP.cons
        all_goals first | exact trivial | exact Nat.le_of_ble_eq_true rfl
      case zk =>
      have hxc : ([A.int k, A.bool fw] : List A) = Stp.c ⟨k, fw⟩ := rfl
      have hlm : (st.map Stp.c).length = st.length := List.length_map _
      refine Does.raw rfl (DoesR.appFz tab_ok (es := st.map Stp.c) (ys := [Stp.c ⟨k, fw⟩]) (m := mj) (n := st.length) (cap := cap) (id := 5) rfl rfl rfl (fun h => by cases h) (by decide) rfl rfl hjl hlm (stp_two st) (stp_flat st) rfl (by simp) (stp_two [⟨k, fw⟩]) (stp_flat [⟨k, fw⟩]) (show (st.length + 1) * 16 ≤ 140737488355328 by omega) (show st.length + 1 ≤ maxLen by unfold maxLen; omega) (Nat.le_of_ble_eq_true rfl) (fun H1 c1 hH1 hc1 => ?_))
      have hH10 : H1 0 = some (iB l) := hH1 0 (by decide) (Nat.le_of_ble_eq_true rfl)
      have hbd : ∀ c ∈ l, -100000 ≤ c ∧ c ≤ 100000 := fun c hc => by have := (hfl.cs hb.m).b c hc; omega
      have hml : ∀ s ∈ st ++ [(⟨k, fw⟩ : Stp)], s.k < l.length := fun s hs => by have := hp5 s hs; have := hfl.l; omega
      have hwk := walk_f hbd false (l := st ++ [(⟨k, fw⟩ : Stp)]) (by omega) hml (H := H1) (c := c1) hH10
      rw [hll, List.map_append] at hwk
      refine Does.raw rfl (DoesR.call (fst := []) (cap := []) rfl rfl (enters_of Try.func98 rfl rfl) hwk ?_)
      rintro v2 H2 c2 ⟨rfl, rfl, rfl⟩
      have hge : 6 ≤ c2 := hc1
      have hG := hrun
      have hdd : dist b.ms k fw (walkF l (st ++ [⟨k, fw⟩])) < f := by omega
      refine ⟨(f, walkF l (st ++ [⟨k, fw⟩])), ?zg, ?zm, ⟨?zc, ?zv, ?zh, (Nat.le_trans (by decide) hge)⟩⟩
      case zg =>
        (repeat' (first | exact ⟨hp1, hdd, hG⟩))
      case zm =>
        (repeat' (first | omega))
      case zc =>
        (repeat' (first | (refine And.intro ?_ ?_) | exact trivial | exact A.Le.refl _))
      case zv =>
        (repeat' (first | exact trivial))
      case zh =>
        (repeat' (first | (refine And.intro ?_ ?_) | exact trivial | exact rfl))
end Go.Proofs.Ytampldajinhenaa

