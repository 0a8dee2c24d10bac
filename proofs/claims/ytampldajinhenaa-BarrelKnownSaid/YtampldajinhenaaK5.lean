/- What the proof leans on, part 5: B11 B12 B13 B14 B15 B16 B17. -/
import Derived.Test.YtampldajinhenaaK4
set_option linter.all false
namespace Go.Proofs.Ytampldajinhenaa
open Go Go.AL Go.AL.Q Go.AL.Br
theorem Aw.post {X : Ctx} {r : Option Nat} {s : St} {Q Q' : Exit → St → Prop} {c : Code} (h : Aw X r c Q' s) (hq : ∀ e s', Q' e s' → ∃ S' H' c', Q e ⟨S', H', c'⟩ ∧ (∀ t, A.Le (S' t) (s'.S t)) ∧ (∀ id bx', H' id = some bx' → ∃ bx, s'.H id = some bx ∧ B.Le bx' bx) ∧ s'.c ≤ c') : Aw X r c Q s :=
  fun φ Z a w hr => wpIn_mono (h φ Z a w hr) fun e a' w' ⟨s', φ', Z', q, k⟩ => by
    obtain ⟨S', H', c', h1, h2, h3, h4⟩ := hq e s' q
    exact ⟨_, φ', Z', h1, k.weaken h2 h3 h4⟩
def setA (L : List (List Int)) : A := .sl L.isEmpty .any (L.map yS)
theorem yS_free (s : List Int) : ∀ x ∈ yS s, Free x := all1 (free_ints _ _ _)
theorem setA_free (L : List (List Int)) : Free (setA L) := free_map yS_free _ _ _
theorem setA_nil : A.Le (setA []) (.sl true .exact []) := .any _ _ _
def mostFn (p : Pile) : A := .fn (.func 68) [] [.ref 1 0, .pt p.c, .ref 2 0]
abbrev Met := List (G10 × List (List Int))
def msH (met : Met) (p : Pile) : List (Nat × B) := [(0, .map (encM gE setA met)), (1, .cells [.mp 0]), (2, .cells [mostFn p])]
theorem encG_free (met : Met) : ∀ e ∈ encM gE setA met, Free e.1 ∧ Free e.2 := fun e he => by
  obtain ⟨q, _, rfl⟩ := List.mem_map.1 he
  exact ⟨.agg _ fun x hx => by obtain ⟨v, _, rfl⟩ := List.mem_map.1 hx; exact .s _, setA_free _⟩
theorem mostFn_under (p : Pile) {n : Nat} (h : 3 ≤ n) : Under n (mostFn p) := .fn _ _ _ (fun _ h => nomatch h) (allC (.ref _ _ (by omega)) (allC (Free.pt _ p.free).under (all1 (.ref _ _ (by omega)))))
theorem msMap_under (met : Met) {n : Nat} : UnderB n (.map (encM gE setA met)) := .map _ fun e he => ⟨(encG_free met e he).1.under, (encG_free met e he).2.under⟩
theorem msH_under (met : Met) (p : Pile) {n : Nat} (h : 3 ≤ n) : UnderH n (msH met p) := ⟨⟨by omega, msMap_under met⟩, ⟨by omega, .cells _ (all1 (.mp _ (by omega)))⟩, ⟨by omega, .cells _ (all1 (mostFn_under p h))⟩, trivial⟩
theorem msH_dom (met : Met) (p : Pile) (i : Nat) : (ofH (msH met p) i).isSome = true ↔ InOn i := by
  simp only [msH, ofH, updH_apply, InOn]
  by_cases h0 : i = 0 <;> by_cases h1 : i = 1 <;> by_cases h2 : i = 2 <;> simp [h0, h1, h2]
theorem mostFn_nms (p : Pile) : Nms InOn (mostFn p) := .fn _ _ _ (fun _ h => nomatch h) (allC (.ref _ _ (.inr (.inl rfl))) (allC (Free.pt _ p.free).nms (all1 (.ref _ _ (.inr (.inr rfl))))))
theorem msH_nms (met : Met) (p : Pile) (i : Nat) (bx : B) (h : ofH (msH met p) i = some bx) : InOn i ∧ NmsB InOn bx := by
  refine ⟨(msH_dom met p i).1 (by rw [h]; rfl), ?_⟩
  simp only [msH, ofH, updH_apply] at h
  split at h
  · cases h; exact .map _ fun e he => ⟨(encG_free met e he).1.nms, (encG_free met e he).2.nms⟩
  · split at h
    · cases h; exact .cells _ (all1 (.mp _ (.inl rfl)))
    · split at h
      · cases h; exact .cells _ (all1 (mostFn_nms p))
      · cases h
def MemoOk (p : Pile) (met : Met) : Prop := ∀ e ∈ met, e.2 = mostG p e.1.1
theorem most_frame {p : Pile} {g : List Bool} {met : Met} {v0 : A} (hv0 : Free v0)
    (h : SCall Try.prog 68 [.agg (g.map A.bool), .ref 1 0, .pt p.c, .ref 2 0] (ofH (msH met p)) 3 (fun v H' _ => v = v0 ∧ ∃ met', H' = ofH (msH met' p) ∧ MemoOk p met')) {H : Hp} {c : Nat} (hH : HasH H (msH met p)) :
    SCall Try.prog 68 [.agg (g.map A.bool), .ref 1 0, .pt p.c, .ref 2 0] H c fun v H1 c1 => v = v0 ∧ c1 = c ∧ ∃ met', MemoOk p met' ∧ H1 = overH H (ofH (msH met p)) (ofH (msH met' p)) := by
  have dn : (fun i => (ofH (msH met p) i).isSome = true) = InOn := by funext i; exact propext (msH_dom met p i)
  refine (h.frame (H := H) (c := c) (fun id bx hb => ?_) (fun id bx hb => ?_) ?_ ?_).mono ?_
  · rcases (msH_nms met p id bx hb).1 with rfl | rfl | rfl <;> decide
  · rw [dn]; exact ⟨(msH_nms met p id bx hb).2, hH.ofH id bx hb⟩
  · rw [dn]
    exact allC (Free.agg _ (bl_free g)).nms (allC (.ref _ _ (.inr (.inl rfl))) (allC (Free.pt _ p.free).nms (all1 (.ref _ _ (.inr (.inr rfl))))))
  · rintro v H' c' ⟨rfl, met', rfl, hm⟩
    rw [dn]
    refine ⟨hv0.nms, fun id bx hb => ?_⟩
    have := msH_nms met' p id bx hb
    exact ⟨(msH_dom met p id).2 this.1, this.2⟩
  · rintro v H1 c1 ⟨H', c', ⟨rfl, met', rfl, hm⟩, h2, h3⟩
    exact ⟨rfl, h3, met', hm, h2⟩
theorem msk_some {met : Met} {K : G10} {L : List (List Int)} (h : mget met K = some L) : LkIs Try.prog tab 99 25 (encM gE setA met) (keyA gE K) (setA L) true := by
  have := ktyG.lk (T := tab) (et := 25) (v := setA L) (is := true) setA met K (by rw [h]; rfl) (by rw [h]; rfl)
  exact this
theorem msk_none {met : Met} {K : G10} (h : mget met K = none) : LkIs Try.prog tab 99 25 (encM gE setA met) (keyA gE K) (.sl true .exact []) false := by
  have := ktyG.lk (T := tab) (et := 25) (v := .sl true .exact []) (is := false) setA met K (by rw [h]; rfl) (by rw [h]; rfl)
  exact this
def fn93 (p : Pile) (g : List Bool) (k : Nat) : A := .fn (.func 93) [] [.pt p.c, .pt (g.map A.bool), .pt [.int k]]
theorem fn93_free (p : Pile) (g : List Bool) (k : Nat) : Free (fn93 p g k) := .fn _ _ _ allN (allC (.pt _ p.free) (allC (.pt _ (bl_free g)) (all1 (.pt _ (all1 (.s _))))))
def bsH (met : Met) (p : Pile) (L : List (List Int)) : List (Nat × B) := msH met p ++ [(5, .cells [setA L])]
theorem bsH_under (met : Met) (p : Pile) (L : List (List Int)) {n : Nat} (h : 6 ≤ n) : UnderH n (bsH met p L) :=
  ⟨⟨by omega, msMap_under met⟩, ⟨by omega, .cells _ (all1 (.mp _ (by omega)))⟩, ⟨by omega, .cells _ (all1 (mostFn_under p (by omega)))⟩, ⟨by omega, .cells _ (all1 (setA_free L).under)⟩, trivial⟩
def allK (k : Nat) : List Bool := (List.range 10).map fun i => decide (i < k)
theorem allK_succ {k : Nat} (_ : k < 10) : (allK k).set k true = allK (k + 1) := by
  refine List.ext_getElem (by simp [allK]) fun i h1 h2 => ?_
  simp only [allK, List.getElem_set, List.getElem_map, List.getElem_range]
  by_cases e : k = i
  · subst e; simp
  · rw [if_neg e]; congr 1; rw [eq_iff_iff]; omega
def betK (p : Pile) (g : List Bool) (k : Nat) : List (List Int) := ((barsF p (firstG g) g).take k).foldl (betterF (mostG p) g) (mostG p (g.set (firstG g) true))
def bsI (p : Pile) (g : List Bool) (k : Nat) (H : Hp) : Prop := ∃ met, MemoOk p met ∧ H = ofH (bsH met p (betK p g k))
theorem betK_succ {p : Pile} {g : List Bool} {k : Nat} (h : k < (barsF p (firstG g) g).length) : betK p g (k + 1) = betterF (mostG p) g (betK p g k) (barsF p (firstG g) g)[k] := by
  unfold betK; rw [List.take_succ_eq_append_getElem h, List.foldl_append]; rfl
set_option maxHeartbeats 4000000 in
theorem most_c (p : Pile) (hP : p.Ok) : ∀ (f : Nat) (g : List Bool) (met : Met), GOk p g → leftN p g < f → MemoOk p met →
    SCall Try.prog 68 [.agg (g.map A.bool), .ref 1 0, .pt p.c, .ref 2 0] (ofH (msH met p)) 3 (fun v H' _ => v = setA (mostG p g) ∧ ∃ met', H' = ofH (msH met' p) ∧ MemoOk p met') := by
  intro f
  induction f with
  | zero => intro g met _ h; omega
  | succ f ih =>
    intro g met hg hf hm
    have hn := hP.n
    generalize hK : (⟨g, hg.n⟩ : G10) = K
    have hK1 : K.1 = g := by rw [← hK]
    have hkA : keyA gE K = .agg (g.map A.bool) := by
      rw [← hK]; show A.agg ((g.map Value.bool).map A.s) = _; rw [List.map_map]; rfl
    refine SCall.le (post := fun v H' _ => A.Le (setA (mostG p g)) v ∧ ∃ met', H' = ofH (msH met' p) ∧ MemoOk p met') (SCall.drop (post := fun v H' _ => A.Le (setA (mostG p g)) v ∧ ∃ met', HasH H' (msH met' p) ∧ MemoOk p met') (SCall.of_bodyN tab_ok Try.func68 rfl Try.ntmps68 (Nat.le_of_ble_eq_true rfl) (allC (fun _ => rfl) (allC (fun _ => rfl) (allC (fun _ => rfl) (all1 fun _ => rfl)))) fun E hE => ?_)
      (fun v H' c' h => by obtain ⟨h1, met', h2, h3⟩ := h; exact ⟨_, h2.ofH, h1, met', rfl, h3⟩)) (fun v H' c' h => ⟨_, h.1, rfl, h.2⟩)
    have ug : ∀ {n : Nat}, Under n (A.pt (g.map A.bool)) := (Free.pt _ (bl_free g)).under
    have up : ∀ {n : Nat}, Under n (A.pt p.c) := (Free.pt _ p.free).under
    have hl10 : (g.map A.bool).length = 10 := by rw [List.length_map]; exact hg.n
    have hld : A.agg ((g.map A.bool).take 10) = .agg (g.map A.bool) := by rw [List.take_of_length_le (by omega)]
    have hge : 10 ≤ (g.map A.bool).length := by omega
    refine Aw.sm tab_ok mb0 [] rfl rfl ?zo ?zk
    case zo =>
      repeat' apply AllP.cons
      all_goals first | exact trivial
    case zk =>
    cases hmg : mget met K with
    | some L =>
      have hlk := msk_some hmg
      rw [hkA] at hlk
      have hL : L = mostG p g := by have := hm _ (mget_mem hmg); rw [hK1] at this; exact this
      refine Aw.seq ?_
      refine Aw.sm tab_ok mb0 [(1, [.agg (g.map A.bool)]), (2, [setA L, .bool true])] rfl rfl ?zo ?zk
      case zo =>
        repeat' apply AllP.cons
        all_goals first | exact trivial | exact Nat.le_of_ble_eq_true rfl | exact hlk | exact hld | exact hge
      case zk =>
      refine Aw.sm tab_ok mb0 [] rfl rfl ?zo ?zk
      case zo =>
        repeat' apply AllP.cons
        all_goals first | exact trivial
      case zk =>
      refine Aw.cond rfl (fun _ => ?_) (fun h => by cases h)
      refine Aw.sm tab_ok mb0 [] rfl rfl ?zo ?zk
      case zo =>
        repeat' apply AllP.cons
        all_goals first | exact trivial
      case zk =>
      exact Aw.ret ⟨_, .cons (.tmp _) .nil, by rw [← hL]; exact .refl _, met, ⟨rfl, rfl, rfl, trivial⟩, hm⟩
    | none =>
      have hlk := msk_none hmg
      rw [hkA] at hlk
      refine Aw.seq ?_
      refine Aw.sm tab_ok mb0 [(1, [.agg (g.map A.bool)]), (2, [.sl true .exact [], .bool false])] rfl rfl ?zo ?zk
      case zo =>
        repeat' apply AllP.cons
        all_goals first | exact trivial | exact Nat.le_of_ble_eq_true rfl | exact hlk | exact hld | exact hge
      case zk =>
      refine Aw.sm tab_ok mb0 [] rfl rfl ?zo ?zk
      case zo =>
        repeat' apply AllP.cons
        all_goals first | exact trivial
      case zk =>
      refine Aw.cond rfl (fun h => by cases h) (fun _ => Aw.skip ?_)
      refine Aw.keep (n := 3) (cst := [(1, .ref 1 0), (2, .pt p.c), (3, .ref 2 0), (4, .pt (g.map A.bool))]) (v := []) (Hl := msH met p) hE ?zu ?zw ?zx ⟨?zc, ?zv, ?zh, Nat.le_of_ble_eq_true rfl⟩ ?zr
      case zu =>
        (repeat' (first | exact trivial | exact Under.ref _ _ (by decide) | exact up | exact ug | (refine And.intro ?_ ?_)))
      case zw =>
        (repeat' (first | exact trivial))
      case zx =>
        (repeat' (first | exact msH_under met p (Nat.le_refl _)))
      case zc =>
        (repeat' (first | (refine And.intro ?_ ?_) | exact trivial | exact A.Le.refl _))
      case zv =>
        (repeat' (first | exact trivial))
      case zh =>
        (repeat' (first | (refine And.intro ?_ ?_) | exact trivial | exact rfl))
      case zr =>
      refine Aw.sm tab_ok mb0 [] rfl rfl ?zo ?zk
      case zo =>
        repeat' apply AllP.cons
        all_goals first | exact trivial | exact rfl | exact Nat.le_of_ble_eq_true rfl
      case zk =>
      have h4e : ∀ id, 4 ≤ id → E.φ0 id = none := fun id _ => hE id (by omega)
      have lp := ints_lenI p.st
      have us : ∀ {n : Nat}, Under n (A.sl p.nn .any (ints p.st)) := (free_ints _ _ _).under
      have mfu : ∀ {n : Nat}, 3 ≤ n → UnderB n (.cells [mostFn p]) := fun h => .cells _ (all1 (mostFn_under p h))
      have mbu : ∀ {n : Nat}, 3 ≤ n → UnderB n (.cells [.mp 0]) := fun h => .cells _ (all1 (.mp _ (by omega)))
      refine Aw.seq ?_
      refine Aw.sm tab_ok mb0 [] rfl rfl ?zo ?zk
      case zo =>
        repeat' apply AllP.cons
        all_goals first | exact trivial | exact Nat.le_of_ble_eq_true rfl
      case zk =>
      refine Aw.block (Aw.rounds 4 h4e [(1, .ref 1 0), (2, .pt p.c), (3, .ref 2 0), (4, .pt (g.map A.bool)), (8, .ref 3 0), (30, .int p.st.length)] (fun k : Nat => [(31, .int k)]) (fun k => msH met p ++ [(3, gB (allK k))]) (fun k => k ≤ p.st.length) (fun k => p.st.length - k) 0 ?zg ⟨?zc, ?zv, ?zh, Nat.le_of_ble_eq_true rfl⟩ ?zu (fun k zhk => ?zw) (fun k zhk => ?zx) fun k hk => ?zr)
      case zg =>
        (repeat' (first | exact Nat.zero_le _))
      case zc =>
        (repeat' (first | (refine And.intro ?_ ?_) | exact trivial | exact A.Le.refl _ | exact .of_eq (congrArg A.int lp.symm)))
      case zv =>
        (repeat' (first | (refine And.intro ?_ ?_) | exact trivial | exact A.Le.refl _))
      case zh =>
        (repeat' (first | (refine And.intro ?_ ?_) | exact trivial | exact rfl))
      case zu =>
        (repeat' (first | exact trivial | exact Under.s _ | exact Under.ref _ _ (by decide) | exact up | exact ug | (refine And.intro ?_ ?_)))
      case zw =>
        (repeat' (first | exact trivial | exact Under.s _ | (refine And.intro ?_ ?_)))
      case zx =>
        (repeat' (first | exact trivial | exact Nat.le_of_ble_eq_true rfl | exact gB_under _ | exact msMap_under _ | exact mfu (by decide) | exact mbu (by decide) | (refine And.intro ?_ ?_)))
      case zr =>
      refine Aw.sm tab_ok mb0 [] rfl rfl ?zo ?zk
      case zo =>
        repeat' apply AllP.cons
        all_goals first | exact trivial
      case zk =>
      refine Aw.seq (Aw.cond rfl (fun h1 => Aw.skip1 ?_) (fun h1 => Aw.exit2 ?_))
      · have hlt : k < p.st.length := by have := of_decide_eq_true h1; omega
        have hsc := congrArg (fun x => some (B.cells x)) (set_cellsB (l := allK k) (k := k) (v := true) (by simp [allK]; omega))
        rw [allK_succ (by omega)] at hsc
        have hal : ((allK k).map A.bool).length = 10 := by simp [allK]
        generalize allK k = ak at *
        refine Aw.seq (Aw.block ?_)
        refine Aw.sm tab_ok mb0 [] rfl rfl ?zo ?zk
        case zo =>
          repeat' apply AllP.cons
          all_goals first | exact trivial
        case zk =>
        refine Aw.em tab_ok mb0 [] rfl rfl ?zo ?zk
        case zo =>
          repeat' apply AllP.cons
          all_goals first | exact trivial | exact rfl | exact Int.natCast_nonneg _ | exact (show 0 + Int.toNat (k : Int) * 1 + 1 ≤ (ak.map A.bool).length by rw [hal, Int.toNat_natCast]; omega) | exact (by simp only [Ob.of]; omega)
        case zk =>
        refine Aw.em tab_ok mb0 [] rfl rfl ?zo ?zk
        case zo =>
          repeat' apply AllP.cons
          all_goals first | exact trivial | exact inrk k (by omega)
        case zk =>
        refine ⟨k + 1, ?zg, ?zm, ⟨?zc, ?zv, ?zh, Nat.le_of_ble_eq_true rfl⟩⟩
        case zg =>
          (repeat' (first | assumption))
        case zm =>
          (repeat' (first | omega))
        case zc =>
          (repeat' (first | (refine And.intro ?_ ?_) | exact trivial | exact A.Le.refl _))
        case zv =>
          (repeat' (first | (refine And.intro ?_ ?_) | exact trivial | exact A.Le.refl _))
        case zh =>
          (repeat' (first | (refine And.intro ?_ ?_) | exact trivial | exact rfl | exact hsc))
      have hle : k = p.st.length := by have := of_decide_eq_false h1; omega
      subst hle
      have eall : allK p.st.length = allG p := rfl
      rw [eall]
      have hal10 : (allG p).length = 10 := by simp [allG]
      have hal : A.agg ((((allG p).map A.bool).drop 0).take 10 |>.map A.down) = .agg ((allG p).map A.bool) := by
        rw [List.drop_zero, List.take_of_length_le (by simp [hal10]), List.map_map]; rfl
      have hge2 : 0 + 10 ≤ ((allG p).map A.bool).length := by simp [hal10]
      refine Aw.seq ?_
      refine Aw.sm tab_ok mb0 [(0, [.agg (g.map A.bool)]), (1, [.agg ((allG p).map A.bool)]), (2, [.bool (g == allG p)])] rfl rfl ?zo ?zk
      case zo =>
        repeat' apply AllP.cons
        all_goals first | exact trivial | exact rfl | exact Nat.le_of_ble_eq_true rfl | exact hld | exact hge | exact eqG hg.n hal10 _ _
      case zk =>
      refine Aw.cond rfl (fun h2 => ?_) (fun h2 => Aw.skip ?_)
      · have h2 : (g == allG p) = true := h2
        refine Aw.sm tab_ok mb0 [] rfl rfl ?zo ?zk
        case zo =>
          repeat' apply AllP.cons
          all_goals first | exact trivial
        case zk =>
        exact Aw.ret ⟨_, .cons (.tmp _) .nil, by rw [mostG_all h2]; exact setA_nil, met, ⟨rfl, rfl, rfl, trivial⟩, hm⟩
      have h2 : (g == allG p) = false := h2
      have hfst := first_is hP hg h2
      have hstep := mostG_step hP hg h2 hfst
      generalize hfk : firstG g = fst at *
      refine Aw.keep (n := 4) (cst := [(1, .ref 1 0), (2, .pt p.c), (3, .ref 2 0), (4, .pt (g.map A.bool))]) (v := []) (Hl := msH met p) h4e ?zu ?zw ?zx ⟨?zc, ?zv, ?zh, Nat.le_of_ble_eq_true rfl⟩ ?zr
      case zu =>
        (repeat' (first | exact trivial | exact Under.ref _ _ (by decide) | exact up | exact ug | (refine And.intro ?_ ?_)))
      case zw =>
        (repeat' (first | exact trivial))
      case zx =>
        (repeat' (first | exact trivial | exact Nat.le_of_ble_eq_true rfl | exact msMap_under _ | exact mfu (by decide) | exact mbu (by decide) | (refine And.intro ?_ ?_)))
      case zc =>
        (repeat' (first | (refine And.intro ?_ ?_) | exact trivial | exact A.Le.refl _))
      case zv =>
        (repeat' (first | exact trivial))
      case zh =>
        (repeat' (first | (refine And.intro ?_ ?_) | exact trivial | exact rfl))
      case zr =>
      refine Aw.sm tab_ok mb0 [] rfl rfl ?zo ?zk
      case zo =>
        repeat' apply AllP.cons
        all_goals first | exact trivial
      case zk =>
      refine Aw.seq ?_
      refine Aw.block (Aw.rounds 4 h4e [(1, .ref 1 0), (2, .pt p.c), (3, .ref 2 0), (4, .pt (g.map A.bool))] (fun k : Nat => [(10, .int k)]) (fun k => msH met p) (fun k => k ≤ fst) (fun k => fst - k) 0 ?zg ⟨?zc, ?zv, ?zh, Nat.le_of_ble_eq_true rfl⟩ ?zu (fun k zhk => ?zw) (fun k zhk => ?zx) fun k hk => ?zr)
      case zg =>
        (repeat' (first | exact Nat.zero_le _))
      case zc =>
        (repeat' (first | (refine And.intro ?_ ?_) | exact trivial | exact A.Le.refl _))
      case zv =>
        (repeat' (first | (refine And.intro ?_ ?_) | exact trivial | exact A.Le.refl _))
      case zh =>
        (repeat' (first | (refine And.intro ?_ ?_) | exact trivial | exact rfl))
      case zu =>
        (repeat' (first | exact trivial | exact Under.ref _ _ (by decide) | exact up | exact ug | (refine And.intro ?_ ?_)))
      case zw =>
        (repeat' (first | exact trivial | exact Under.s _ | (refine And.intro ?_ ?_)))
      case zx =>
        (repeat' (first | exact trivial | exact Nat.le_of_ble_eq_true rfl | exact msMap_under _ | exact mfu (by decide) | exact mbu (by decide) | (refine And.intro ?_ ?_)))
      case zr =>
      have hk10 : k < (g.map A.bool).length := by have := hfst.n; omega
      have hgd : ((((g.map A.bool).drop (Int.toNat (k : Int) * 1)).getD 0 .un).down = .bool (gn g k)) := by
        unfold gn; rw [Int.toNat_natCast, Nat.mul_one]; simp [List.getD_eq_getElem?_getD, show k < g.length by have := hg.n; omega]; rfl
      have hgl : 0 < ((g.map A.bool).drop (Int.toNat (k : Int) * 1)).length := by rw [List.length_drop, Int.toNat_natCast, Nat.mul_one]; omega
      have hkb := hfst.n
      refine Aw.seq ?_
      refine Aw.sm tab_ok mb0 [(2, [.bool (gn g k)])] rfl rfl ?zo ?zk
      case zo =>
        repeat' apply AllP.cons
        all_goals first | exact trivial | exact Int.natCast_nonneg _ | exact hgd | exact hgl | exact (by simp only [Ob.of]; omega)
      case zk =>
      refine Aw.cond rfl (fun h3 => Aw.skip ?_) (fun h3 => ?_)
      · have h3 : gn g k = true := h3
        have hne : k ≠ fst := fun e => by subst e; rw [hfst.fr] at h3; cases h3
        refine Aw.block ?_
        refine Aw.em tab_ok mb0 [] rfl rfl ?zo ?zk
        case zo =>
          repeat' apply AllP.cons
          all_goals first | exact trivial | exact inrk k (by omega)
        case zk =>
        refine ⟨k + 1, ?zg, ?zm, ⟨?zc, ?zv, ?zh, Nat.le_of_ble_eq_true rfl⟩⟩
        case zg =>
          (repeat' (first | omega))
        case zm =>
          (repeat' (first | omega))
        case zc =>
          (repeat' (first | (refine And.intro ?_ ?_) | exact trivial | exact A.Le.refl _))
        case zv =>
          (repeat' (first | (refine And.intro ?_ ?_) | exact trivial | exact A.Le.refl _))
        case zh =>
          (repeat' (first | (refine And.intro ?_ ?_) | exact trivial | exact rfl))
      have h3 : gn g k = false := h3
      have hkf : k = fst := by
        rcases Nat.lt_or_eq_of_le hk with h | h
        · have := hfst.b k h; rw [h3] at this; cases this
        · exact h
      subst hkf
      refine Aw.exit2 ?_
      refine Aw.keep (n := 4) (cst := [(1, .ref 1 0), (2, .pt p.c), (3, .ref 2 0), (4, .pt (g.map A.bool)), (10, .int k)]) (v := []) (Hl := msH met p) h4e ?zu ?zw ?zx ⟨?zc, ?zv, ?zh, Nat.le_of_ble_eq_true rfl⟩ ?zr
      case zu =>
        (repeat' (first | exact trivial | exact Under.s _ | exact Under.ref _ _ (by decide) | exact up | exact ug | (refine And.intro ?_ ?_)))
      case zw =>
        (repeat' (first | exact trivial))
      case zx =>
        (repeat' (first | exact trivial | exact Nat.le_of_ble_eq_true rfl | exact msMap_under _ | exact mfu (by decide) | exact mbu (by decide) | (refine And.intro ?_ ?_)))
      case zc =>
        (repeat' (first | (refine And.intro ?_ ?_) | exact trivial | exact A.Le.refl _))
      case zv =>
        (repeat' (first | exact trivial))
      case zh =>
        (repeat' (first | (refine And.intro ?_ ?_) | exact trivial | exact rfl))
      case zr =>
      have h5e : ∀ id, 5 ≤ id → E.φ0 id = none := fun id _ => hE id (by omega)
      refine Aw.sm tab_ok mb0 [(0, [.agg (g.map A.bool)])] rfl rfl ?zo ?zk
      case zo =>
        repeat' apply AllP.cons
        all_goals first | exact trivial | exact Nat.le_of_ble_eq_true rfl | exact hld | exact hge | exact hl10
      case zk =>
      have hst0 : ∀ (z : List A) (w : List A), z.length = w.length → setSeg z 0 w = w := fun z w h => by
        unfold setSeg; rw [List.take_zero, List.nil_append, Nat.zero_add, List.drop_of_length_le (by omega), List.append_nil]
      have hdn : ∀ l : List Bool, (l.map A.bool).map A.down = l.map A.bool := fun l => by rw [List.map_map]; rfl
      have hsB : ∀ (l : List Bool), l.length = 10 → B.cells (setSeg ((tab.zr 99).map A.down) 0 ((l.map A.bool).map A.down)) = gB l := fun l hl => by
        rw [hst0 _ _ (by simp [hl]; rfl), hdn]; rfl
      refine Aw.keep (n := 5) (cst := [(1, .ref 1 0), (2, .pt p.c), (3, .ref 2 0), (4, .pt (g.map A.bool)), (10, .int k), (11, .ref 4 0)]) (v := []) (Hl := msH met p ++ [(4, gB g)]) h5e ?zu ?zw ?zx ⟨?zc, ?zv, ?zh, Nat.le_of_ble_eq_true rfl⟩ ?zr
      case zu =>
        (repeat' (first | exact trivial | exact Under.s _ | exact Under.ref _ _ (by decide) | exact up | exact ug | (refine And.intro ?_ ?_)))
      case zw =>
        (repeat' (first | exact trivial))
      case zx =>
        (repeat' (first | exact trivial | exact Nat.le_of_ble_eq_true rfl | exact msMap_under _ | exact mfu (by decide) | exact mbu (by decide) | exact gB_under _ | (refine And.intro ?_ ?_)))
      case zc =>
        (repeat' (first | (refine And.intro ?_ ?_) | exact trivial | exact A.Le.refl _))
      case zv =>
        (repeat' (first | exact trivial))
      case zh =>
        (repeat' (first | (refine And.intro ?_ ?_) | exact trivial | exact rfl | exact congrArg some (hsB g hg.n)))
      case zr =>
      have hlt := hfst.n
      have hgl10 := hg.n
      have hsc := congrArg (fun x => some (B.cells x)) (set_cellsB (l := g) (k := k) (v := true) (by omega))
      refine Aw.sm tab_ok mb0 [] rfl rfl ?zo ?zk
      case zo =>
        repeat' apply AllP.cons
        all_goals first | exact trivial | exact rfl | exact Int.natCast_nonneg _ | exact (show 0 + Int.toNat (k : Int) * 1 + 1 ≤ (g.map A.bool).length by rw [hl10, Int.toNat_natCast]; omega) | exact (by simp only [Ob.of]; omega)
      case zk =>
      have hs1 : StIn p [(k : Int)] := fun x hx => by simp at hx; subst hx; omega
      have hG1 := (mark_one g k) ▸ hg.mark hs1 hP
      have hl1 := (mark_one g k) ▸ left_mark hP hg hfst hs1 (by simp)
      have hcall1 := ih (g.set k true) met hG1 (by omega) hm
      have hG1n := hG1.n
      generalize hg1 : g.set k true = G1 at *
      refine Aw.keep (n := 5) (cst := [(1, .ref 1 0), (2, .pt p.c), (3, .ref 2 0), (4, .pt (g.map A.bool)), (10, .int k), (11, .ref 4 0)]) (v := []) (Hl := msH met p ++ [(4, gB G1)]) h5e ?zu ?zw ?zx ⟨?zc, ?zv, ?zh, Nat.le_of_ble_eq_true rfl⟩ ?zr
      case zu =>
        (repeat' (first | exact trivial | exact Under.s _ | exact Under.ref _ _ (by decide) | exact up | exact ug | (refine And.intro ?_ ?_)))
      case zw =>
        (repeat' (first | exact trivial))
      case zx =>
        (repeat' (first | exact trivial | exact Nat.le_of_ble_eq_true rfl | exact msMap_under _ | exact mfu (by decide) | exact mbu (by decide) | exact gB_under _ | (refine And.intro ?_ ?_)))
      case zc =>
        (repeat' (first | (refine And.intro ?_ ?_) | exact trivial | exact A.Le.refl _))
      case zv =>
        (repeat' (first | exact trivial))
      case zh =>
        (repeat' (first | (refine And.intro ?_ ?_) | exact trivial | exact rfl | exact hsc))
      case zr =>
      have hld1 : A.agg ((((G1.map A.bool).drop 0).take 10).map A.down) = .agg (G1.map A.bool) := by
        rw [List.drop_zero, List.take_of_length_le (by simp [hG1n]), hdn]
      have hge1 : 0 + 10 ≤ (G1.map A.bool).length := by simp [hG1n]
      refine Aw.ss rfl ?_
      refine RegL.partE tab_ok mb0 false 2 0 [(1, [.agg (G1.map A.bool)])] ?_
      conv => arg 5; whnf
      refine PartK.mk ?zo ?zk
      case zo =>
        repeat' apply AllP.cons
        all_goals first | exact trivial | exact Nat.le_of_ble_eq_true rfl | exact hld1 | exact hge1
      case zk =>
      refine Does.raw rfl (DoesR.call (fst := []) (cap := [.ref 1 0, .pt p.c, .ref 2 0]) rfl rfl (enters_of Try.func68 rfl rfl) (most_frame (setA_free _) hcall1 (H := _) (c := _) ⟨rfl, rfl, rfl, trivial⟩) ?_)
      rintro v H' c' ⟨rfl, rfl, met1, hm1, rfl⟩
      refine RegL.partE tab_ok mb0 false 2 3 [] ?_
      conv => arg 5; whnf
      refine PartK.mk ?zo ?zk
      case zo =>
        repeat' apply AllP.cons
        all_goals first | exact trivial | exact rfl | exact Nat.le_of_ble_eq_true rfl
      case zk =>
      have h6e : ∀ id, 6 ≤ id → E.φ0 id = none := fun id _ => hE id (by omega)
      have u5 : ∀ (L : List (List Int)) {n : Nat}, UnderB n (.cells [setA L]) := fun L n => .cells _ (all1 (setA_free L).under)
      have hb0 : betK p g 0 = mostG p G1 := by unfold betK; rw [hfk, hg1]; rfl
      have hbars := barrels_t p g hg.n k
      refine Aw.keep (n := 6) (cst := [(1, .ref 1 0), (2, .pt p.c), (3, .ref 2 0), (4, .pt (g.map A.bool)), (10, .int k), (12, .ref 5 0)]) (v := []) (Hl := bsH met1 p (betK p g 0)) h6e ?zu ?zw ?zx ⟨?zc, ?zv, ?zh, Nat.le_of_ble_eq_true rfl⟩ ?zr
      case zu =>
        (repeat' (first | exact trivial | exact Under.s _ | exact Under.ref _ _ (by decide) | exact up | exact ug | (refine And.intro ?_ ?_)))
      case zw =>
        (repeat' (first | exact trivial))
      case zx =>
        (repeat' (first | exact trivial | exact Nat.le_of_ble_eq_true rfl | exact msMap_under _ | exact mfu (by decide) | exact mbu (by decide) | exact u5 _ | (refine And.intro ?_ ?_)))
      case zc =>
        (repeat' (first | (refine And.intro ?_ ?_) | exact trivial | exact A.Le.refl _))
      case zv =>
        (repeat' (first | exact trivial))
      case zh =>
        (repeat' (first | (refine And.intro ?_ ?_) | exact trivial | exact rfl | exact (by rw [hb0]; rfl)))
      case zr =>
      refine Aw.seq ?_
      refine Aw.sm tab_ok mb0 [(2, [.agg (g.map A.bool)]), (3, [fn93 p g k])] rfl rfl ?zo ?zk
      case zo =>
        repeat' apply AllP.cons
        all_goals first | exact trivial | exact Nat.le_of_ble_eq_true rfl | exact hld | exact hge | exact hbars
      case zk =>
      refine Aw.keep (n := 6) (cst := [(1, .ref 1 0), (3, .ref 2 0), (4, .pt (g.map A.bool)), (12, .ref 5 0), (54, fn93 p g k)]) (v := []) (Hl := bsH met1 p (betK p g 0)) h6e ?zu ?zw ?zx ⟨?zc, ?zv, ?zh, Nat.le_of_ble_eq_true rfl⟩ ?zr
      case zu =>
        (repeat' (first | exact trivial | exact Under.ref _ _ (by decide) | exact ug | exact (fn93_free p g k).under | (refine And.intro ?_ ?_)))
      case zw =>
        (repeat' (first | exact trivial))
      case zx =>
        (repeat' (first | exact trivial | exact Nat.le_of_ble_eq_true rfl | exact msMap_under _ | exact mfu (by decide) | exact mbu (by decide) | exact u5 _ | (refine And.intro ?_ ?_)))
      case zc =>
        (repeat' (first | (refine And.intro ?_ ?_) | exact trivial | exact A.Le.refl _))
      case zv =>
        (repeat' (first | exact trivial))
      case zh =>
        (repeat' (first | (refine And.intro ?_ ?_) | exact trivial | exact rfl))
      case zr =>
      refine Aw.block (Aw.iterN rfl (enters_of Try.func93 rfl rfl) ((barsF p k g).map yS) (bsI p g) rfl (fun x hx => by obtain ⟨m, _, rfl⟩ := List.mem_map.1 hx; rfl)
        (ofL2_under ⟨.ref _ _ (Nat.le_of_ble_eq_true rfl), .ref _ _ (Nat.le_of_ble_eq_true rfl), ug, .ref _ _ (Nat.le_of_ble_eq_true rfl), (fn93_free p g k).under, trivial⟩) (fun j H h => by obtain ⟨met2, _, rfl⟩ := h; exact UnderH.ofH (bsH_under met2 p _ (Nat.le_refl _)))
        (fun it H hI => barrels1_t p hP g hg.n k ⟨by omega, by omega⟩ it H hI) ⟨met1, hm1, rfl⟩ ?_ ?_)
      · intro lpB hlp j yy hj H hI E' b' hE'
        rw [List.getElem?_map] at hj
        cases hmj : (barsF p k g)[j]? with
        | none => rw [hmj] at hj; cases hj
        | some s =>
        rw [hmj] at hj
        cases hj
        obtain ⟨met2, hm2, rfl⟩ := hI
        obtain ⟨hjl, hjs⟩ := List.getElem?_eq_some_iff.1 hmj
        have hE1 : ∀ i, 7 ≤ i → E'.φ0 i = none := hE'
        have hulp : ∀ {n : Nat}, 6 ≤ n → UnderB n (lpB .busy none) := fun h => (hlp .busy none).mono h
        generalize hLB : lpB .busy none = LB at *
        have us' : ∀ {n : Nat}, Under n (A.sl false .any (ints s)) := (free_ints _ _ _).under
        have hbk : betK p g (j + 1) = betterF (mostG p) g (betK p g j) s := by
          have := betK_succ (p := p) (g := g) (k := j) (by rw [hfk]; exact hjl)
          rw [this]; congr 1; simp only [hfk]; exact hjs
        have hbm := bars_mem hfst (List.mem_of_getElem? hmj)
        have hbl := bars_len (List.mem_of_getElem? hmj)
        refine Aw.em tab_ok mb0 [] rfl rfl ?zo ?zk
        case zo =>
          repeat' apply AllP.cons
          all_goals first | exact trivial
        case zk =>
        refine ⟨rfl, rfl, ?_⟩
        refine Aw.keep (n := 7) (cst := [(1, .ref 1 0), (3, .ref 2 0), (4, .pt (g.map A.bool)), (12, .ref 5 0), (13, .sl false .any (ints s))]) (v := []) (Hl := bsH met2 p (betK p g j) ++ [(6, LB)]) hE1 ?zu ?zw ?zx ⟨?zc, ?zv, ?zh, Nat.le_of_ble_eq_true rfl⟩ ?zr
        case zu =>
          (repeat' (first | exact trivial | exact (free_ints _ _ _).under | exact Under.ref _ _ (by decide) | exact ug | (refine And.intro ?_ ?_)))
        case zw =>
          (repeat' (first | exact trivial))
        case zx =>
          (repeat' (first | exact trivial | exact Nat.le_of_ble_eq_true rfl | exact msMap_under _ | exact mfu (by decide) | exact mbu (by decide) | exact u5 _ | exact hulp (by decide) | (refine And.intro ?_ ?_)))
        case zc =>
          (repeat' (first | (refine And.intro ?_ ?_) | exact trivial | exact A.Le.refl _))
        case zv =>
          (repeat' (first | exact trivial))
        case zh =>
          (repeat' (first | (refine And.intro ?_ ?_) | exact trivial | exact rfl))
        case zr =>
        refine Aw.block ?_
        refine Aw.sm tab_ok mb0 [(0, [.agg (g.map A.bool)])] rfl rfl ?zo ?zk
        case zo =>
          repeat' apply AllP.cons
          all_goals first | exact trivial | exact Nat.le_of_ble_eq_true rfl | exact hld | exact hge | exact hl10
        case zk =>
        have h8e : ∀ i, 8 ≤ i → E'.φ0 i = none := fun i h => hE1 i (by omega)
        have alts : True := trivial
        refine Aw.keep (n := 8) (cst := [(1, .ref 1 0), (3, .ref 2 0), (4, .pt (g.map A.bool)), (12, .ref 5 0), (13, .sl false .any (ints s)), (14, .ref 7 0)]) (v := []) (Hl := bsH met2 p (betK p g j) ++ [(6, LB), (7, gB g)]) h8e ?zu ?zw ?zx ⟨?zc, ?zv, ?zh, Nat.le_of_ble_eq_true rfl⟩ ?zr
        case zu =>
          (repeat' (first | exact trivial | exact (free_ints _ _ _).under | exact Under.ref _ _ (by decide) | exact ug | (refine And.intro ?_ ?_)))
        case zw =>
          (repeat' (first | exact trivial))
        case zx =>
          (repeat' (first | exact trivial | exact Nat.le_of_ble_eq_true rfl | exact msMap_under _ | exact mfu (by decide) | exact mbu (by decide) | exact u5 _ | exact hulp (by decide) | exact gB_under _ | (refine And.intro ?_ ?_)))
        case zc =>
          (repeat' (first | (refine And.intro ?_ ?_) | exact trivial | exact A.Le.refl _))
        case zv =>
          (repeat' (first | exact trivial))
        case zh =>
          (repeat' (first | (refine And.intro ?_ ?_) | exact trivial | exact rfl | exact congrArg some (hsB g hg.n)))
        case zr =>
        have lms := ints_lenI s
        refine Aw.seq ?_
        refine Aw.sm tab_ok mb0 [] rfl rfl ?zo ?zk
        case zo =>
          repeat' apply AllP.cons
          all_goals first | exact trivial
        case zk =>
        refine Aw.block (Aw.rounds 8 h8e [(1, .ref 1 0), (3, .ref 2 0), (4, .pt (g.map A.bool)), (12, .ref 5 0), (13, .sl false .any (ints s)), (14, .ref 7 0), (57, .sl false .any (ints s)), (58, .int s.length)] (fun i : Nat => [(59, .int i)]) (fun i => bsH met2 p (betK p g j) ++ [(6, LB), (7, gB (markG g (s.take i)))]) (fun i => i ≤ s.length) (fun i => s.length - i) 0 ?zg ⟨?zc, ?zv, ?zh, Nat.le_of_ble_eq_true rfl⟩ ?zu (fun i zhk => ?zw) (fun i zhk => ?zx) fun i hk => ?zr)
        case zg =>
          (repeat' (first | exact Nat.zero_le _))
        case zc =>
          (repeat' (first | (refine And.intro ?_ ?_) | exact trivial | exact A.Le.refl _ | exact .of_eq (congrArg A.int lms.symm)))
        case zv =>
          (repeat' (first | (refine And.intro ?_ ?_) | exact trivial | exact A.Le.refl _))
        case zh =>
          (repeat' (first | (refine And.intro ?_ ?_) | exact trivial | exact rfl))
        case zu =>
          (repeat' (first | exact trivial | exact Under.s _ | exact (free_ints _ _ _).under | exact Under.ref _ _ (by decide) | exact ug | (refine And.intro ?_ ?_)))
        case zw =>
          (repeat' (first | exact trivial | exact Under.s _ | (refine And.intro ?_ ?_)))
        case zx =>
          (repeat' (first | exact trivial | exact Nat.le_of_ble_eq_true rfl | exact msMap_under _ | exact mfu (by decide) | exact mbu (by decide) | exact u5 _ | exact hulp (by decide) | exact gB_under _ | (refine And.intro ?_ ?_)))
        case zr =>
        refine Aw.sm tab_ok mb0 [] rfl rfl ?zo ?zk
        case zo =>
          repeat' apply AllP.cons
          all_goals first | exact trivial
        case zk =>
        refine Aw.seq (Aw.cond rfl (fun h1 => Aw.skip1 ?_) (fun h1 => Aw.exit2 ?_))
        · have hlt2 : i < s.length := by have := of_decide_eq_true h1; omega
          have hgs := ints_get hlt2
          have hsi := hbm.2.2.1 s[i] (List.getElem_mem hlt2)
          have hmk : (markG g (s.take i)).set (s[i]).toNat true = markG g (s.take (i + 1)) := by
            rw [List.take_succ_eq_append_getElem hlt2]; unfold markG; rw [List.foldl_append]; rfl
          have hml : (markG g (s.take i)).length = 10 := by rw [markG_len]; exact hg.n
          have hsc2 := congrArg (fun x => some (B.cells x)) (set_cellsB (l := markG g (s.take i)) (k := (s[i]).toNat) (v := true) (by omega))
          rw [hmk] at hsc2
          generalize s[i] = z at *
          generalize markG g (s.take i) = GI at *
          refine Aw.seq (Aw.block ?_)
          refine Aw.sm tab_ok mb0 [(0, [.int z])] rfl rfl ?zo ?zk
          case zo =>
            repeat' apply AllP.cons
            all_goals first | exact trivial | exact rfl | exact Nat.le_of_ble_eq_true rfl | exact Int.natCast_nonneg _ | exact hgs
          case zk =>
          refine Aw.em tab_ok mb0 [] rfl rfl ?zo ?zk
          case zo =>
            repeat' apply AllP.cons
            all_goals first | exact trivial | exact rfl | exact (show 0 + z.toNat * 1 + 1 ≤ (GI.map A.bool).length by rw [List.length_map, hml]; omega) | exact (show z < ((10 : Nat) : Int) by omega) | exact (by simp only [Ob.of]; omega)
          case zk =>
          refine Aw.em tab_ok mb0 [] rfl rfl ?zo ?zk
          case zo =>
            repeat' apply AllP.cons
            all_goals first | exact trivial | exact inrk i (by omega)
          case zk =>
          refine ⟨i + 1, ?zg, ?zm, ⟨?zc, ?zv, ?zh, Nat.le_of_ble_eq_true rfl⟩⟩
          case zg =>
            (repeat' (first | assumption))
          case zm =>
            (repeat' (first | omega))
          case zc =>
            (repeat' (first | (refine And.intro ?_ ?_) | exact trivial | exact A.Le.refl _))
          case zv =>
            (repeat' (first | (refine And.intro ?_ ?_) | exact trivial | exact A.Le.refl _))
          case zh =>
            (repeat' (first | (refine And.intro ?_ ?_) | exact trivial | exact rfl | exact hsc2))
        have hle : i = s.length := by have := of_decide_eq_false h1; omega
        subst hle
        rw [List.take_length]
        have hG2 := hg.mark hbm.2.2.1 hP
        have hl2 := left_mark hP hg hfst hbm.2.2.1 hbm.1
        have hcall2 := ih (markG g s) met2 hG2 (by omega) hm2
        have hG2n := hG2.n
        unfold betterF at hbk
        generalize hg2 : markG g s = G2 at *
        have hld2 : A.agg ((((G2.map A.bool).drop 0).take 10).map A.down) = .agg (G2.map A.bool) := by
          rw [List.drop_zero, List.take_of_length_le (by simp [hG2n]), hdn]
        have hge2 : 0 + 10 ≤ (G2.map A.bool).length := by simp [hG2n]
        refine Aw.keep (n := 8) (cst := [(3, .ref 2 0), (12, .ref 5 0), (13, .sl false .any (ints s)), (14, .ref 7 0)]) (v := []) (Hl := bsH met2 p (betK p g j) ++ [(6, LB), (7, gB G2)]) h8e ?zu ?zw ?zx ⟨?zc, ?zv, ?zh, Nat.le_of_ble_eq_true rfl⟩ ?zr
        case zu =>
          (repeat' (first | exact trivial | exact (free_ints _ _ _).under | exact Under.ref _ _ (by decide) | (refine And.intro ?_ ?_)))
        case zw =>
          (repeat' (first | exact trivial))
        case zx =>
          (repeat' (first | exact trivial | exact Nat.le_of_ble_eq_true rfl | exact msMap_under _ | exact mfu (by decide) | exact mbu (by decide) | exact u5 _ | exact hulp (by decide) | exact gB_under _ | (refine And.intro ?_ ?_)))
        case zc =>
          (repeat' (first | (refine And.intro ?_ ?_) | exact trivial | exact A.Le.refl _))
        case zv =>
          (repeat' (first | exact trivial))
        case zh =>
          (repeat' (first | (refine And.intro ?_ ?_) | exact trivial | exact rfl))
        case zr =>
        refine Aw.ss rfl ?_
        refine RegL.partE tab_ok mb0 false 2 0 [(1, [.agg (G2.map A.bool)])] ?_
        conv => arg 5; whnf
        refine PartK.mk ?zo ?zk
        case zo =>
          repeat' apply AllP.cons
          all_goals first | exact trivial | exact Nat.le_of_ble_eq_true rfl | exact hld2 | exact hge2
        case zk =>
        refine Does.raw rfl (DoesR.call (fst := []) (cap := [.ref 1 0, .pt p.c, .ref 2 0]) rfl rfl (enters_of Try.func68 rfl rfl) (most_frame (setA_free _) hcall2 (H := _) (c := _) ⟨rfl, rfl, rfl, trivial⟩) ?_)
        rintro v H' c' ⟨rfl, rfl, met3, hm3, rfl⟩
        refine RegL.partE tab_ok mb0 false 1 3 [] ?_
        conv => arg 5; whnf
        refine PartK.mk ?zo ?zk
        case zo =>
          repeat' apply AllP.cons
          all_goals first | exact trivial
        case zk =>
        have hL2l := mostG_len p G2
        generalize mostG p G2 = L2 at *
        generalize hb1 : betK p g j = L1 at *
        have hu2 : ∀ {n : Nat}, Under n (setA L2) := (setA_free L2).under
        refine Aw.keep (n := 8) (cst := [(12, .ref 5 0), (13, .sl false .any (ints s)), (17, setA L2)]) (v := []) (Hl := bsH met3 p L1 ++ [(6, LB)]) h8e ?zu ?zw ?zx ⟨?zc, ?zv, ?zh, Nat.le_of_ble_eq_true rfl⟩ ?zr
        case zu =>
          (repeat' (first | exact trivial | exact (free_ints _ _ _).under | exact Under.ref _ _ (by decide) | exact hu2 | (refine And.intro ?_ ?_)))
        case zw =>
          (repeat' (first | exact trivial))
        case zx =>
          (repeat' (first | exact trivial | exact Nat.le_of_ble_eq_true rfl | exact msMap_under _ | exact mfu (by decide) | exact mbu (by decide) | exact u5 _ | exact hulp (by decide) | (refine And.intro ?_ ?_)))
        case zc =>
          (repeat' (first | (refine And.intro ?_ ?_) | exact trivial | exact A.Le.refl _))
        case zv =>
          (repeat' (first | exact trivial))
        case zh =>
          (repeat' (first | (refine And.intro ?_ ?_) | exact trivial | exact rfl))
        case zr =>
        have lL1 : ((L1.map yS).length : Int) = L1.length := by simp
        have lL2 : ((L2.map yS).length : Int) = L2.length := by simp
        refine Aw.sm tab_ok mb0 [] rfl rfl ?zo ?zk
        case zo =>
          repeat' apply AllP.cons
          all_goals first | exact trivial | exact Nat.le_of_ble_eq_true rfl | exact (by simp only [Ob.of, inR]; omega)
        case zk =>
        refine Aw.cond rfl (fun h3 => ?_) (fun h3 => Aw.skip ?_)
        · have h3 : decide (((L2.map yS).length : Int) + 1 > ((L1.map yS).length : Int)) = true := h3
          have h3 := of_decide_eq_true h3
          rw [if_pos (by omega)] at hbk
          have hz0 : ∀ z ∈ L2.map yS, z.length = 1 := fun z hz => by obtain ⟨x, _, rfl⟩ := List.mem_map.1 hz; rfl
          have hz1 : ∀ z ∈ [yS s] ++ L2.map yS, z.length = 1 := fun z hz => by
            rcases List.mem_append.1 hz with h | h
            · simp at h; subst h; rfl
            · exact hz0 z h
          have hzz : ∀ z ∈ [yS s], z.length = 1 := fun z hz => by simp at hz; subst hz; rfl
          have hll : (L2.map yS).length ≤ 10 := by rw [List.length_map]; exact hL2l
          have hz2 : ([yS s].length + (L2.map yS).length) * 24 ≤ 140737488355328 := by simp; omega
          have hz3 : [yS s].length + (L2.map yS).length ≤ maxLen := by simp [maxLen]; omega
          refine Aw.post (Q' := fun e s' => e = .normal ∧ 7 ≤ s'.c ∧ HasH s'.H (msH met3 p ++ [(5, .cells [.sl false (.own 22) ([yS s] ++ L2.map yS)]), (6, LB)])) ?_ ?_
          · refine Aw.em tab_ok mb0 [] rfl rfl ?zo ?zk
            case zo =>
              repeat' apply AllP.cons
              all_goals first | exact trivial | exact rfl | exact Nat.le_of_ble_eq_true rfl | exact hz1 | exact hz2 | exact hz3
            case zk =>
            exact ⟨rfl, Nat.le_of_ble_eq_true rfl, rfl, rfl, rfl, rfl, rfl, trivial⟩
          · rintro e s' ⟨rfl, hc, h0, h1', h2', h5, h6, _⟩
            refine ⟨s'.S, ofH (bsH met3 p (s :: L2) ++ [(6, LB)]), s'.c, ⟨⟨.busy, none, by rw [hLB]; rfl⟩, hc, ofH (bsH met3 p (s :: L2)), ⟨met3, hm3, by rw [hbk]⟩, HasH.ofH (l := bsH met3 p (s :: L2)) ⟨rfl, rfl, rfl, rfl, trivial⟩⟩, fun _ => .refl _, fun id bx' hb => ?_, Nat.le_refl _⟩
            simp only [bsH, msH, List.cons_append, List.nil_append, ofH, updH_apply] at hb
            split at hb
            · rename_i e; subst e; cases hb; exact ⟨_, h0, .refl _⟩
            split at hb
            · rename_i e; subst e; cases hb; exact ⟨_, h1', .refl _⟩
            split at hb
            · rename_i e; subst e; cases hb; exact ⟨_, h2', .refl _⟩
            split at hb
            · rename_i e; subst e; cases hb; exact ⟨_, h5, B.Le.cell1 (.any _ _ _)⟩
            split at hb
            · rename_i e; subst e; cases hb; exact ⟨_, h6, .refl _⟩
            · cases hb
        · have h3 : decide (((L2.map yS).length : Int) + 1 > ((L1.map yS).length : Int)) = false := h3
          have h3 := of_decide_eq_false h3
          rw [if_neg (by omega)] at hbk
          exact ⟨⟨.busy, none, congrArg some hLB.symm⟩, Nat.le_of_ble_eq_true rfl, ofH (bsH met3 p L1), ⟨met3, hm3, by rw [hbk]⟩, HasH.ofH (l := bsH met3 p L1) ⟨rfl, rfl, rfl, rfl, trivial⟩⟩
      · intro H c' hc' hsub
        obtain ⟨H2, ⟨met2, hm2, rfl⟩, hsub⟩ := hsub
        have hbe : betK p g ((barsF p k g).map yS).length = mostG p g := by
          rw [List.length_map, hstep]; unfold betK; rw [hfk, List.take_length, hg1]
        rw [hbe] at hsub
        refine Aw.keepH (n := 6) (cst := [(1, .ref 1 0), (4, .pt (g.map A.bool)), (12, .ref 5 0)]) (v := []) (J := fun H' => H' = ofH (bsH met2 p (mostG p g))) h6e ⟨.ref _ _ (by decide), ug, .ref _ _ (by decide), trivial⟩ trivial (fun _ e => e ▸ UnderH.ofH (bsH_under met2 p _ (Nat.le_refl _)))
          ⟨⟨.refl _, .refl _, .refl _, trivial⟩, trivial, ⟨_, rfl, hsub⟩, hc'⟩ ?_
        rintro _ rfl
        have hhas := ktyG.has setA met2 K
        have hup := ktyG.up setA met2 K (mostG p g)
        rw [hkA] at hhas hup
        refine Aw.sm tab_ok mb0 [(1, [.agg (g.map A.bool)])] rfl rfl ?zo ?zk
        case zo =>
          repeat' apply AllP.cons
          all_goals first | exact trivial | exact Nat.le_of_ble_eq_true rfl | exact hld | exact hge | exact hhas
        case zk =>
        refine Aw.sm tab_ok mb0 [] rfl rfl ?zo ?zk
        case zo =>
          repeat' apply AllP.cons
          all_goals first | exact trivial | exact Nat.le_of_ble_eq_true rfl
        case zk =>
        refine Aw.ret ⟨_, .cons (.tmp _) .nil, .refl _, mput met2 K (mostG p g), ⟨congrArg (fun x => some (B.map x)) hup, rfl, rfl, trivial⟩, fun e he => ?_⟩
        rcases mput_mem he with h | rfl
        · exact hm2 e h
        · show mostG p g = mostG p K.1
          rw [hK1]
end Go.Proofs.Ytampldajinhenaa

namespace Go.Proofs.Ytampldajinhenaa
open Go Go.AL Go.AL.Q Go.AL.Br
def setX : List (List Int) → A
  | [] => .sl true .exact []
  | s :: L => .sl false .exact ((s :: L).map yS)
theorem setX_free : ∀ L, Free (setX L)
  | [] => .sl _ _ _ (fun _ h => by cases h)
  | s :: L => free_map yS_free _ _ _
def setRA (r : List (List Int) × Int) : A := .tup [setX r.1, .int r.2]
set_option maxHeartbeats 1000000 in
theorem set_t (p : Pile) (hpl : (p.st.length : Int) ≤ 9223372036854775806) : Ans Try.prog 20 [.agg p.c] (setRA (SetR p)) := by
  have hfr : Free (setRA (SetR p)) := .tup _ (allC (setX_free _) (all1 (.s _)))
  have up : ∀ {n : Nat}, Under n (A.pt p.c) := (Free.pt _ p.free).under
  have hchk := pile_t p hpl
  refine told Try.func20 rfl rfl (Pure.of tab_ok Try.func20 rfl Try.ntmps20 rfl (all1 (.agg _ p.free)) (all1 (fun _ => rfl)) (by first | exact .s _ | assumption | exact .tup _ (by intro x hx; simp only [List.mem_cons, List.not_mem_nil, or_false] at hx; rcases hx with rfl | rfl | rfl | rfl <;> first | exact .s _ | (simp_all; done))) fun E hE => ?_)
  refine Aw.sm tab_ok mb0 [] rfl rfl ?zo ?zk
  case zo =>
    repeat' apply AllP.cons
    all_goals first | exact trivial
  case zk =>
  by_cases hpo : p.ok = true
  rotate_left
  · have e : SetR p = ([], 60) := by unfold SetR; rw [if_neg hpo]
    have e2 : p.chk = 60 := by unfold Pile.chk; rw [if_neg hpo]
    rw [e2] at hchk
    rw [e]
    refine Aw.seq ?_
    refine Aw.sm tab_ok mb0 [(1, [.int 60])] rfl rfl ?zo ?zk
    case zo =>
      repeat' apply AllP.cons
      all_goals first | exact trivial | exact Nat.le_of_ble_eq_true rfl | exact hchk
    case zk =>
    refine Aw.sm tab_ok mb0 [] rfl rfl ?zo ?zk
    case zo =>
      repeat' apply AllP.cons
      all_goals first | exact trivial
    case zk =>
    refine Aw.cond rfl (fun h => ?_) (fun h => by cases h)
    refine Aw.sm tab_ok mb0 [] rfl rfl ?zo ?zk
    case zo =>
      repeat' apply AllP.cons
      all_goals first | exact trivial
    case zk =>
    exact Aw.ret ⟨_, .cons (.tmp _) (.cons (.tmp _) .nil), rfl⟩
  have e : SetR p = if mostG p g0 = [] then ([], 4) else (mostG p g0, 0) := by unfold SetR; rw [if_pos hpo]; rfl
  have e2 : p.chk = 0 := by unfold Pile.chk; rw [if_pos hpo]
  have hP := Pile.ok_iff.1 hpo
  rw [e2] at hchk
  rw [e]
  refine Aw.seq ?_
  refine Aw.sm tab_ok mb0 [(1, [.int 0])] rfl rfl ?zo ?zk
  case zo =>
    repeat' apply AllP.cons
    all_goals first | exact trivial | exact Nat.le_of_ble_eq_true rfl | exact hchk
  case zk =>
  refine Aw.sm tab_ok mb0 [] rfl rfl ?zo ?zk
  case zo =>
    repeat' apply AllP.cons
    all_goals first | exact trivial
  case zk =>
  refine Aw.cond rfl (fun h => by cases h) (fun h => Aw.skip ?_)
  refine Aw.sm tab_ok mb0 [] rfl rfl ?zo ?zk
  case zo =>
    repeat' apply AllP.cons
    all_goals first | exact trivial | exact rfl | exact Nat.le_of_ble_eq_true rfl
  case zk =>
  refine Aw.freeze (id := 0) (t := 5) (cs := p.c) rfl rfl ?_
  refine Aw.keep (n := 0) (cst := [(5, .pt p.c)]) (v := []) (Hl := []) hE ?zu ?zw ?zx ⟨?zc, ?zv, ?zh, Nat.le_of_ble_eq_true rfl⟩ ?zr
  case zu =>
    (repeat' (first | exact trivial | exact up | (refine And.intro ?_ ?_)))
  case zw =>
    (repeat' (first | exact trivial))
  case zx =>
    (repeat' (first | exact trivial))
  case zc =>
    (repeat' (first | (refine And.intro ?_ ?_) | exact trivial | exact A.Le.refl _))
  case zv =>
    (repeat' (first | exact trivial))
  case zh =>
    (repeat' (first | exact trivial))
  case zr =>
  refine Aw.sm tab_ok mb0 [] rfl rfl ?zo ?zk
  case zo =>
    repeat' apply AllP.cons
    all_goals first | exact trivial | exact rfl | exact Nat.le_of_ble_eq_true rfl
  case zk =>
  refine Aw.sm tab_ok mb0 [] rfl rfl ?zo ?zk
  case zo =>
    repeat' apply AllP.cons
    all_goals first | exact trivial
  case zk =>
  refine Aw.sm tab_ok mb0 [] rfl rfl ?zo ?zk
  case zo =>
    repeat' apply AllP.cons
    all_goals first | exact trivial | exact rfl | exact Nat.le_of_ble_eq_true rfl
  case zk =>
  have h3e : ∀ id, 3 ≤ id → E.φ0 id = none := fun id _ => hE id (by omega)
  refine Aw.keep (n := 3) (cst := [(7, .ref 2 0)]) (v := []) (Hl := msH [] p) h3e ?zu ?zw ?zx ⟨?zc, ?zv, ?zh, Nat.le_of_ble_eq_true rfl⟩ ?zr
  case zu =>
    (repeat' (first | exact trivial | exact Under.ref _ _ (by decide) | (refine And.intro ?_ ?_)))
  case zw =>
    (repeat' (first | exact trivial))
  case zx =>
    (repeat' (first | exact trivial | exact Nat.le_of_ble_eq_true rfl | exact msMap_under _ | exact .cells _ (all1 (mostFn_under p (by omega))) | exact .cells _ (all1 (.mp _ (by omega))) | (refine And.intro ?_ ?_)))
  case zc =>
    (repeat' (first | (refine And.intro ?_ ?_) | exact trivial | exact A.Le.refl _))
  case zv =>
    (repeat' (first | exact trivial))
  case zh =>
    (repeat' (first | (refine And.intro ?_ ?_) | exact trivial | exact rfl))
  case zr =>
  have hn := hP.n
  have hcall := most_c p hP (p.st.length + 1) g0 [] (g0_ok p) (Nat.lt_succ_of_le (leftN_le p g0)) (fun _ h => nomatch h)
  have hml := mostG_len p g0
  refine Aw.ss rfl ?_
  refine RegL.partE tab_ok mb0 false 2 0 [] ?_
  conv => arg 5; whnf
  refine PartK.mk ?zo ?zk
  case zo =>
    repeat' apply AllP.cons
    all_goals first | exact trivial | exact Nat.le_of_ble_eq_true rfl
  case zk =>
  refine Does.raw rfl (DoesR.call (fst := []) (cap := [.ref 1 0, .pt p.c, .ref 2 0]) rfl rfl (enters_of Try.func68 rfl rfl) (most_frame (setA_free _) hcall (H := _) (c := _) ⟨rfl, rfl, rfl, trivial⟩) ?_)
  rintro v H' c' ⟨rfl, rfl, met1, hm1, rfl⟩
  refine RegL.partE tab_ok mb0 false 1 3 [] ?_
  conv => arg 5; whnf
  refine PartK.mk ?zo ?zk
  case zo =>
    repeat' apply AllP.cons
    all_goals first | exact trivial
  case zk =>
  generalize mostG p g0 = L at *
  have hu : ∀ {n : Nat}, Under n (setA L) := (setA_free L).under
  refine Aw.keep (n := 3) (cst := [(8, setA L)]) (v := []) (Hl := []) h3e ?zu ?zw ?zx ⟨?zc, ?zv, ?zh, Nat.le_of_ble_eq_true rfl⟩ ?zr
  case zu =>
    (repeat' (first | exact trivial | exact hu | (refine And.intro ?_ ?_)))
  case zw =>
    (repeat' (first | exact trivial))
  case zx =>
    (repeat' (first | exact trivial))
  case zc =>
    (repeat' (first | (refine And.intro ?_ ?_) | exact trivial | exact A.Le.refl _))
  case zv =>
    (repeat' (first | exact trivial))
  case zh =>
    (repeat' (first | exact trivial))
  case zr =>
  cases L with
  | nil =>
    refine Aw.seq ?_
    refine Aw.sm tab_ok mb0 [] rfl rfl ?zo ?zk
    case zo =>
      repeat' apply AllP.cons
      all_goals first | exact trivial
    case zk =>
    refine Aw.cond rfl (fun h => ?_) (fun h => by cases h)
    refine Aw.sm tab_ok mb0 [] rfl rfl ?zo ?zk
    case zo =>
      repeat' apply AllP.cons
      all_goals first | exact trivial
    case zk =>
    exact Aw.ret ⟨_, .cons (.tmp _) (.cons (.tmp _) .nil), rfl⟩
  | cons s L =>
    rw [if_neg (by simp)]
    refine Aw.seq ?_
    refine Aw.sm tab_ok mb0 [] rfl rfl ?zo ?zk
    case zo =>
      repeat' apply AllP.cons
      all_goals first | exact trivial
    case zk =>
    refine Aw.cond rfl (fun h => ?_) (fun h => Aw.skip ?_)
    · have h : ((((s :: L).map yS).length : Int) == 0) = true := h
      simp at h; omega
    have ht : ((s :: L).map yS).take (Int.toNat (((s :: L).map yS).length : Int)) = (s :: L).map yS := by rw [Int.toNat_natCast, List.take_length]
    refine Aw.sm tab_ok mb0 [] rfl rfl ?zo ?zk
    case zo =>
      repeat' apply AllP.cons
      all_goals first | exact trivial | exact rfl | exact Int.natCast_nonneg _ | exact Int.le_refl _
    case zk =>
    exact Aw.ret ⟨_, .cons (.tmp _) (.cons (.tmp _) .nil), by
      show A.tup [.sl false .exact (((s :: L).map yS).take (Int.toNat (((s :: L).map yS).length : Int))), .int 0] = _
      rw [ht]; rfl⟩
end Go.Proofs.Ytampldajinhenaa

namespace Go.Proofs.Ytampldajinhenaa
open Go Go.AL Go.AL.Q Go.AL.Br
def iB (l : List Int) : B := .cells (l.map A.int)
end Go.Proofs.Ytampldajinhenaa

namespace Go.Proofs.Ytampldajinhenaa
open Go Go.AL Go.AL.Q Go.AL.Br
end Go.Proofs.Ytampldajinhenaa

namespace Go.Proofs.Ytampldajinhenaa
open Go Go.AL Go.AL.Q Go.AL.Br
end Go.Proofs.Ytampldajinhenaa

namespace Go.Proofs.Ytampldajinhenaa
open Go Go.AL Go.AL.Q Go.AL.Br
end Go.Proofs.Ytampldajinhenaa

namespace Go.Proofs.Ytampldajinhenaa
open Go Go.AL Go.AL.Q Go.AL.Br
end Go.Proofs.Ytampldajinhenaa

