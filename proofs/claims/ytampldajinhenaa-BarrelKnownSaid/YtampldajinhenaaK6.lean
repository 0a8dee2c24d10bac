/- What the proof leans on, part 6: B18 B19 B20 BX. -/
import Derived.Test.YtampldajinhenaaK5
import Derived.Test.YtampldajinhenaaRows
set_option linter.all false
namespace Go.Proofs.Ytampldajinhenaa
open Go Go.AL Go.AL.Q Go.AL.Br
theorem B.Le.front {l j : List A} : B.Le (.cells l) (.cells (l ++ j)) := ⟨fun φ Z w b hb => by
    obtain ⟨c, T, h1, h2, h3⟩ := hb
    refine ⟨c, T, h1, by rw [List.length_append] at h2; omega, fun i hi => ?_⟩
    have := h3 i (by rw [List.length_append]; omega)
    rwa [List.getD_eq_getElem?_getD, List.getElem?_append_left hi, ← List.getD_eq_getElem?_getD] at this, fun i v p hp => by
    by_cases hi : i < l.length
    · simp only [cellOf, List.getD_eq_getElem?_getD] at hp ⊢
      rwa [List.getElem?_append_left hi]
    · simp [cellOf, List.getD_eq_getElem?_getD, List.getElem?_eq_none (Nat.le_of_not_lt hi), spareOf] at hp⟩
def grV : Nat → Nat → A
  | 0, _ => .sl true .exact []
  | k + 1, cap => .gs 0 (k + 1) cap
def grH (l : List Int) : Nat → Nat → List (Nat × B)
  | 0, _ => []
  | k + 1, cap => [(0, .cells ((l.take (k + 1)).map A.int ++ List.replicate (cap - (k + 1)) A.un))]
theorem grV_under (k cap : Nat) : Under 1 (grV k cap) := by
  cases k with
  | zero => exact (Free.sl _ _ _ (fun _ h => by cases h)).under
  | succ k => exact .gs _ _ _ (by decide)
theorem jB_under (l : List Int) (m : Nat) {n : Nat} : UnderB n (.cells (l.map A.int ++ List.replicate m A.un)) := .cells _ fun x hx => by
  rcases List.mem_append.1 hx with h | h
  · obtain ⟨v, _, rfl⟩ := List.mem_map.1 h; exact .s _
  · rw [List.mem_replicate] at h; rw [h.2]; exact .un
theorem grH_under (l : List Int) (k cap : Nat) : UnderH 1 (grH l k cap) := by
  cases k with
  | zero => trivial
  | succ k => exact ⟨⟨by decide, jB_under _ _⟩, trivial⟩
theorem lows_get {ms : List Mv} {k : Nat} (h : k < ms.length) : (lows ms).take (k + 1) = (lows ms).take k ++ [ms[k].lo] := by
  have : k < (lows ms).length := by simpa [lows] using h
  rw [List.take_succ_eq_append_getElem this]; simp [lows]
theorem nms_ofLB {D : Nat → Prop} : ∀ {l : List (Nat × A)}, (∀ p ∈ l, Nms D p.2) → ∀ t, Nms D (ofL l t)
  | [], _, t => .un
  | (i, x) :: l, h, t => by
    simp only [ofL, upd_apply]
    split
    · exact h (i, x) (List.mem_cons_self ..)
    · exact nms_ofLB (fun p hp => h p (List.mem_cons_of_mem _ hp)) t
theorem take_app {l j : List A} : ∀ (n : Nat), l.length = n → (l ++ j).take n = l := fun n h => by subst h; exact List.take_left ..
def balA (r : Option (List Int) × Int) : A := match r.1 with
  | some cs => .tup [.sl false .any (ints cs), .int 0]
  | none => .tup [.sl true .exact [], .int r.2]
theorem balA_free (r : Option (List Int) × Int) : Free (balA r) := by
  unfold balA
  split
  · exact .tup _ (allC (free_ints _ _ _) (all1 (.s _)))
  · exact .tup _ (allC (.sl _ _ _ (fun _ h => by cases h)) (all1 (.s _)))
theorem at0 {cs : List Int} {g : FuncId} {args : List A} {v : A} (h : RCall Try.prog g args (ofH [(0, iB cs)]) v) {H : Hp} (hH : H 0 = some (iB cs)) : RCall Try.prog g args (onlyL H (idsOf [.mp 0])) v :=
  h.le rfl (fun _ _ => .refl _) fun id bx hb => by
    simp only [ofH, updH_apply] at hb
    split at hb
    · rename_i e
      cases hb; subst e; exact hH
    · cases hb
theorem firstPos_at {L : List Int} {k : Nat} (hk : k < L.length) (h : ∀ i, i < k → ¬ L.getD i 0 > 0) (hp : L.getD k 0 > 0) : firstPos L = some k := by
  unfold firstPos
  refine List.findIdx?_eq_some_iff_getElem.2 ⟨hk, ?_, fun j hj => ?_⟩
  · have e : L.getD k 0 = L[k] := by simp [List.getD_eq_getElem?_getD, hk]
    rw [← e]; exact decide_eq_true hp
  · have := h j hj
    have hj2 : j < L.length := by omega
    have e : L.getD j 0 = L[j] := by simp [List.getD_eq_getElem?_getD, hj2]
    rw [e] at this
    simpa using this
theorem firstPos_no {L : List Int} (h : ∀ i, i < L.length → ¬ L.getD i 0 > 0) : firstPos L = none := by
  unfold firstPos
  refine List.findIdx?_eq_none_iff.2 fun x hx => ?_
  obtain ⟨i, hi, rfl⟩ := List.getElem_of_mem hx
  have := h i hi
  have e : L.getD i 0 = L[i] := by simp [List.getD_eq_getElem?_getD, hi]
  rw [e] at this
  simpa using this
def fpI : Option Nat → Int
  | some k => k
  | none => -1
def ngV : Option (List Stp) → List (Nat × A)
  | some _ => [(11, .bool true)]
  | none => [(11, .bool false), (12, .mp 1)]
def ngH (cs r2 : List Int) : Option (List Stp) → List (Nat × B)
  | some l => [(0, iB (walkF cs l))]
  | none => [(0, iB cs), (1, .map (setI r2))]
theorem ngV_under (o : Option (List Stp)) : UnderL 2 (ngV o) := by
  cases o with
  | some l => exact ⟨.s _, trivial⟩
  | none => exact ⟨.s _, .mp _ (by decide), trivial⟩
theorem ngH_under (cs r2 : List Int) (o : Option (List Stp)) : UnderH 2 (ngH cs r2 o) := by
  cases o with
  | some l => exact ⟨⟨by decide, iB_under _⟩, trivial⟩
  | none => exact ⟨⟨by decide, iB_under _⟩, ⟨by decide, setI_under _⟩, trivial⟩
def prStep (rch : List Int) (p : Int) (s : Nat) : Int := if rch.contains (s : Int) then p else p + 2 ^ s
theorem pr_bd (rch : List Int) : ∀ k : Nat, k ≤ 6 → 0 ≤ (List.range k).foldl (prStep rch) 0 ∧ (List.range k).foldl (prStep rch) 0 < 2 ^ k
  | 0, _ => ⟨Int.le_refl _, by show (0 : Int) < 2 ^ 0; decide⟩
  | k + 1, h => by
    have ih := pr_bd rch k (by omega)
    rw [List.range_succ, List.foldl_append]
    show 0 ≤ prStep rch _ k ∧ prStep rch _ k < _
    unfold prStep at ih ⊢
    have e : (2 : Int) ^ (k + 1) = 2 ^ k * 2 := Int.pow_succ ..
    split <;> omega
set_option maxHeartbeats 4000000 in
theorem balanced_t (b : Book) (hb : b.Ok) : Ans Try.prog 83 [.agg b.c] (balA (BalW b)) := by
  have hn := hb.n
  have hbl := hb.l
  have hfr := balA_free (BalW b)
  have lm : ((b.ms.map Mv.c).length : Int) = b.ms.length := by simp
  have um : ∀ {n : Nat}, Under n (A.sl b.nn .any (b.ms.map Mv.c)) := (free_map Mv.free _ _ _).under
  have ub : ∀ {n : Nat}, Under n (A.pt b.c) := (Free.pt _ b.free).under
  have uf : ∀ {n : Nat}, Under n (A.fn (.func 88) [] []) := (Free.fn _ _ _ allN allN).under
  unfold BalW
  generalize hR : balF b.n b.ms (phi b.n b.ms (lows b.ms) + 1) (lows b.ms) = R at *
  refine told Try.func83 rfl rfl (Pure.of tab_ok Try.func83 rfl Try.ntmps83 rfl (all1 (.agg _ b.free)) (all1 fun _ => rfl) (hR ▸ hfr) fun E hE => ?_)
  refine Aw.sm tab_ok mb0 [] rfl rfl ?zo ?zk
  case zo =>
    repeat' apply AllP.cons
    all_goals first | exact trivial
  case zk =>
  refine Aw.sm tab_ok mb0 [] rfl rfl ?zo ?zk
  case zo =>
    repeat' apply AllP.cons
    all_goals first | exact trivial
  case zk =>
  have h1e : ∀ id, 1 ≤ id → E.φ0 id = none := fun id _ => hE id (by omega)
  refine Aw.seq ?_
  refine Aw.sm tab_ok mb0 [] rfl rfl ?zo ?zk
  case zo =>
    repeat' apply AllP.cons
    all_goals first | exact trivial | exact Nat.le_of_ble_eq_true rfl
  case zk =>
  refine Aw.raise (c' := 1) (Nat.le_of_ble_eq_true rfl) ?_
  refine Aw.block (Aw.rounds 1 h1e [(1, .pt b.c), (3, .int 0), (4, .fn (.func 88) [] []), (19, .sl b.nn .any (b.ms.map Mv.c)), (20, .int b.ms.length)] (fun i : (Nat×Nat) => [(2, grV i.1 i.2), (21, .int i.1)]) (fun i => grH (lows b.ms) i.1 i.2) (fun i => i.1 ≤ b.ms.length ∧ (i.1 ≠ 0 → i.1 ≤ i.2)) (fun i => b.ms.length - i.1) (0, 0) ?zg ⟨?zc, ?zv, ?zh, Nat.le_of_ble_eq_true rfl⟩ ?zu (fun i zhk => ?zw) (fun i zhk => ?zx) fun i hk => ?zr)
  case zg =>
    (repeat' (first | exact ⟨Nat.zero_le _, fun h => absurd rfl h⟩))
  case zc =>
    (repeat' (first | (refine And.intro ?_ ?_) | exact trivial | exact A.Le.refl _ | exact .of_eq (congrArg A.int lm.symm)))
  case zv =>
    (repeat' (first | (refine And.intro ?_ ?_) | exact trivial | exact A.Le.refl _))
  case zh =>
    (repeat' (first | exact trivial))
  case zu =>
    (repeat' (first | exact trivial | exact Under.s _ | exact um | exact ub | exact uf | (refine And.intro ?_ ?_)))
  case zw =>
    (repeat' (first | exact trivial | exact Under.s _ | exact grV_under _ _ | (refine And.intro ?_ ?_)))
  case zx =>
    (repeat' (first | exact grH_under _ _ _))
  case zr =>
  obtain ⟨k, cap⟩ := i
  obtain ⟨hk, hcap⟩ := hk
  simp only at hk hcap
  refine Aw.sm tab_ok mb0 [] rfl rfl ?zo ?zk
  case zo =>
    repeat' apply AllP.cons
    all_goals first | exact trivial
  case zk =>
  refine Aw.seq (Aw.cond rfl (fun h1 => Aw.skip1 ?_) (fun h1 => Aw.exit2 ?_))
  · have hlt : k < b.ms.length := by have := of_decide_eq_true h1; omega
    have hgm := mv_at hlt
    have hlg := lows_get hlt
    have hll : ((lows b.ms).take k).length = k := by rw [List.length_take]; simp [lows]; omega
    generalize b.ms[k] = m at *
    have hlo := least_t m
    have ump : ∀ {n : Nat}, Under n (A.pt m.c) := (Free.pt _ m.free).under
    refine Aw.seq (Aw.block ?_)
    refine Aw.sm tab_ok mb0 [(0, m.c)] rfl rfl ?zo ?zk
    case zo =>
      repeat' apply AllP.cons
      all_goals first | exact trivial | exact rfl | exact Nat.le_of_ble_eq_true rfl | exact Int.natCast_nonneg _ | exact hgm
    case zk =>
    refine Aw.freeze (id := 1) (t := 6) (cs := m.c) rfl rfl ?_
    have hnil : ∀ {n : Nat}, Under n (A.sl true .exact []) := (Free.sl _ _ _ (fun _ h => by cases h)).under
    have e0 : E.φ0 0 = none := hE 0 (Nat.le_refl _)
    have h2e : ∀ id, 2 ≤ id → E.φ0 id = none := fun id _ => hE id (by omega)
    have hone : ∀ z ∈ [[A.int m.lo]], z.length = 1 := fun z hz => by simp at hz; subst hz; rfl
    cases k with
    | zero =>
      refine Aw.keep (n := 1) (cst := [(1, .pt b.c), (3, .int 0), (2, .sl true .exact []), (4, .fn (.func 88) [] []), (6, .pt m.c), (19, .sl b.nn .any (b.ms.map Mv.c)), (20, .int b.ms.length), (21, .int ((0 : Nat) : Int))]) (v := []) (Hl := []) h1e ?zu ?zw ?zx ⟨?zc, ?zv, ?zh, Nat.le_of_ble_eq_true rfl⟩ ?zr
      case zu =>
        (repeat' (first | exact trivial | exact Under.s _ | exact um | exact ub | exact uf | exact ump | exact hnil | (refine And.intro ?_ ?_)))
      case zw =>
        (repeat' (first | exact trivial))
      case zx =>
        (repeat' (first | exact trivial))
      case zc =>
        (repeat' (first | (refine And.intro ?_ ?_) | exact trivial | exact A.Le.refl _))
      case zv =>
        (repeat' (first | exact trivial))
      case zh =>
        (repeat' (first | exact trivial))
      case zr =>
      refine Aw.es rfl ?_
      refine RegL.partE tab_ok mb0 false 6 0 [(4, [.int m.lo])] ?_
      conv => arg 5; whnf
      refine PartK.mk ?zo ?zk
      case zo =>
        repeat' apply AllP.cons
        all_goals first | exact trivial | exact Nat.le_of_ble_eq_true rfl | exact hlo
      case zk =>
      refine Does.raw rfl (DoesR.appNil tab_ok (ys := [[A.int m.lo]]) rfl rfl rfl (fun h => by cases h) (by decide) rfl rfl (by simp) hone (Nat.le_of_ble_eq_true rfl) (Nat.le_of_ble_eq_true rfl) (fun cap1 hcap1 => ?_))
      refine RegL.partE tab_ok mb0 false 1 7 [] ?_
      conv => arg 5; whnf
      refine PartK.mk ?zo ?zk
      case zo =>
        repeat' apply AllP.cons
        all_goals first | exact trivial
      case zk =>
      have hcap1 : 0 + 1 ≤ cap1 := hcap1
      have hcell : B.cells (([[A.int m.lo]] : List (List A)).flatten.map A.down ++ List.replicate ((cap1 - 1) * 1) A.un) = .cells (((lows b.ms).take (0 + 1)).map A.int ++ List.replicate (cap1 - (0 + 1)) A.un) := by
        rw [hlg, Nat.mul_one]; rfl
      refine Aw.keep (n := 2) (cst := [(1, .pt b.c), (3, .int 0), (4, .fn (.func 88) [] []), (19, .sl b.nn .any (b.ms.map Mv.c)), (20, .int b.ms.length), (21, .int 0), (2, .gs 1 (0 + 1) cap1)]) (v := []) (Hl := [(1, .cells (((lows b.ms).take (0 + 1)).map A.int ++ List.replicate (cap1 - (0 + 1)) A.un))]) h2e ?zu ?zw ?zx ⟨?zc, ?zv, ?zh, Nat.le_of_ble_eq_true rfl⟩ ?zr
      case zu =>
        (repeat' (first | exact trivial | exact Under.s _ | exact um | exact ub | exact uf | exact .gs _ _ _ (by decide) | (refine And.intro ?_ ?_)))
      case zw =>
        (repeat' (first | exact trivial))
      case zx =>
        (repeat' (first | exact trivial | exact Nat.le_of_ble_eq_true rfl | exact jB_under _ _ | (refine And.intro ?_ ?_)))
      case zc =>
        (repeat' (first | (refine And.intro ?_ ?_) | exact trivial | exact A.Le.refl _))
      case zv =>
        (repeat' (first | exact trivial))
      case zh =>
        (repeat' (first | (refine And.intro ?_ ?_) | exact trivial | exact congrArg some hcell))
      case zr =>
      refine Aw.renameS (id1 := 1) (id2 := 0) (j := 2) rfl rfl (by decide) rfl e0 (Nat.le_of_ble_eq_true rfl) (nms_ofLB (fun p hp => ?_)) (fun id bx hb => ?_) (fun v hv u => ?_) ?_
      · simp only [List.nil_append, List.mem_cons, List.not_mem_nil, or_false] at hp
        rcases hp with rfl | rfl | rfl | rfl | rfl | rfl | rfl
        · exact (Free.pt _ b.free).nms
        · exact .s _
        · exact (Free.fn _ _ _ allN allN).nms
        · exact (free_map Mv.free _ _ _).nms
        · exact .s _
        · exact .s _
        · exact .gs _ _ _ (by decide)
      · simp only [ofH, updH_apply] at hb
        split at hb
        · cases hb
          exact .cells _ fun x hx => by
            rcases List.mem_append.1 hx with h | h
            · obtain ⟨v, _, rfl⟩ := List.mem_map.1 h; exact .s _
            · rw [List.mem_replicate] at h; rw [h.2]; exact .un
        · cases hb
      · rcases List.mem_append.1 hv with h | h
        · obtain ⟨v, _, rfl⟩ := List.mem_map.1 h; rfl
        · rw [List.mem_replicate] at h; rw [h.2]; rfl
      refine Aw.em tab_ok mb0 [] rfl rfl ?zo ?zk
      case zo =>
        repeat' apply AllP.cons
        all_goals first | exact trivial | exact inrk 0 (by decide)
      case zk =>
      refine ⟨(0 + 1, cap1), ?zg, ?zm, ⟨?zc, ?zv, ?zh, Nat.le_of_ble_eq_true rfl⟩⟩
      case zg =>
        (repeat' (first | omega))
      case zm =>
        (repeat' (first | omega))
      case zc =>
        (repeat' (first | (refine And.intro ?_ ?_) | exact trivial | exact A.Le.refl _))
      case zv =>
        (repeat' (first | (refine And.intro ?_ ?_) | exact trivial | exact A.Le.refl _))
      case zh =>
        (repeat' (first | (refine And.intro ?_ ?_) | exact trivial | exact rfl))
    | succ k =>
      have hcap := hcap (by omega)
      refine Aw.keep (n := 1) (cst := [(1, .pt b.c), (3, .int 0), (2, .gs 0 (k + 1) cap), (4, .fn (.func 88) [] []), (6, .pt m.c), (19, .sl b.nn .any (b.ms.map Mv.c)), (20, .int b.ms.length), (21, .int ((k + 1 : Nat) : Int))]) (v := []) (Hl := [(0, .cells (((lows b.ms).take (k + 1)).map A.int ++ List.replicate (cap - (k + 1)) A.un))]) h1e ?zu ?zw ?zx ⟨?zc, ?zv, ?zh, Nat.le_of_ble_eq_true rfl⟩ ?zr
      case zu =>
        (repeat' (first | exact trivial | exact Under.s _ | exact um | exact ub | exact uf | exact ump | exact .gs _ _ _ (by decide) | (refine And.intro ?_ ?_)))
      case zw =>
        (repeat' (first | exact trivial))
      case zx =>
        (repeat' (first | exact trivial | exact Nat.le_of_ble_eq_true rfl | exact jB_under _ _ | (refine And.intro ?_ ?_)))
      case zc =>
        (repeat' (first | (refine And.intro ?_ ?_) | exact trivial | exact A.Le.refl _))
      case zv =>
        (repeat' (first | exact trivial))
      case zh =>
        (repeat' (first | (refine And.intro ?_ ?_) | exact trivial | exact rfl))
      case zr =>
      have hcl : (((lows b.ms).take (k + 1)).map A.int ++ List.replicate (cap - (k + 1)) A.un).length = cap * 1 := by
        rw [List.length_append, List.length_map, List.length_replicate, hll]; omega
      have hml : (((lows b.ms).take (k + 1)).map A.int).length = k + 1 := by rw [List.length_map]; exact hll
      have hdn : ∀ l : List Int, (l.map A.int).map A.down = l.map A.int := fun l => map_down_int l
      refine Aw.es rfl ?_
      refine RegL.partE tab_ok mb0 false 6 0 [(4, [.int m.lo])] ?_
      conv => arg 5; whnf
      refine PartK.mk ?zo ?zk
      case zo =>
        repeat' apply AllP.cons
        all_goals first | exact trivial | exact Nat.le_of_ble_eq_true rfl | exact hlo
      case zk =>
      refine Does.raw rfl (DoesR.appGs tab_ok (ys := [[A.int m.lo]]) (id := 0) (n := k + 1) (cap := cap) rfl rfl rfl (fun h => by cases h) (by decide) rfl rfl hcl rfl (by simp) hone (show (k + 1 + 1) * 8 ≤ 140737488355328 by omega) (show k + 1 + 1 ≤ maxLen by unfold maxLen; omega) (fun hroom => ?_) (fun cap1 hcap1 => ?_))
      · have hroom : k + 1 + 1 ≤ cap := hroom
        have hcell : B.cells (setSeg (((lows b.ms).take (k + 1)).map A.int ++ List.replicate (cap - (k + 1)) A.un) ((k + 1) * 1) (([[A.int m.lo]] : List (List A)).flatten.map A.down)) = .cells (((lows b.ms).take (k + 1 + 1)).map A.int ++ List.replicate (cap - (k + 1 + 1)) A.un) := by
          have e1 : setSeg (((lows b.ms).take (k + 1)).map A.int ++ List.replicate (cap - (k + 1)) A.un) ((k + 1) * 1) [A.int m.lo] = ((lows b.ms).take (k + 1)).map A.int ++ ((List.replicate (cap - (k + 1)) A.un).set 0 (A.int m.lo)) := by
            have := setSeg_app (l := ((lows b.ms).take (k + 1)).map A.int) (r := List.replicate (cap - (k + 1)) A.un) (v := A.int m.lo) (i := 0) (by rw [List.length_replicate]; omega)
            rw [hml, Nat.add_zero] at this
            rw [Nat.mul_one]; exact this
          show B.cells (setSeg _ _ [A.int m.lo]) = _
          rw [e1, hlg, List.map_append, List.append_assoc]
          congr 2
          obtain ⟨q, hq⟩ : ∃ q, cap - (k + 1) = q + 1 := ⟨cap - (k + 1) - 1, by omega⟩
          rw [hq, show cap - (k + 1 + 1) = q by omega]; rfl
        refine RegL.partE tab_ok mb0 false 1 7 [] ?_
        conv => arg 5; whnf
        refine PartK.mk ?zo ?zk
        case zo =>
          repeat' apply AllP.cons
          all_goals first | exact trivial
        case zk =>
        refine Aw.em tab_ok mb0 [] rfl rfl ?zo ?zk
        case zo =>
          repeat' apply AllP.cons
          all_goals first | exact trivial | exact inrk (k + 1) (by omega)
        case zk =>
        refine ⟨(k + 1 + 1, cap), ?zg, ?zm, ⟨?zc, ?zv, ?zh, Nat.le_of_ble_eq_true rfl⟩⟩
        case zg =>
          (repeat' (first | omega))
        case zm =>
          (repeat' (first | omega))
        case zc =>
          (repeat' (first | (refine And.intro ?_ ?_) | exact trivial | exact A.Le.refl _))
        case zv =>
          (repeat' (first | (refine And.intro ?_ ?_) | exact trivial | exact A.Le.refl _))
        case zh =>
          (repeat' (first | (refine And.intro ?_ ?_) | exact trivial | exact congrArg some hcell))
      · have hcap1 : k + 1 + 1 ≤ cap1 := hcap1
        have hcell : B.cells ((((lows b.ms).take (k + 1)).map A.int ++ List.replicate (cap - (k + 1)) A.un).take ((k + 1) * 1) |>.map A.down |> fun z => z ++ ([[A.int m.lo]] : List (List A)).flatten.map A.down ++ List.replicate ((cap1 - (k + 1 + 1)) * 1) A.un) = .cells (((lows b.ms).take (k + 1 + 1)).map A.int ++ List.replicate (cap1 - (k + 1 + 1)) A.un) := by
          show B.cells (((((lows b.ms).take (k + 1)).map A.int ++ List.replicate (cap - (k + 1)) A.un).take ((k + 1) * 1)).map A.down ++ [A.int m.lo] ++ List.replicate ((cap1 - (k + 1 + 1)) * 1) A.un) = _
          rw [Nat.mul_one, Nat.mul_one, take_app _ hml, hdn, hlg, List.map_append]; rfl
        refine RegL.partE tab_ok mb0 false 1 7 [] ?_
        conv => arg 5; whnf
        refine PartK.mk ?zo ?zk
        case zo =>
          repeat' apply AllP.cons
          all_goals first | exact trivial
        case zk =>
        refine Aw.keep (n := 2) (cst := [(1, .pt b.c), (3, .int 0), (4, .fn (.func 88) [] []), (19, .sl b.nn .any (b.ms.map Mv.c)), (20, .int b.ms.length), (21, .int ((k + 1 : Nat) : Int)), (2, .gs 1 (k + 1 + 1) cap1)]) (v := []) (Hl := [(1, .cells (((lows b.ms).take (k + 1 + 1)).map A.int ++ List.replicate (cap1 - (k + 1 + 1)) A.un))]) h2e ?zu ?zw ?zx ⟨?zc, ?zv, ?zh, Nat.le_of_ble_eq_true rfl⟩ ?zr
        case zu =>
          (repeat' (first | exact trivial | exact Under.s _ | exact um | exact ub | exact uf | exact .gs _ _ _ (by decide) | (refine And.intro ?_ ?_)))
        case zw =>
          (repeat' (first | exact trivial))
        case zx =>
          (repeat' (first | exact trivial | exact Nat.le_of_ble_eq_true rfl | exact jB_under _ _ | (refine And.intro ?_ ?_)))
        case zc =>
          (repeat' (first | (refine And.intro ?_ ?_) | exact trivial | exact A.Le.refl _))
        case zv =>
          (repeat' (first | exact trivial))
        case zh =>
          (repeat' (first | (refine And.intro ?_ ?_) | exact trivial | exact congrArg some hcell))
        case zr =>
        refine Aw.renameS (id1 := 1) (id2 := 0) (j := 2) rfl rfl (by decide) rfl e0 (Nat.le_of_ble_eq_true rfl) (nms_ofLB (fun p hp => ?_)) (fun id bx hb => ?_) (fun v hv u => ?_) ?_
        · simp only [List.nil_append, List.mem_cons, List.not_mem_nil, or_false] at hp
          rcases hp with rfl | rfl | rfl | rfl | rfl | rfl | rfl
          · exact (Free.pt _ b.free).nms
          · exact .s _
          · exact (Free.fn _ _ _ allN allN).nms
          · exact (free_map Mv.free _ _ _).nms
          · exact .s _
          · exact .s _
          · exact .gs _ _ _ (by decide)
        · simp only [ofH, updH_apply] at hb
          split at hb
          · cases hb
            exact .cells _ fun x hx => by
              rcases List.mem_append.1 hx with h | h
              · obtain ⟨v, _, rfl⟩ := List.mem_map.1 h; exact .s _
              · rw [List.mem_replicate] at h; rw [h.2]; exact .un
          · cases hb
        · rcases List.mem_append.1 hv with h | h
          · obtain ⟨v, _, rfl⟩ := List.mem_map.1 h; rfl
          · rw [List.mem_replicate] at h; rw [h.2]; rfl
        refine Aw.em tab_ok mb0 [] rfl rfl ?zo ?zk
        case zo =>
          repeat' apply AllP.cons
          all_goals first | exact trivial | exact inrk (k + 1) (by omega)
        case zk =>
        refine ⟨(k + 1 + 1, cap1), ?zg, ?zm, ⟨?zc, ?zv, ?zh, Nat.le_of_ble_eq_true rfl⟩⟩
        case zg =>
          (repeat' (first | omega))
        case zm =>
          (repeat' (first | omega))
        case zc =>
          (repeat' (first | (refine And.intro ?_ ?_) | exact trivial | exact A.Le.refl _))
        case zv =>
          (repeat' (first | (refine And.intro ?_ ?_) | exact trivial | exact A.Le.refl _))
        case zh =>
          (repeat' (first | (refine And.intro ?_ ?_) | exact trivial | exact rfl))
  have hle : k = b.ms.length := by have := of_decide_eq_false h1; omega
  subst hle
  cases hkz : b.ms.length with
  | zero => omega
  | succ k =>
  rw [← hkz]
  have hll : (lows b.ms).length = b.ms.length := by simp [lows]
  refine Aw.keep (n := 1) (cst := [(1, .pt b.c), (3, .int 0), (2, .ms 0 0 b.ms.length)]) (v := []) (Hl := [(0, .cells ((lows b.ms).map A.int ++ List.replicate (cap - b.ms.length) A.un))]) h1e ?zu ?zw ?zx ⟨?zc, ?zv, ?zh, Nat.le_of_ble_eq_true rfl⟩ ?zr
  case zu =>
    (repeat' (first | exact trivial | exact Under.s _ | exact Under.ms _ _ _ (by decide) | exact ub | (refine And.intro ?_ ?_)))
  case zw =>
    (repeat' (first | exact trivial))
  case zx =>
    (repeat' (first | exact trivial | exact Nat.le_of_ble_eq_true rfl | exact jB_under _ _ | (refine And.intro ?_ ?_)))
  case zc =>
    (repeat' (first | (refine And.intro ?_ ?_) | exact trivial | exact A.Le.refl _ | exact (by rw [hkz]; exact A.Le.ms _ _ _)))
  case zv =>
    (repeat' (first | exact trivial))
  case zh =>
    (repeat' (first | (refine And.intro ?_ ?_) | exact trivial | exact (by rw [hkz]; show some _ = some _; rw [← hkz, ← hll, List.take_length])))
  case zr =>
  refine Aw.weaken (S' := _) (H' := ofH [(0, iB (lows b.ms))]) (c' := 1) (fun _ => .refl _) (fun id bx hb => ?_) (Nat.le_refl _) ?_
  · simp only [ofH, updH_apply] at hb ⊢
    split at hb
    · rename_i e
      cases hb
      rw [if_pos e]
      exact ⟨_, rfl, B.Le.front⟩
    · cases hb
  refine Aw.sm tab_ok mb0 [] rfl rfl ?zo ?zk
  case zo =>
    repeat' apply AllP.cons
    all_goals first | exact trivial | exact Nat.le_of_ble_eq_true rfl
  case zk =>
  have us : ∀ {n : Nat}, 1 ≤ n → Under n (A.ms 0 0 b.ms.length) := fun h => .ms _ _ _ (by omega)
  have uw : ∀ {n : Nat}, Under n (A.fn (.func 97) [.agg b.c] []) := (Free.fn _ _ _ (all1 (.agg _ b.free)) allN).under
  refine Aw.block (Aw.rounds 1 h1e [(1, .pt b.c), (3, .int 0), (2, .ms 0 0 b.ms.length), (7, .fn (.func 97) [.agg b.c] [])] (fun i : (Nat×List Int) => []) (fun i => [(0, iB i.2)]) (fun i => Feas b.ms i.2 ∧ phi b.n b.ms i.2 < i.1 ∧ balF b.n b.ms i.1 i.2 = R) (fun i => i.1) (phi b.n b.ms (lows b.ms) + 1, lows b.ms) ?zg ⟨?zc, ?zv, ?zh, Nat.le_of_ble_eq_true rfl⟩ ?zu (fun i zhk => ?zw) (fun i zhk => ?zx) fun i hk => ?zr)
  case zg =>
    (repeat' (first | exact ⟨lows_feas hb.m, Nat.lt_succ_self _, hR⟩))
  case zc =>
    (repeat' (first | (refine And.intro ?_ ?_) | exact trivial | exact A.Le.refl _))
  case zv =>
    (repeat' (first | exact trivial))
  case zh =>
    (repeat' (first | (refine And.intro ?_ ?_) | exact trivial | exact rfl))
  case zu =>
    (repeat' (first | exact trivial | exact Under.s _ | exact Under.ms _ _ _ (by decide) | exact ub | exact uw | (refine And.intro ?_ ?_)))
  case zw =>
    (repeat' (first | exact trivial))
  case zx =>
    (repeat' (first | exact trivial | exact Nat.le_of_ble_eq_true rfl | exact iB_under _ | (refine And.intro ?_ ?_)))
  case zr =>
  obtain ⟨f, cs⟩ := i
  obtain ⟨hfe, hph, hrun⟩ := hk
  simp only at hfe hph hrun
  cases f with
  | zero => omega
  | succ f =>
  rw [balF] at hrun
  have hcl : cs.length = b.ms.length := by have := hfe.l; omega
  have hov := over_r b hb cs (hfe.cs hb.m)
  rw [hcl] at hov
  have hst := fun a ha l hl => bal_step hb.n hb.m hfe (a := a) ha (l := l) hl
  have hLl := ovL_len b.n b.ms cs
  generalize ovL b.n b.ms cs = L at *
  have uL : ∀ {n : Nat}, Under n (A.sl false .any (ints L)) := (free_ints _ _ _).under
  refine Aw.block ?_
  refine Aw.sm tab_ok mb0 [(2, [.sl false .any (ints L), .tup [.mp 0]])] rfl rfl ?zo ?zk
  case zo =>
    repeat' apply AllP.cons
    all_goals first | exact trivial | exact Nat.le_of_ble_eq_true rfl | exact at0 hov rfl
  case zk =>
  refine Aw.sm tab_ok mb0 [] rfl rfl ?zo ?zk
  case zo =>
    repeat' apply AllP.cons
    all_goals first | exact trivial
  case zk =>
  refine Aw.join1 1 h1e [(1, .pt b.c), (3, .int 0), (2, .ms 0 0 b.ms.length), (7, .fn (.func 97) [.agg b.c] []), (8, .sl false .any (ints L))] [(9, .int (fpI (firstPos L)))] [(0, iB cs)] ⟨ub, .s _, us (by decide), uw, uL, trivial⟩ ⟨.s _, trivial⟩ ⟨⟨by decide, iB_under _⟩, trivial⟩ ?_ ?_
  · refine Aw.sm tab_ok mb0 [] rfl rfl ?zo ?zk
    case zo =>
      repeat' apply AllP.cons
      all_goals first | exact trivial | exact Nat.le_of_ble_eq_true rfl
    case zk =>
    refine Aw.block (Aw.rounds 1 h1e [(1, .pt b.c), (3, .int 0), (2, .ms 0 0 b.ms.length), (7, .fn (.func 97) [.agg b.c] []), (8, .sl false .any (ints L)), (40, .int b.n)] (fun k : Nat => [(9, .int (-1)), (41, .int k)]) (fun k => [(0, iB cs)]) (fun k => k ≤ b.n.toNat ∧ ∀ i, i < k → ¬ L.getD i 0 > 0) (fun k => b.n.toNat - k) 0 ?zg ⟨?zc, ?zv, ?zh, Nat.le_of_ble_eq_true rfl⟩ ?zu (fun k zhk => ?zw) (fun k zhk => ?zx) fun k hk => ?zr)
    case zg =>
      (repeat' (first | exact ⟨Nat.zero_le _, fun i h => by omega⟩))
    case zc =>
      (repeat' (first | (refine And.intro ?_ ?_) | exact trivial | exact A.Le.refl _))
    case zv =>
      (repeat' (first | (refine And.intro ?_ ?_) | exact trivial | exact A.Le.refl _))
    case zh =>
      (repeat' (first | (refine And.intro ?_ ?_) | exact trivial | exact rfl))
    case zu =>
      (repeat' (first | exact trivial | exact Under.s _ | exact (free_ints _ _ _).under | exact Under.ms _ _ _ (by decide) | exact ub | exact uw | (refine And.intro ?_ ?_)))
    case zw =>
      (repeat' (first | exact trivial | exact Under.s _ | (refine And.intro ?_ ?_)))
    case zx =>
      (repeat' (first | exact trivial | exact Nat.le_of_ble_eq_true rfl | exact iB_under _ | (refine And.intro ?_ ?_)))
    case zr =>
    obtain ⟨hk, hno⟩ := hk
    refine Aw.sm tab_ok mb0 [] rfl rfl ?zo ?zk
    case zo =>
      repeat' apply AllP.cons
      all_goals first | exact trivial
    case zk =>
    refine Aw.seq (Aw.cond rfl (fun h1 => Aw.skip1 ?_) (fun h1 => Aw.exit2 ?_))
    · have hlt : k < b.n.toNat := by have := of_decide_eq_true h1; omega
      have hg := ints_getD (l := L) (k := k) (by omega)
      refine Aw.seq (Aw.block ?_)
      refine Aw.sm tab_ok mb0 [] rfl rfl ?zo ?zk
      case zo =>
        repeat' apply AllP.cons
        all_goals first | exact trivial
      case zk =>
      refine Aw.sm tab_ok mb0 [(2, [.int (L.getD k 0)])] rfl rfl ?zo ?zk
      case zo =>
        repeat' apply AllP.cons
        all_goals first | exact trivial | exact rfl | exact Nat.le_of_ble_eq_true rfl | exact Int.natCast_nonneg _ | exact hg
      case zk =>
      refine Aw.cond rfl (fun h2 => ?_) (fun h2 => Aw.skip ?_)
      · have h2 : L.getD k 0 > 0 := of_decide_eq_true h2
        refine Aw.sm tab_ok mb0 [] rfl rfl ?zo ?zk
        case zo =>
          repeat' apply AllP.cons
          all_goals first | exact trivial
        case zk =>
        rw [firstPos_at (by omega) hno h2]
        refine Aw.exit (blkN rfl (thenE (thenE (blkE ?_))))
        exact ⟨⟨.refl _, .refl _, .refl _, .refl _, .refl _, trivial⟩, ⟨.refl _, trivial⟩, ⟨rfl, trivial⟩, Nat.le_of_ble_eq_true rfl⟩
      · have h2 : ¬ L.getD k 0 > 0 := of_decide_eq_false h2
        refine Aw.em tab_ok mb0 [] rfl rfl ?zo ?zk
        case zo =>
          repeat' apply AllP.cons
          all_goals first | exact trivial | exact inrk k (by omega)
        case zk =>
        refine ⟨k + 1, ?zg, ?zm, ⟨?zc, ?zv, ?zh, Nat.le_of_ble_eq_true rfl⟩⟩
        case zg =>
          (repeat' (first | exact ⟨hlt, fun i hi => ((Nat.lt_or_eq_of_le (Nat.le_of_lt_succ hi)).elim (fun h => hno i h) (fun h => h ▸ h2))⟩))
        case zm =>
          (repeat' (first | omega))
        case zc =>
          (repeat' (first | (refine And.intro ?_ ?_) | exact trivial | exact A.Le.refl _))
        case zv =>
          (repeat' (first | (refine And.intro ?_ ?_) | exact trivial | exact A.Le.refl _))
        case zh =>
          (repeat' (first | (refine And.intro ?_ ?_) | exact trivial | exact rfl))
    · have hle : k = b.n.toNat := by have := of_decide_eq_false h1; omega
      subst hle
      rw [firstPos_no (fun i hi => hno i (by omega))]
      exact ⟨⟨.refl _, .refl _, .refl _, .refl _, .refl _, trivial⟩, ⟨.refl _, trivial⟩, ⟨rfl, trivial⟩, Nat.le_of_ble_eq_true rfl⟩
  cases hfp : firstPos L with
  | none =>
    rw [hfp] at hrun
    have hrun : (some cs, 0) = R := hrun
    subst hrun
    refine Aw.seq ?_
    refine Aw.sm tab_ok mb0 [] rfl rfl ?zo ?zk
    case zo =>
      repeat' apply AllP.cons
      all_goals first | exact trivial
    case zk =>
    refine Aw.cond rfl (fun _ => ?_) (fun h => by cases h)
    refine Aw.freezeS (id := 0) (t := 2) (n := b.ms.length) (sz := 1) (cs := cs.map A.int) (ints cs) rfl rfl (rowsI cs) (by rw [ints_len]; exact hcl) ?_
    refine Aw.sm tab_ok mb0 [] rfl rfl ?zo ?zk
    case zo =>
      repeat' apply AllP.cons
      all_goals first | exact trivial
    case zk =>
    exact Aw.ret ⟨_, .cons (.tmp _) (.cons (.tmp _) .nil), rfl⟩
  | some a =>
    rw [hfp] at hrun
    have hst := hst a hfp
    obtain ⟨ha1, ha2⟩ := firstPos_some hfp
    have hrun : (match (negGo b.ms cs L a (List.range b.n.toNat) []).1 with | some l => balF b.n b.ms f (walkF cs l) | none => (none, prfV b.n (negGo b.ms cs L a (List.range b.n.toNat) []).2)) = R := hrun
    generalize hN : negGo b.ms cs L a (List.range b.n.toNat) [] = N at *
    obtain ⟨N1, N2⟩ := N
    simp only at hrun hst
    refine Aw.seq ?_
    refine Aw.sm tab_ok mb0 [] rfl rfl ?zo ?zk
    case zo =>
      repeat' apply AllP.cons
      all_goals first | exact trivial
    case zk =>
    refine Aw.cond rfl (fun h => ?_) (fun _ => Aw.skip ?_)
    · have h : (a : Int) < 0 := of_decide_eq_true h
      omega
    refine Aw.sm tab_ok mb0 [] rfl rfl ?zo ?zk
    case zo =>
      repeat' apply AllP.cons
      all_goals first | exact trivial
    case zk =>
    refine Aw.sm tab_ok mb0 [] rfl rfl ?zo ?zk
    case zo =>
      repeat' apply AllP.cons
      all_goals first | exact trivial
    case zk =>
    have h2e : ∀ id, 2 ≤ id → E.φ0 id = none := fun id _ => hE id (by omega)
    refine Aw.join 2 h2e [(1, .pt b.c), (3, .int 0), (2, .ms 0 0 b.ms.length), (7, .fn (.func 97) [.agg b.c] [])] ngV (ngH cs N2) (fun j => N1 = j) ⟨ub, .s _, us (by decide), uw, trivial⟩ (fun j _ => ngV_under j) (fun j _ => ngH_under _ _ j) ?_ ?_
    · refine Aw.sm tab_ok mb0 [] rfl rfl ?zo ?zk
      case zo =>
        repeat' apply AllP.cons
        all_goals first | exact trivial | exact Nat.le_of_ble_eq_true rfl
      case zk =>
      refine Aw.block (Aw.rounds 2 h2e [(1, .pt b.c), (3, .int 0), (2, .ms 0 0 b.ms.length), (7, .fn (.func 97) [.agg b.c] []), (8, .sl false .any (ints L)), (9, .int a), (57, .int b.n)] (fun i : (Nat×List Int) => [(11, .bool false), (12, .mp 1), (58, .int i.1)]) (fun i => [(0, iB cs), (1, .map (setI i.2))]) (fun i => i.1 ≤ b.n.toNat ∧ negGo b.ms cs L a ((List.range b.n.toNat).drop i.1) i.2 = (N1, N2)) (fun i => b.n.toNat - i.1) (0, []) ?zg ⟨?zc, ?zv, ?zh, Nat.le_of_ble_eq_true rfl⟩ ?zu (fun i zhk => ?zw) (fun i zhk => ?zx) fun i hk => ?zr)
      case zg =>
        (repeat' (first | exact ⟨Nat.zero_le _, hN⟩))
      case zc =>
        (repeat' (first | (refine And.intro ?_ ?_) | exact trivial | exact A.Le.refl _))
      case zv =>
        (repeat' (first | (refine And.intro ?_ ?_) | exact trivial | exact A.Le.refl _))
      case zh =>
        (repeat' (first | (refine And.intro ?_ ?_) | exact trivial | exact rfl))
      case zu =>
        (repeat' (first | exact trivial | exact Under.s _ | exact (free_ints _ _ _).under | exact Under.ms _ _ _ (by decide) | exact ub | exact uw | (refine And.intro ?_ ?_)))
      case zw =>
        (repeat' (first | exact trivial | exact Under.s _ | exact Under.mp _ (by decide) | (refine And.intro ?_ ?_)))
      case zx =>
        (repeat' (first | exact trivial | exact Nat.le_of_ble_eq_true rfl | exact iB_under _ | exact setI_under _ | (refine And.intro ?_ ?_)))
      case zr =>
      obtain ⟨k, rch⟩ := i
      obtain ⟨hk, hgo⟩ := hk
      simp only at hk hgo
      refine Aw.sm tab_ok mb0 [] rfl rfl ?zo ?zk
      case zo =>
        repeat' apply AllP.cons
        all_goals first | exact trivial
      case zk =>
      refine Aw.seq (Aw.cond rfl (fun h1 => Aw.skip1 ?_) (fun h1 => Aw.exit2 ?_))
      · have hlt : k < b.n.toNat := by have := of_decide_eq_true h1; omega
        have hdr : (List.range b.n.toNat).drop k = k :: (List.range b.n.toNat).drop (k + 1) := by
          rw [List.drop_eq_getElem_cons (by simpa using hlt)]; simp
        rw [hdr, negGo] at hgo
        have hg := ints_getD (l := L) (k := k) (by omega)
        generalize hv : L.getD k 0 = v at *
        refine Aw.seq (Aw.block ?_)
        refine Aw.sm tab_ok mb0 [] rfl rfl ?zo ?zk
        case zo =>
          repeat' apply AllP.cons
          all_goals first | exact trivial
        case zk =>
        refine Aw.seq ?_
        refine Aw.sm tab_ok mb0 [(2, [.int v])] rfl rfl ?zo ?zk
        case zo =>
          repeat' apply AllP.cons
          all_goals first | exact trivial | exact rfl | exact Nat.le_of_ble_eq_true rfl | exact Int.natCast_nonneg _ | exact hg
        case zk =>
        refine Aw.cond rfl (fun h2 => ?_) (fun h2 => Aw.skip ?_)
        · have h2 : v ≥ 0 := of_decide_eq_true h2
          rw [if_pos h2] at hgo
          refine Aw.exit1 ?_
          refine Aw.em tab_ok mb0 [] rfl rfl ?zo ?zk
          case zo =>
            repeat' apply AllP.cons
            all_goals first | exact trivial | exact inrk k (by omega)
          case zk =>
          refine ⟨(k + 1, rch), ?zg, ?zm, ⟨?zc, ?zv, ?zh, Nat.le_of_ble_eq_true rfl⟩⟩
          case zg =>
            (repeat' (first | exact ⟨hlt, hgo⟩))
          case zm =>
            (repeat' (first | omega))
          case zc =>
            (repeat' (first | (refine And.intro ?_ ?_) | exact trivial | exact A.Le.refl _))
          case zv =>
            (repeat' (first | (refine And.intro ?_ ?_) | exact trivial | exact A.Le.refl _))
          case zh =>
            (repeat' (first | (refine And.intro ?_ ?_) | exact trivial | exact rfl))
        · have h2 : ¬ v ≥ 0 := of_decide_eq_false h2
          rw [if_neg h2] at hgo
          have hain : 0 ≤ (a : Int) ∧ (a : Int) < b.n := ⟨by omega, by omega⟩
          have hcall := way_w b hb cs (hfe.cs hb.m) a k (-1) hain
          rw [hcl] at hcall
          have hak : (a : Int) ≠ (k : Int) := fun e => by
            have e : a = k := by omega
            rw [e, hv] at ha2
            omega
          have hwi := way_is hb.n hb.m hfe (fr := (a : Int)) (to := (k : Int)) (wo := -1) hain hak
          have hnot := hwi.not
          have hfound := hwi.found
          generalize wayW b.ms cs a k (-1) = r at *
          obtain ⟨r1, r2⟩ := r
          simp only at hgo hnot hfound
          refine Aw.keep (n := 1) (cst := [(1, .pt b.c), (3, .int 0), (2, .ms 0 0 b.ms.length), (7, .fn (.func 97) [.agg b.c] []), (8, .sl false .any (ints L)), (9, .int a), (57, .int b.n), (58, .int k), (11, .bool false), (13, .int k)]) (v := []) (Hl := [(0, iB cs)]) h1e ?zu ?zw ?zx ⟨?zc, ?zv, ?zh, Nat.le_of_ble_eq_true rfl⟩ ?zr
          case zu =>
            (repeat' (first | exact trivial | exact Under.s _ | exact (free_ints _ _ _).under | exact Under.ms _ _ _ (by decide) | exact ub | exact uw | (refine And.intro ?_ ?_)))
          case zw =>
            (repeat' (first | exact trivial))
          case zx =>
            (repeat' (first | exact trivial | exact Nat.le_of_ble_eq_true rfl | exact iB_under _ | (refine And.intro ?_ ?_)))
          case zc =>
            (repeat' (first | (refine And.intro ?_ ?_) | exact trivial | exact A.Le.refl _))
          case zv =>
            (repeat' (first | exact trivial))
          case zh =>
            (repeat' (first | (refine And.intro ?_ ?_) | exact trivial | exact rfl))
          case zr =>
          refine Aw.ss rfl ?_
          refine RegL.partE tab_ok mb0 false 4 0 [] ?_
          conv => arg 5; whnf
          refine PartK.mk ?zo ?zk
          case zo =>
            repeat' apply AllP.cons
            all_goals first | exact trivial
          case zk =>
          refine Does.raw rfl (DoesR.call (fst := [.agg b.c]) (cap := []) rfl rfl (enters_of Try.func97 rfl rfl) hcall ?_)
          rintro v' H' c' ⟨hc6, ⟨hh0, hh1, _⟩, hq⟩
          have hc2 : 2 ≤ c' := Nat.le_trans (by decide) hc6
          have hh1 : H' 1 = some (.map (setI r2)) := hh1
          have hlk := setI_lk (T := tab) (et := 4) und3 rfl r2 k
          cases r1 with
          | none =>
            have hq : v' = .tup [.sl true .exact [], .mp 1] := hq
            subst hq
            have hno := (hnot rfl).1
            have hno : r2.contains (k : Int) = false := by rw [← Bool.not_eq_true, List.contains_iff_mem]; exact hno
            refine RegL.partE tab_ok mb0 false 5 5 [] ?_
            conv => arg 5; whnf
            refine PartK.mk ?zo ?zk
            case zo =>
              repeat' apply AllP.cons
              all_goals first | exact trivial
            case zk =>
            refine Aw.keep (n := 2) (cst := [(1, .pt b.c), (3, .int 0), (2, .ms 0 0 b.ms.length), (7, .fn (.func 97) [.agg b.c] []), (8, .sl false .any (ints L)), (9, .int a), (57, .int b.n), (58, .int k), (11, .bool false), (13, .int k), (15, .mp 1)]) (v := []) (Hl := [(0, iB cs), (1, .map (setI r2))]) h2e ?zu ?zw ?zx ⟨?zc, ?zv, ?zh, hc2⟩ ?zr
            case zu =>
              (repeat' (first | exact trivial | exact Under.s _ | exact (free_ints _ _ _).under | exact Under.ms _ _ _ (by decide) | exact Under.mp _ (by decide) | exact ub | exact uw | (refine And.intro ?_ ?_)))
            case zw =>
              (repeat' (first | exact trivial))
            case zx =>
              (repeat' (first | exact trivial | exact Nat.le_of_ble_eq_true rfl | exact iB_under _ | exact setI_under _ | (refine And.intro ?_ ?_)))
            case zc =>
              (repeat' (first | (refine And.intro ?_ ?_) | exact trivial | exact A.Le.refl _))
            case zv =>
              (repeat' (first | exact trivial))
            case zh =>
              (repeat' (first | (refine And.intro ?_ ?_) | exact trivial | exact hh0 | exact hh1))
            case zr =>
            refine Aw.seq ?_
            refine Aw.sm tab_ok mb0 [(2, [.bool (r2.contains (k : Int)), .bool (r2.contains (k : Int))])] rfl rfl ?zo ?zk
            case zo =>
              repeat' apply AllP.cons
              all_goals first | exact trivial | exact hlk
            case zk =>
            refine Aw.cond rfl (fun h2 => absurd (show r2.contains (k : Int) = true from h2) (by rw [hno]; decide)) (fun _ => Aw.skip ?_)
            refine Aw.em tab_ok mb0 [] rfl rfl ?zo ?zk
            case zo =>
              repeat' apply AllP.cons
              all_goals first | exact trivial
            case zk =>
            refine Aw.em tab_ok mb0 [] rfl rfl ?zo ?zk
            case zo =>
              repeat' apply AllP.cons
              all_goals first | exact trivial | exact inrk k (by omega)
            case zk =>
            refine ⟨(k + 1, r2), ?zg, ?zm, ⟨?zc, ?zv, ?zh, Nat.le_of_ble_eq_true rfl⟩⟩
            case zg =>
              (repeat' (first | exact ⟨hlt, hgo⟩))
            case zm =>
              (repeat' (first | omega))
            case zc =>
              (repeat' (first | (refine And.intro ?_ ?_) | exact trivial | exact A.Le.refl _))
            case zv =>
              (repeat' (first | (refine And.intro ?_ ?_) | exact trivial | exact A.Le.refl _))
            case zh =>
              (repeat' (first | (refine And.intro ?_ ?_) | exact trivial | exact rfl))
          | some st =>
            have hq : StW st v' H' := hq
            have hgo : (some st, rch) = (N1, N2) := hgo
            obtain ⟨hin, -, -, -, hkl, hl7, hne⟩ := hfound st rfl
            have hin : r2.contains (k : Int) = true := by rw [List.contains_iff_mem]; exact hin
            cases st with
            | nil => exact absurd rfl hne
            | cons s st =>
            obtain ⟨id, cap, hid, hv', mj, hj, hjl⟩ := hq
            have hid4 : 4 ≤ id := hid ▸ sid_ge _
            subst hv'
            generalize hst' : (s :: st) = st at *
            have hss : (st.map Stp.c).length = st.length := List.length_map _
            refine RegL.partE tab_ok mb0 false 5 5 [] ?_
            conv => arg 5; whnf
            refine PartK.mk ?zo ?zk
            case zo =>
              repeat' apply AllP.cons
              all_goals first | exact trivial
            case zk =>
            refine Aw.freezeG (id := id) (t := 14) (n := st.length) (cap := cap) (sz := 2) (st.map Stp.c) hj rfl (stp_rows _ _) hss ?_
            have n0 : updH H' id none 0 = some (iB cs) := by rw [updH_other _ _ (by omega)]; exact hh0
            have n1 : updH H' id none 1 = some (.map (setI r2)) := by rw [updH_other _ _ (by omega)]; exact hh1
            have usl : ∀ {n : Nat}, Under n (A.sl false .any (st.map Stp.c)) := (free_map Stp.free _ _ _).under
            refine Aw.keep (n := 2) (cst := [(1, .pt b.c), (3, .int 0), (2, .ms 0 0 b.ms.length), (7, .fn (.func 97) [.agg b.c] []), (13, .int k), (14, .sl false .any (st.map Stp.c)), (15, .mp 1)]) (v := []) (Hl := [(0, iB cs), (1, .map (setI r2))]) h2e ?zu ?zw ?zx ⟨?zc, ?zv, ?zh, hc2⟩ ?zr
            case zu =>
              (repeat' (first | exact trivial | exact Under.s _ | exact Under.ms _ _ _ (by decide) | exact Under.mp _ (by decide) | exact ub | exact uw | exact usl | (refine And.intro ?_ ?_)))
            case zw =>
              (repeat' (first | exact trivial))
            case zx =>
              (repeat' (first | exact trivial | exact Nat.le_of_ble_eq_true rfl | exact iB_under _ | exact setI_under _ | (refine And.intro ?_ ?_)))
            case zc =>
              (repeat' (first | (refine And.intro ?_ ?_) | exact trivial | exact A.Le.refl _))
            case zv =>
              (repeat' (first | exact trivial))
            case zh =>
              (repeat' (first | (refine And.intro ?_ ?_) | exact trivial | exact n0 | exact n1))
            case zr =>
            refine Aw.seq ?_
            refine Aw.sm tab_ok mb0 [(2, [.bool (r2.contains (k : Int)), .bool (r2.contains (k : Int))])] rfl rfl ?zo ?zk
            case zo =>
              repeat' apply AllP.cons
              all_goals first | exact trivial | exact hlk
            case zk =>
            refine Aw.cond rfl (fun _ => ?_) (fun h2 => absurd (show r2.contains (k : Int) = false from h2) (by rw [hin]; decide))
            have hbd : ∀ c ∈ cs, -100000 ≤ c ∧ c ≤ 100000 := fun c hc => by have := (hfe.cs hb.m).b c hc; omega
            have hwk := walk_f hbd false (l := st) (by omega) (fun s hs => by have := hkl s hs; omega) (H := ofH [(0, iB cs), (1, .map (setI r2))]) (c := 2) rfl
            rw [hcl] at hwk
            refine Aw.ss rfl ?_
            refine RegL.partE tab_ok mb0 false 2 0 [] ?_
            conv => arg 5; whnf
            refine PartK.mk ?zo ?zk
            case zo =>
              repeat' apply AllP.cons
              all_goals first | exact trivial
            case zk =>
            refine Does.raw rfl (DoesR.call (fst := []) (cap := []) rfl rfl (enters_of Try.func98 rfl rfl) hwk ?_)
            rintro v2 H2 c2 ⟨rfl, rfl, rfl⟩
            refine Aw.sm tab_ok mb0 [] rfl rfl ?zo ?zk
            case zo =>
              repeat' apply AllP.cons
              all_goals first | exact trivial
            case zk =>
            refine Aw.exit (thenE (blkN rfl (thenE (thenE (blkE ?_)))))
            exact ⟨some st, (congrArg Prod.fst hgo).symm, ⟨⟨.refl _, .refl _, .refl _, .refl _, trivial⟩, ⟨.refl _, trivial⟩, ⟨rfl, trivial⟩, Nat.le_of_ble_eq_true rfl⟩⟩
      · have hle : k = b.n.toNat := by have := of_decide_eq_false h1; omega
        have hdr : (List.range b.n.toNat).drop k = [] := List.drop_eq_nil_of_le (by rw [List.length_range]; omega)
        rw [hdr] at hgo
        have hgo : (none, rch) = (N1, N2) := hgo
        obtain ⟨rfl, rfl⟩ := Prod.mk.inj hgo
        exact ⟨none, rfl, ⟨⟨.refl _, .refl _, .refl _, .refl _, trivial⟩, ⟨.refl _, .refl _, trivial⟩, ⟨rfl, rfl, trivial⟩, Nat.le_of_ble_eq_true rfl⟩⟩
    rintro j rfl
    cases N1 with
    | some l =>
      have hrun : balF b.n b.ms f (walkF cs l) = R := hrun
      obtain ⟨s1, s2, -, -⟩ := hst l rfl
      refine Aw.sm tab_ok mb0 [] rfl rfl ?zo ?zk
      case zo =>
        repeat' apply AllP.cons
        all_goals first | exact trivial
      case zk =>
      refine Aw.cond rfl (fun h => by cases h) (fun _ => Aw.skip ?_)
      refine ⟨(f, walkF cs l), ?zg, ?zm, ⟨?zc, ?zv, ?zh, Nat.le_of_ble_eq_true rfl⟩⟩
      case zg =>
        (repeat' (first | exact ⟨s1, (by show phi b.n b.ms (walkF cs l) < f; omega), hrun⟩))
      case zm =>
        (repeat' (first | omega))
      case zc =>
        (repeat' (first | (refine And.intro ?_ ?_) | exact trivial | exact A.Le.refl _))
      case zv =>
        (repeat' (first | exact trivial))
      case zh =>
        (repeat' (first | (refine And.intro ?_ ?_) | exact trivial | exact rfl))
    | none =>
      have hrun : (none, prfV b.n N2) = R := hrun
      subst hrun
      have e : prfV b.n N2 = (List.range b.n.toNat).foldl (prStep N2) 0 := rfl
      rw [e]
      refine Aw.sm tab_ok mb0 [] rfl rfl ?zo ?zk
      case zo =>
        repeat' apply AllP.cons
        all_goals first | exact trivial
      case zk =>
      refine Aw.cond rfl (fun _ => ?_) (fun h => by cases h)
      refine Aw.seq ?_
      refine Aw.sm tab_ok mb0 [] rfl rfl ?zo ?zk
      case zo =>
        repeat' apply AllP.cons
        all_goals first | exact trivial | exact Nat.le_of_ble_eq_true rfl
      case zk =>
      refine Aw.block (Aw.rounds 2 h2e [(12, .mp 1), (86, .int b.n)] (fun k : Nat => [(3, .int ((List.range k).foldl (prStep N2) 0)), (87, .int k)]) (fun k => [(1, .map (setI N2))]) (fun k => k ≤ b.n.toNat) (fun k => b.n.toNat - k) 0 ?zg ⟨?zc, ?zv, ?zh, Nat.le_of_ble_eq_true rfl⟩ ?zu (fun k zhk => ?zw) (fun k zhk => ?zx) fun k hk => ?zr)
      case zg =>
        (repeat' (first | exact Nat.zero_le _))
      case zc =>
        (repeat' (first | (refine And.intro ?_ ?_) | exact trivial | exact A.Le.refl _))
      case zv =>
        (repeat' (first | (refine And.intro ?_ ?_) | exact trivial | exact A.Le.refl _))
      case zh =>
        (repeat' (first | (refine And.intro ?_ ?_) | exact trivial | exact rfl))
      case zu =>
        (repeat' (first | exact trivial | exact Under.s _ | exact Under.mp _ (by decide) | (refine And.intro ?_ ?_)))
      case zw =>
        (repeat' (first | exact trivial | exact Under.s _ | (refine And.intro ?_ ?_)))
      case zx =>
        (repeat' (first | exact trivial | exact Nat.le_of_ble_eq_true rfl | exact setI_under _ | (refine And.intro ?_ ?_)))
      case zr =>
      refine Aw.sm tab_ok mb0 [] rfl rfl ?zo ?zk
      case zo =>
        repeat' apply AllP.cons
        all_goals first | exact trivial
      case zk =>
      refine Aw.seq (Aw.cond rfl (fun h1 => Aw.skip1 ?_) (fun h1 => Aw.exit2 ?_))
      · have hlt : k < b.n.toNat := by have := of_decide_eq_true h1; omega
        have hlk := setI_lk (T := tab) (et := 4) und3 rfl N2 k
        have hsp : (List.range (k + 1)).foldl (prStep N2) 0 = prStep N2 ((List.range k).foldl (prStep N2) 0) k := by rw [List.range_succ, List.foldl_append]; rfl
        have hbd := pr_bd N2 k (by omega)
        have hsh := shl_n (n := k) (by omega)
        have hpw := pow_bd (n := k) (by omega)
        generalize hp1 : (List.range (k + 1)).foldl (prStep N2) 0 = p1 at *
        generalize (List.range k).foldl (prStep N2) 0 = p at *
        unfold prStep at hsp
        refine Aw.seq (Aw.block ?_)
        refine Aw.sm tab_ok mb0 [] rfl rfl ?zo ?zk
        case zo =>
          repeat' apply AllP.cons
          all_goals first | exact trivial
        case zk =>
        refine Aw.sm tab_ok mb0 [(2, [.bool (N2.contains (k : Int)), .bool (N2.contains (k : Int))])] rfl rfl ?zo ?zk
        case zo =>
          repeat' apply AllP.cons
          all_goals first | exact trivial | exact hlk
        case zk =>
        refine Aw.cond rfl (fun h2 => ?_) (fun h2 => Aw.skip ?_)
        · have h2 : N2.contains (k : Int) = false := by have h2 : (!N2.contains (k : Int)) = true := h2; simpa using h2
          rw [h2, if_neg (by decide)] at hsp
          refine Aw.em tab_ok mb0 [] rfl rfl ?zo ?zk
          case zo =>
            repeat' apply AllP.cons
            all_goals first | exact trivial | exact Int.natCast_nonneg _ | exact (show inR (p + IntKind.i64.wrap (1 * 2 ^ min (Int.toNat (k : Int)) 64)) by rw [Int.toNat_natCast, hsh]; simp only [inR]; omega)
          case zk =>
          refine Aw.em tab_ok mb0 [] rfl rfl ?zo ?zk
          case zo =>
            repeat' apply AllP.cons
            all_goals first | exact trivial | exact inrk k (by omega)
          case zk =>
          refine ⟨k + 1, ?zg, ?zm, ⟨?zc, ?zv, ?zh, Nat.le_of_ble_eq_true rfl⟩⟩
          case zg =>
            (repeat' (first | assumption))
          case zm =>
            (repeat' (first | omega))
          case zc =>
            (repeat' (first | (refine And.intro ?_ ?_) | exact trivial | exact A.Le.refl _))
          case zv =>
            (repeat' (first | (refine And.intro ?_ ?_) | exact trivial | exact A.Le.refl _ | exact .of_eq (congrArg A.int (by rw [hp1, hsp, ← hsh]; rfl))))
          case zh =>
            (repeat' (first | (refine And.intro ?_ ?_) | exact trivial | exact rfl))
        · have h2 : N2.contains (k : Int) = true := by have h2 : (!N2.contains (k : Int)) = false := h2; simpa using h2
          rw [h2, if_pos rfl] at hsp
          refine Aw.em tab_ok mb0 [] rfl rfl ?zo ?zk
          case zo =>
            repeat' apply AllP.cons
            all_goals first | exact trivial | exact inrk k (by omega)
          case zk =>
          refine ⟨k + 1, ?zg, ?zm, ⟨?zc, ?zv, ?zh, Nat.le_of_ble_eq_true rfl⟩⟩
          case zg =>
            (repeat' (first | assumption))
          case zm =>
            (repeat' (first | omega))
          case zc =>
            (repeat' (first | (refine And.intro ?_ ?_) | exact trivial | exact A.Le.refl _))
          case zv =>
            (repeat' (first | (refine And.intro ?_ ?_) | exact trivial | exact A.Le.refl _ | exact .of_eq (congrArg A.int (hp1.trans hsp))))
          case zh =>
            (repeat' (first | (refine And.intro ?_ ?_) | exact trivial | exact rfl))
      · have hle : k = b.n.toNat := by have := of_decide_eq_false h1; omega
        subst hle
        refine Aw.sm tab_ok mb0 [] rfl rfl ?zo ?zk
        case zo =>
          repeat' apply AllP.cons
          all_goals first | exact trivial
        case zk =>
        exact Aw.ret ⟨_, .cons (.tmp _) (.cons (.tmp _) .nil), rfl⟩
end Go.Proofs.Ytampldajinhenaa

namespace Go.Proofs.Ytampldajinhenaa
open Go Go.AL Go.AL.Q Go.AL.Br
def proofA (r : Int × Int) : A := .tup [.int r.1, .int r.2]
set_option maxHeartbeats 1000000 in
theorem proof_t (b : Book) (hbl : (b.ms.length : Int) ≤ 9223372036854775806) : Ans Try.prog 54 [.agg b.c] (proofA (ProofR b)) := by
  have hfr : Free (proofA (ProofR b)) := .tup _ (allC (.s _) (all1 (.s _)))
  have hchk := book_chk b hbl
  refine told Try.func54 rfl rfl (Pure.of tab_ok Try.func54 rfl Try.ntmps54 rfl (all1 (.agg _ b.free)) (all1 fun _ => rfl) hfr fun E hE => ?_)
  refine Aw.sm tab_ok mb0 [] rfl rfl ?zo ?zk
  case zo =>
    repeat' apply AllP.cons
    all_goals first | exact trivial
  case zk =>
  by_cases hbo : b.ok = true
  rotate_left
  · have e : ProofR b = (0, 63) := by unfold ProofR; rw [if_neg hbo]
    have e2 : b.chk = 63 := by unfold Book.chk; rw [if_neg hbo]
    rw [e2] at hchk
    rw [e]
    refine Aw.seq ?_
    refine Aw.sm tab_ok mb0 [(1, [.int 63])] rfl rfl ?zo ?zk
    case zo =>
      repeat' apply AllP.cons
      all_goals first | exact trivial | exact Nat.le_of_ble_eq_true rfl | exact hchk
    case zk =>
    refine Aw.sm tab_ok mb0 [] rfl rfl ?zo ?zk
    case zo =>
      repeat' apply AllP.cons
      all_goals first | exact trivial
    case zk =>
    refine Aw.cond rfl (fun h => ?_) (fun h => by cases h)
    refine Aw.sm tab_ok mb0 [] rfl rfl ?zo ?zk
    case zo =>
      repeat' apply AllP.cons
      all_goals first | exact trivial
    case zk =>
    exact Aw.ret ⟨_, .cons (.tmp _) (.cons (.tmp _) .nil), rfl⟩
  have e2 : b.chk = 0 := by unfold Book.chk; rw [if_pos hbo]
  have hB := Book.ok_iff.1 hbo
  rw [e2] at hchk
  have hbal := balanced_t b hB
  clear hfr
  unfold ProofR
  rw [if_pos hbo]
  generalize BalW b = r at *
  obtain ⟨r1, r2⟩ := r
  refine Aw.seq ?_
  refine Aw.sm tab_ok mb0 [(1, [.int 0])] rfl rfl ?zo ?zk
  case zo =>
    repeat' apply AllP.cons
    all_goals first | exact trivial | exact Nat.le_of_ble_eq_true rfl | exact hchk
  case zk =>
  refine Aw.sm tab_ok mb0 [] rfl rfl ?zo ?zk
  case zo =>
    repeat' apply AllP.cons
    all_goals first | exact trivial
  case zk =>
  refine Aw.cond rfl (fun h => by cases h) (fun h => Aw.skip ?_)
  cases r1 with
  | some cs =>
    refine Aw.sm tab_ok mb0 [(2, [.tup [.sl false .any (ints cs), .int 0]])] rfl rfl ?zo ?zk
    case zo =>
      repeat' apply AllP.cons
      all_goals first | exact trivial | exact Nat.le_of_ble_eq_true rfl | exact hbal
    case zk =>
    refine Aw.seq ?_
    refine Aw.sm tab_ok mb0 [] rfl rfl ?zo ?zk
    case zo =>
      repeat' apply AllP.cons
      all_goals first | exact trivial
    case zk =>
    refine Aw.cond rfl (fun h => ?_) (fun h => by cases h)
    refine Aw.sm tab_ok mb0 [] rfl rfl ?zo ?zk
    case zo =>
      repeat' apply AllP.cons
      all_goals first | exact trivial
    case zk =>
    exact Aw.ret ⟨_, .cons (.tmp _) (.cons (.tmp _) .nil), rfl⟩
  | none =>
    refine Aw.sm tab_ok mb0 [(2, [.tup [.sl true .exact [], .int r2]])] rfl rfl ?zo ?zk
    case zo =>
      repeat' apply AllP.cons
      all_goals first | exact trivial | exact Nat.le_of_ble_eq_true rfl | exact hbal
    case zk =>
    refine Aw.seq ?_
    refine Aw.sm tab_ok mb0 [] rfl rfl ?zo ?zk
    case zo =>
      repeat' apply AllP.cons
      all_goals first | exact trivial
    case zk =>
    refine Aw.cond rfl (fun h => by cases h) (fun h => Aw.skip ?_)
    refine Aw.sm tab_ok mb0 [] rfl rfl ?zo ?zk
    case zo =>
      repeat' apply AllP.cons
      all_goals first | exact trivial
    case zk =>
    exact Aw.ret ⟨_, .cons (.tmp _) (.cons (.tmp _) .nil), rfl⟩
theorem balF_feas {n : Int} (hn : 2 ≤ n ∧ n ≤ 6) {ms : List Mv} (hms : ∀ m ∈ ms, m.Ok n) : ∀ (f : Nat) (cs : List Int), Feas ms cs → ∀ l, (balF n ms f cs).1 = some l → Feas ms l ∧ firstPos (ovL n ms l) = none
  | 0, cs, hf, l, h => by cases h
  | f + 1, cs, hf, l, h => by
    rw [balF] at h
    cases hp : firstPos (ovL n ms cs) with
    | none =>
      rw [hp] at h
      have h : some cs = some l := h
      cases h
      exact ⟨hf, hp⟩
    | some a =>
      rw [hp] at h
      simp only at h
      cases hg : (negGo ms cs (ovL n ms cs) a (List.range n.toNat) []).1 with
      | none => rw [hg] at h; cases h
      | some st =>
        rw [hg] at h
        exact balF_feas hn hms f _ (bal_step hn hms hf hp hg).1 l h
def balcA (r : List Sp × Int) : A := .tup [if r.2 = 0 then .sl false .exact (r.1.map Sp.c) else .sl true .exact [], .int r.2]
theorem balcA_free (r : List Sp × Int) : Free (balcA r) := by
  unfold balcA
  split
  · exact .tup _ (allC (free_map Sp.free _ _ _) (all1 (.s _)))
  · exact .tup _ (allC (.sl _ _ _ (fun _ h => by cases h)) (all1 (.s _)))
theorem sp_two (l : List Sp) : ∀ z ∈ l.map Sp.c, z.length = 2 := fun z hz => by obtain ⟨s, _, rfl⟩ := List.mem_map.1 hz; rfl
def grSp : List Sp → A
  | [] => .sl true .exact []
  | x :: l => .sl false (.own 68) ((x :: l).map Sp.c)
theorem grSp_under (l : List Sp) {n : Nat} : Under n (grSp l) := by
  cases l with
  | nil => exact (Free.sl _ _ _ (fun _ h => by cases h)).under
  | cons x l => exact (free_map Sp.free _ _ _).under
theorem grSp_ne {l : List Sp} (h : l ≠ []) : grSp l = .sl false (.own 68) (l.map Sp.c) := by
  cases l with
  | nil => exact absurd rfl h
  | cons x l => rfl
set_option maxHeartbeats 4000000 in
theorem balance_t (b : Book) (hbl : (b.ms.length : Int) ≤ 9223372036854775806) : Ans Try.prog 37 [.agg b.c] (balcA (BalanceR b)) := by
  have hfr := balcA_free (BalanceR b)
  have hchk := book_chk b hbl
  refine told Try.func37 rfl rfl (Pure.of tab_ok Try.func37 rfl Try.ntmps37 rfl (all1 (.agg _ b.free)) (all1 fun _ => rfl) hfr fun E hE => ?_)
  refine Aw.sm tab_ok mb0 [] rfl rfl ?zo ?zk
  case zo =>
    repeat' apply AllP.cons
    all_goals first | exact trivial
  case zk =>
  by_cases hbo : b.ok = true
  rotate_left
  · have e : BalanceR b = ([], 63) := by unfold BalanceR; rw [if_neg hbo]
    have e2 : b.chk = 63 := by unfold Book.chk; rw [if_neg hbo]
    rw [e2] at hchk
    rw [e]
    refine Aw.seq ?_
    refine Aw.sm tab_ok mb0 [(1, [.int 63])] rfl rfl ?zo ?zk
    case zo =>
      repeat' apply AllP.cons
      all_goals first | exact trivial | exact Nat.le_of_ble_eq_true rfl | exact hchk
    case zk =>
    refine Aw.sm tab_ok mb0 [] rfl rfl ?zo ?zk
    case zo =>
      repeat' apply AllP.cons
      all_goals first | exact trivial
    case zk =>
    refine Aw.cond rfl (fun h => ?_) (fun h => by cases h)
    refine Aw.sm tab_ok mb0 [] rfl rfl ?zo ?zk
    case zo =>
      repeat' apply AllP.cons
      all_goals first | exact trivial
    case zk =>
    exact Aw.ret ⟨_, .cons (.tmp _) (.cons (.tmp _) .nil), rfl⟩
  have e2 : b.chk = 0 := by unfold Book.chk; rw [if_pos hbo]
  have hB := Book.ok_iff.1 hbo
  rw [e2] at hchk
  have hbal := balanced_t b hB
  have hfe0 : ∀ cs, (BalW b).1 = some cs → Feas b.ms cs := fun cs h => (balF_feas hB.n hB.m _ _ (lows_feas hB.m) cs h).1
  clear hfr
  unfold BalanceR
  rw [if_pos hbo]
  generalize BalW b = r at *
  obtain ⟨r1, r2⟩ := r
  refine Aw.seq ?_
  refine Aw.sm tab_ok mb0 [(1, [.int 0])] rfl rfl ?zo ?zk
  case zo =>
    repeat' apply AllP.cons
    all_goals first | exact trivial | exact Nat.le_of_ble_eq_true rfl | exact hchk
  case zk =>
  refine Aw.sm tab_ok mb0 [] rfl rfl ?zo ?zk
  case zo =>
    repeat' apply AllP.cons
    all_goals first | exact trivial
  case zk =>
  refine Aw.cond rfl (fun h => by cases h) (fun h => Aw.skip ?_)
  refine Aw.sm tab_ok mb0 [] rfl rfl ?zo ?zk
  case zo =>
    repeat' apply AllP.cons
    all_goals first | exact trivial | exact rfl | exact Nat.le_of_ble_eq_true rfl
  case zk =>
  refine Aw.freeze (id := 0) (t := 5) (cs := b.c) rfl rfl ?_
  cases r1 with
  | none =>
    refine Aw.sm tab_ok mb0 [(1, [.tup [.sl true .exact [], .int r2]])] rfl rfl ?zo ?zk
    case zo =>
      repeat' apply AllP.cons
      all_goals first | exact trivial | exact Nat.le_of_ble_eq_true rfl | exact hbal
    case zk =>
    refine Aw.seq ?_
    refine Aw.sm tab_ok mb0 [] rfl rfl ?zo ?zk
    case zo =>
      repeat' apply AllP.cons
      all_goals first | exact trivial
    case zk =>
    refine Aw.cond rfl (fun h => ?_) (fun h => by cases h)
    refine Aw.sm tab_ok mb0 [] rfl rfl ?zo ?zk
    case zo =>
      repeat' apply AllP.cons
      all_goals first | exact trivial
    case zk =>
    exact Aw.ret ⟨_, .cons (.tmp _) (.cons (.tmp _) .nil), rfl⟩
  | some cs =>
    have hfe := hfe0 cs rfl
    refine Aw.sm tab_ok mb0 [(1, [.tup [.sl false .any (ints cs), .int 0]])] rfl rfl ?zo ?zk
    case zo =>
      repeat' apply AllP.cons
      all_goals first | exact trivial | exact Nat.le_of_ble_eq_true rfl | exact hbal
    case zk =>
    refine Aw.seq ?_
    refine Aw.sm tab_ok mb0 [] rfl rfl ?zo ?zk
    case zo =>
      repeat' apply AllP.cons
      all_goals first | exact trivial
    case zk =>
    refine Aw.cond rfl (fun h => by cases h) (fun h => Aw.skip ?_)
    refine Aw.sm tab_ok mb0 [] rfl rfl ?zo ?zk
    case zo =>
      repeat' apply AllP.cons
      all_goals first | exact trivial
    case zk =>
    refine Aw.seq ?_
    refine Aw.sm tab_ok mb0 [] rfl rfl ?zo ?zk
    case zo =>
      repeat' apply AllP.cons
      all_goals first | exact trivial | exact Nat.le_of_ble_eq_true rfl
    case zk =>
    have h1e : ∀ id, 1 ≤ id → E.φ0 id = none := fun id _ => hE id (by omega)
    have h2e : ∀ id, 2 ≤ id → E.φ0 id = none := fun id _ => hE id (by omega)
    have e0 : E.φ0 0 = none := hE 0 (Nat.le_refl _)
    have hbl2 := hB.l
    have lm : ((b.ms.map Mv.c).length : Int) = b.ms.length := by simp
    have ub : ∀ {n : Nat}, Under n (A.pt b.c) := (Free.pt _ b.free).under
    have uc : ∀ {n : Nat}, Under n (A.sl false .any (ints cs)) := (free_ints _ _ _).under
    have hFS : ∀ k, (List.range (k + 1)).map (fun k => (⟨pushF b.ms k true cs, pushF b.ms k false cs⟩ : Sp)) = (List.range k).map (fun k => (⟨pushF b.ms k true cs, pushF b.ms k false cs⟩ : Sp)) ++ [⟨pushF b.ms k true cs, pushF b.ms k false cs⟩] := fun k => by rw [List.range_succ, List.map_append]; rfl
    have hF0 : (List.range 0).map (fun k => (⟨pushF b.ms k true cs, pushF b.ms k false cs⟩ : Sp)) = [] := rfl
    have hFl : ∀ k, ((List.range k).map (fun k => (⟨pushF b.ms k true cs, pushF b.ms k false cs⟩ : Sp))).length = k := fun k => by simp
    show Aw _ _ _ _ _
    generalize hF : (fun k => (List.range k).map (fun k => (⟨pushF b.ms k true cs, pushF b.ms k false cs⟩ : Sp))) = F
    have hFS : ∀ k, F (k + 1) = F k ++ [⟨pushF b.ms k true cs, pushF b.ms k false cs⟩] := fun k => by rw [← hF]; exact hFS k
    have hF0 : F 0 = [] := by rw [← hF]; rfl
    have hFl : ∀ k, (F k).length = k := fun k => by rw [← hF]; exact hFl k
    have h0e := hE
    refine Aw.block (Aw.rounds 0 hE [(5, .pt b.c), (6, .sl false .any (ints cs)), (27, .int b.ms.length)] (fun k : Nat => [(8, grSp (F k)), (28, .int k)]) (fun k => []) (fun k => k ≤ b.ms.length) (fun k => b.ms.length - k) 0 ?zg ⟨?zc, ?zv, ?zh, Nat.le_of_ble_eq_true rfl⟩ ?zu (fun k zhk => ?zw) (fun k zhk => ?zx) fun k hk => ?zr)
    case zg =>
      (repeat' (first | exact Nat.zero_le _))
    case zc =>
      (repeat' (first | (refine And.intro ?_ ?_) | exact trivial | exact A.Le.refl _ | exact .of_eq (congrArg A.int lm.symm)))
    case zv =>
      (repeat' (first | (refine And.intro ?_ ?_) | exact trivial | exact A.Le.refl _ | exact .of_eq (by rw [hF0]; rfl)))
    case zh =>
      (repeat' (first | exact trivial))
    case zu =>
      (repeat' (first | exact trivial | exact Under.s _ | exact (free_ints _ _ _).under | exact ub | (refine And.intro ?_ ?_)))
    case zw =>
      (repeat' (first | exact trivial | exact Under.s _ | exact grSp_under _ | (refine And.intro ?_ ?_)))
    case zx =>
      (repeat' (first | exact trivial))
    case zr =>
    refine Aw.sm tab_ok mb0 [] rfl rfl ?zo ?zk
    case zo =>
      repeat' apply AllP.cons
      all_goals first | exact trivial
    case zk =>
    refine Aw.seq (Aw.cond rfl (fun h1 => Aw.skip1 ?_) (fun h1 => Aw.exit2 ?_))
    · have hlt : k < b.ms.length := by have := of_decide_eq_true h1; omega
      have hSk := hFS k
      have hlk := hFl k
      have hp1 := pushed_t b hB false cs hfe k hlt true
      have hp2 := pushed_t b hB false cs hfe k hlt false
      generalize pushF b.ms k true cs = x at *
      generalize pushF b.ms k false cs = y at *
      have hone : ∀ z ∈ [Sp.c ⟨x, y⟩], z.length = 2 := sp_two [⟨x, y⟩]
      refine Aw.seq (Aw.block ?_)
      refine Aw.sm tab_ok mb0 [] rfl rfl ?zo ?zk
      case zo =>
        repeat' apply AllP.cons
        all_goals first | exact trivial
      case zk =>
      generalize hG : F k = G at *
      cases G with
      | nil =>
        refine Aw.ed tab_ok mixed mb0 [(4, [.int x]), (8, [.int y])] rfl (by kernel_rfl) rfl rfl ?zo ?zk
        case zo =>
          repeat' apply AllP.cons
          all_goals first | exact trivial | exact Nat.le_of_ble_eq_true rfl | exact hp1 | exact hp2 | exact hone
        case zk =>
        refine Aw.em tab_ok mb0 [] rfl rfl ?zo ?zk
        case zo =>
          repeat' apply AllP.cons
          all_goals first | exact trivial | exact inrk k (by omega)
        case zk =>
        refine ⟨k + 1, ?zg, ?zm, ⟨?zc, ?zv, ?zh, Nat.le_of_ble_eq_true rfl⟩⟩
        case zg =>
          (repeat' (first | assumption))
        case zm =>
          (repeat' (first | omega))
        case zc =>
          (repeat' (first | (refine And.intro ?_ ?_) | exact trivial | exact A.Le.refl _))
        case zv =>
          (repeat' (first | (refine And.intro ?_ ?_) | exact trivial | exact A.Le.refl _ | exact .of_eq (by rw [hSk]; rfl)))
        case zh =>
          (repeat' (first | exact trivial))
      | cons s t =>
        have hl1 : ((s :: t).map Sp.c).length ≤ 10 := by rw [List.length_map]; omega
        have hz := sp_two (s :: t)
        refine Aw.ed tab_ok mixed mb0 [(4, [.int x]), (8, [.int y])] rfl (by kernel_rfl) rfl rfl ?zo ?zk
        case zo =>
          repeat' apply AllP.cons
          all_goals first | exact trivial | exact Nat.le_of_ble_eq_true rfl | exact hp1 | exact hp2 | exact hone | exact hz | exact (show (((s :: t).map Sp.c).length + 1) * 16 ≤ 140737488355328 by omega) | exact (show ((s :: t).map Sp.c).length + 1 ≤ maxLen by unfold maxLen; omega)
        case zk =>
        refine Aw.em tab_ok mb0 [] rfl rfl ?zo ?zk
        case zo =>
          repeat' apply AllP.cons
          all_goals first | exact trivial | exact inrk k (by omega)
        case zk =>
        refine ⟨k + 1, ?zg, ?zm, ⟨?zc, ?zv, ?zh, Nat.le_of_ble_eq_true rfl⟩⟩
        case zg =>
          (repeat' (first | assumption))
        case zm =>
          (repeat' (first | omega))
        case zc =>
          (repeat' (first | (refine And.intro ?_ ?_) | exact trivial | exact A.Le.refl _))
        case zv =>
          (repeat' (first | (refine And.intro ?_ ?_) | exact trivial | exact A.Le.refl _ | exact .of_eq (show grSp (F (k + 1)) = A.sl false (.own 68) ((s :: t).map Sp.c ++ [Sp.c ⟨x, y⟩]) by rw [hSk, grSp_ne (by simp)]; simp)))
        case zh =>
          (repeat' (first | exact trivial))
    · have hle : k = b.ms.length := by have := of_decide_eq_false h1; omega
      subst hle
      have hlen := hFl b.ms.length
      have hne : F b.ms.length ≠ [] := fun h => by rw [h] at hlen; simp at hlen; omega
      have uz : ∀ {n : Nat}, Under n (A.sl false .any ((F b.ms.length).map Sp.c)) := (free_map Sp.free _ _ _).under
      refine Aw.keep (n := 0) (cst := [(8, .sl false .any ((F b.ms.length).map Sp.c))]) (v := []) (Hl := []) hE ?zu ?zw ?zx ⟨?zc, ?zv, ?zh, Nat.le_of_ble_eq_true rfl⟩ ?zr
      case zu =>
        (repeat' (first | exact trivial | exact uz | (refine And.intro ?_ ?_)))
      case zw =>
        (repeat' (first | exact trivial))
      case zx =>
        (repeat' (first | exact trivial))
      case zc =>
        (repeat' (first | (refine And.intro ?_ ?_) | exact trivial | exact (by rw [grSp_ne hne]; exact A.Le.any ..)))
      case zv =>
        (repeat' (first | exact trivial))
      case zh =>
        (repeat' (first | exact trivial))
      case zr =>
      refine Aw.sm tab_ok mb0 [] rfl rfl ?zo ?zk
      case zo =>
        repeat' apply AllP.cons
        all_goals first | exact trivial | exact rfl | exact Int.natCast_nonneg _ | exact Int.le_refl _
      case zk =>
      have hFn : (List.range b.ms.length).map (fun k => (⟨pushF b.ms k true cs, pushF b.ms k false cs⟩ : Sp)) = F b.ms.length := congrFun hF _
      refine Aw.ret ⟨_, .cons (.tmp _) (.cons (.tmp _) .nil), ?_⟩
      show A.tup [.sl false .exact (((F b.ms.length).map Sp.c).take (Int.toNat (((F b.ms.length).map Sp.c).length : Int))), .int 0] = A.tup [.sl false .exact (((List.range b.ms.length).map (fun k => (⟨pushF b.ms k true cs, pushF b.ms k false cs⟩ : Sp))).map Sp.c), .int 0]
      rw [hFn, Int.toNat_natCast, List.take_length]
end Go.Proofs.Ytampldajinhenaa

namespace Go.Proofs.Ytampldajinhenaa
open Go Go.AL Go.AL.Q Go.AL.Br
set_option maxRecDepth 100000 in
theorem eq3n (a b : Int) : pureRun Try.prog (Op.equalIn 9999 3 (.int .i64 a) (.int .i64 b)) = some (a == b) := by rfl
set_option maxRecDepth 100000 in
theorem eq68 (a b c d : Int) : pureRun Try.prog (Op.equal 68 (.agg #[.int .i64 a, .int .i64 b]) (.agg #[.int .i64 c, .int .i64 d])) = some (a == c && b == d) := by
  have h1 : pureRun Try.prog (underlying 68) = Try.prog.underlying 68 := rfl
  have h2 : pureRun Try.prog program = some Try.prog := rfl
  have h3 : Try.prog.stoodInHeld 68 = false := by kernel_rfl
  have p1 : ∀ x y : Value, pureRun Try.prog (part 3 #[x, y] 0) = some x := fun x y => rfl
  have p2 : ∀ x y : Value, pureRun Try.prog (part 3 #[x, y] 1) = some y := fun x y => rfl
  have pp : ∀ {α : Type} (x : α), pureRun Try.prog (pure x) = some x := fun x => rfl
  rw [Op.equal, Op.maxDepth, show (10000 : Nat) = 9999 + 1 from rfl, Op.equalIn, pureRun_bind, h1, Try.underlying68]
  simp only [Option.bind_some, pureRun_bind, h2, h3]
  by_cases h : a = c
  · subst h
    by_cases h' : b = d
    · subst h'
      simp [pureRun_bind, p1, p2, eq3n, pp]
    · have e : (b == d) = false := by simpa using h'
      simp [pureRun_bind, p1, p2, eq3n, pp, e]
  · have e : (a == c) = false := by simpa using h
    simp [pureRun_bind, p1, eq3n, pp, e]
theorem eg68 : Try.prog.eqGuardType Try.prog.depth 68 = false := by kernel_rfl
set_option maxRecDepth 100000 in
theorem neSp (x y : Operand) (s t : Sp) : EqIs tab .neq 68 x y (.agg s.c) (.agg t.c) (!(s == t)) := by
  refine ⟨.agg #[.int .i64 s.lo, .int .i64 s.hi], .agg #[.int .i64 t.lo, .int .i64 t.hi], rfl, rfl, (congrFun (congrFun (congrFun (congrFun (congrFun (congrFun (show tab.eqv = pureEq Try.prog from rfl) _) _) _) _) _) _).trans ?_⟩
  show pureEq Try.prog .neq 68 x y (.agg #[.int .i64 s.lo, .int .i64 s.hi]) (.agg #[.int .i64 t.lo, .int .i64 t.hi]) = _
  have hp : pureRun Try.prog program = some Try.prog := rfl
  have pp : ∀ {α : Type} (x : α), pureRun Try.prog (pure x) = some x := fun x => rfl
  have e1 : pureRun Try.prog (eqGuard .neq 68 x y (.agg #[.int .i64 s.lo, .int .i64 s.hi]) (.agg #[.int .i64 t.lo, .int .i64 t.hi])) = some () := by
    simp [eqGuard, pureRun_bind, hp, eg68, pp]
  have e2 : pureRun Try.prog (binOp .neq 68 (.agg #[.int .i64 s.lo, .int .i64 s.hi]) (.agg #[.int .i64 t.lo, .int .i64 t.hi])) = some (.bool (!(s == t))) := by
    have : binOp .neq 68 (.agg #[.int .i64 s.lo, .int .i64 s.hi]) (.agg #[.int .i64 t.lo, .int .i64 t.hi]) = (Op.equal 68 (.agg #[.int .i64 s.lo, .int .i64 s.hi]) (.agg #[.int .i64 t.lo, .int .i64 t.hi]) >>= fun b => pure (.bool (!b))) := rfl
    rw [this, pureRun_bind, eq68, sp_beq]; rfl
  unfold pureEq
  rw [pureRun_bind, e1]
  exact e2
theorem sameSpans_t (p q : Bool) (a b : List Sp) (hl : (a.length : Int) ≤ 9223372036854775806) : Ans Try.prog 39 [.sl p .any (a.map Sp.c), .sl q .any (b.map Sp.c)] (.bool (a == b)) := by
  refine told Try.func39 rfl rfl (Pure.of tab_ok Try.func39 rfl Try.ntmps39 rfl (allC (free_map Sp.free _ _ _) (all1 (free_map Sp.free _ _ _))) (allC (fun _ => rfl) (all1 (fun _ => rfl))) (by first | exact .s _ | assumption | exact .tup _ (by intro x hx; simp only [List.mem_cons, List.not_mem_nil, or_false] at hx; rcases hx with rfl | rfl | rfl | rfl <;> first | exact .s _ | (simp_all; done))) fun E hE => ?_)
  have za : ((a.map Sp.c).length : Int) = a.length := by simp
  have zb : ((b.map Sp.c).length : Int) = b.length := by simp
  refine Aw.sm tab_ok mb0 [] rfl rfl ?zo ?zk
  case zo =>
    repeat' apply AllP.cons
    all_goals first | exact trivial
  case zk =>
  refine Aw.seq ?_
  refine Aw.sm tab_ok mb0 [] rfl rfl ?zo ?zk
  case zo =>
    repeat' apply AllP.cons
    all_goals first | exact trivial
  case zk =>
  refine Aw.cond rfl (fun h1 => ?_) (fun h1 => Aw.skip ?_)
  · have h1 : (((a.map Sp.c).length : Int) != ((b.map Sp.c).length : Int)) = true := h1
    have hne : (a == b) = false := by
      cases e : (a == b) with
      | false => rfl
      | true => rw [za, zb, eq_of_beq e] at h1; simp at h1
    rw [hne]
    refine Aw.sm tab_ok mb0 [] rfl rfl ?zo ?zk
    case zo =>
      repeat' apply AllP.cons
      all_goals first | exact trivial
    case zk =>
    exact Aw.ret ⟨_, .cons (.tmp _) .nil, rfl⟩
  have h1 : (((a.map Sp.c).length : Int) != ((b.map Sp.c).length : Int)) = false := h1
  have hlen : a.length = b.length := by
    rw [za, zb] at h1; simp at h1; omega
  generalize hR : (a == b) = R
  have ua : Under 0 (A.sl p .any (a.map Sp.c)) := (free_map Sp.free _ _ _).under
  have ub : Under 0 (A.sl q .any (b.map Sp.c)) := (free_map Sp.free _ _ _).under
  refine Aw.seq ?_
  refine Aw.sm tab_ok mb0 [] rfl rfl ?zo ?zk
  case zo =>
    repeat' apply AllP.cons
    all_goals first | exact trivial
  case zk =>
  refine Aw.block (Aw.rounds 0 hE [(0, .sl p .any (a.map Sp.c)), (1, .sl q .any (b.map Sp.c))] (fun k : Nat => [(5, .int k)]) (fun _ => []) (fun k => k ≤ a.length ∧ (a.drop k == b.drop k) = R) (fun k => a.length - k) 0
    ⟨Nat.zero_le _, by simpa using hR⟩ ⟨⟨.refl _, .refl _, trivial⟩, ⟨.refl _, trivial⟩, trivial, Nat.le_refl _⟩ ⟨ua, ub, trivial⟩ (fun _ _ => ⟨.s _, trivial⟩) (fun _ _ => trivial) ?_)
  rintro k ⟨hk, hrun⟩
  refine Aw.seq ?_
  refine Aw.sm tab_ok mb0 [] rfl rfl ?zo ?zk
  case zo =>
    repeat' apply AllP.cons
    all_goals first | exact trivial
  case zk =>
  refine Aw.cond rfl (fun h2 => Aw.skip ?_) (fun h2 => ?_)
  · have hlt : k < a.length := by have := of_decide_eq_true h2; omega
    have hlb : k < b.length := by omega
    rw [List.drop_eq_getElem_cons hlt, List.drop_eq_getElem_cons hlb, List.cons_beq_cons] at hrun
    have ga : (a.map Sp.c)[k]? = some a[k].c := get_map hlt
    have gb : (b.map Sp.c)[k]? = some b[k].c := get_map hlb
    generalize a[k] = x at *
    generalize b[k] = y at *
    refine Aw.seq (Aw.block ?_)
    refine Aw.sd tab_ok mixed mb0 [(2, x.c), (6, y.c), (8, [.bool (!(x == y))])] rfl (by kernel_rfl) rfl rfl ?zo ?zk
    case zo =>
      repeat' apply AllP.cons
      all_goals first | exact trivial | exact rfl | exact Nat.le_of_ble_eq_true rfl | exact Int.natCast_nonneg _ | exact ga | exact gb | exact neSp _ _ _ _
    case zk =>
    refine Aw.cond rfl (fun h3 => ?_) (fun h3 => Aw.skip ?_)
    · have h4 : (x == y) = false := by simpa using h3
      have : R = false := by rw [← hrun, h4]; rfl
      subst this
      refine Aw.sm tab_ok mb0 [] rfl rfl ?zo ?zk
      case zo =>
        repeat' apply AllP.cons
        all_goals first | exact trivial
      case zk =>
      exact Aw.ret ⟨_, .cons (.tmp _) .nil, rfl⟩
    · have h4 : (x == y) = true := by simpa using h3
      rw [h4, Bool.true_and] at hrun
      refine Aw.em tab_ok mb0 [] rfl rfl ?zo ?zk
      case zo =>
        repeat' apply AllP.cons
        all_goals first | exact trivial | exact inrk k (by omega)
      case zk =>
      exact ⟨k + 1, ⟨hlt, hrun⟩, by omega, ⟨.refl _, .refl _, trivial⟩, ⟨.refl _, trivial⟩, trivial, Nat.zero_le _⟩
  · have hend : k = a.length := by have := of_decide_eq_false h2; omega
    have : R = true := by rw [← hrun, hend, List.drop_length, hlen, List.drop_length]; rfl
    subst this
    refine Aw.exit2 ?_
    refine Aw.sm tab_ok mb0 [] rfl rfl ?zo ?zk
    case zo =>
      repeat' apply AllP.cons
      all_goals first | exact trivial
    case zk =>
    exact Aw.ret ⟨_, .cons (.tmp _) .nil, rfl⟩
theorem Ans_out {f : FuncId} {args : List A} {v v' : A} (h : Ans Try.prog f args v) (hl : A.Le v' v) : Ans Try.prog f args v' := ⟨h.ent, fun φ Z w vs hz hvs => (h.pure φ Z w vs hz hvs).mono fun e w' ⟨u, Z', h1, h2, h3, h4⟩ =>
  ⟨u, Z', h1, h2, hl.vr _ _ _ _ h3, fun u' => by
    cases hs : spareOf v' u' with
    | none => rfl
    | some p => have := hl.own _ _ hs; rw [h4 u'] at this; cases this⟩⟩
theorem AnsL {f : FuncId} {az bs : List A} {v : A} (h : Ans Try.prog f az v) (k : LeL az bs) : Ans Try.prog f bs v := h.le k.len fun i _ => k.get i
def outW (l : List Int) : A := .sl l.isEmpty .any (ints l)
theorem outW_free (l : List Int) : Free (outW l) := free_ints _ _ _
theorem outA_le (l : List Int) : A.Le (outW l) (outA l) := by cases l; exact .any _ _ _; exact .refl _
theorem leTup {l m : List A} (h : LeL l m) : A.Le (.tup l) (.tup m) := ⟨fun φ Z w v hv => by
  obtain ⟨vs, e0, e1, e3⟩ := inv_tup hv
  subst e0
  exact .tup _ _ (by rw [e1, h.len]) fun i hi => (h.get i).vr _ _ _ _ (e3 i (by rw [← h.len]; exact hi)), fun v p e => by simp [spareOf] at e⟩
theorem leT2 {a b a' b' : A} (h : A.Le a a') (k : A.Le b b') : A.Le (.tup [a, b]) (.tup [a', b']) := leTup (.cons h (.cons k .nil))
theorem leT3 {a b c a' b' c' : A} (h : A.Le a a') (k : A.Le b b') (m : A.Le c c') : A.Le (.tup [a, b, c]) (.tup [a', b', c']) := leTup (.cons h (.cons k (.cons m .nil)))
theorem exA_le (l : List Int) : A.Le (outW l) (exA l) := by cases l <;> exact .any _ _ _
def setW (L : List (List Int)) : A := .sl L.isEmpty .any (L.map yS)
theorem setX_le (L : List (List Int)) : A.Le (setW L) (setX L) := by cases L <;> exact .any _ _ _
def spW (l : List Sp) : A := .sl l.isEmpty .any (l.map Sp.c)
structure YardFit (y : List Cask) : Prop where
  l : (y.length : Int) ≤ 9223372036854775806
theorem Set_w (p : Pile) (hpl : (p.st.length : Int) ≤ 9223372036854775806) : Ans Try.prog 20 [.agg p.c] (.tup [setW (SetR p).1, .int (SetR p).2]) := Ans_out (set_t p hpl) (leT2 (setX_le _) (.refl _))
theorem Run_w (y : List Cask) (b : Bool) (hy : (y.length : Int) ≤ 9223372036854775806) (pb : Bool) (plan : List Int) (hp : (plan.length : Int) ≤ 9223372036854775806) (lb : Bool) (leaks : List NL) :
    Ans Try.prog 23 [.sl b .any (y.map Cask.c), .sl pb .any (ints plan), .sl lb .any (leaks.map NL.c)] (.tup [outW (RunR y plan leaks).1, .int (RunR y plan leaks).2.1, .int (RunR y plan leaks).2.2]) := Ans_out (run_t y b hy pb plan hp lb leaks) (leT3 (outA_le _) (.refl _) (.refl _))
theorem Keep_w (y : List Cask) (b : Bool) (hy : (y.length : Int) ≤ 9223372036854775806) (months : Int) : Ans Try.prog 30 [.sl b .any (y.map Cask.c), .int months] (.tup [outW (KeepR y months).1, .int (KeepR y months).2]) := Ans_out (keep_t y b hy months) (leT2 (exA_le _) (.refl _))
theorem BalanceR_ok (b : Book) : ((BalanceR b).2 = 0 → (BalanceR b).1.isEmpty = false) ∧ ((BalanceR b).2 ≠ 0 → (BalanceR b).1 = []) := by
  unfold BalanceR
  by_cases h : b.ok = true
  · rw [if_pos h]
    have hl := (Book.ok_iff.1 h).l
    cases hb : (BalW b).1 with
    | some cs =>
      refine ⟨fun _ => ?_, fun h => absurd rfl h⟩
      obtain ⟨m, hm⟩ : ∃ m, b.ms.length = m + 1 := ⟨b.ms.length - 1, by omega⟩
      simp [hm]
    | none => exact ⟨fun h => absurd (show (65 : Int) = 0 from h) (by decide), fun _ => rfl⟩
  · rw [if_neg h]; exact ⟨fun h => absurd h (by decide), fun _ => rfl⟩
theorem Balance_w (b : Book) (hbl : (b.ms.length : Int) ≤ 9223372036854775806) : Ans Try.prog 37 [.agg b.c] (.tup [spW (BalanceR b).1, .int (BalanceR b).2]) := by
  refine Ans_out (balance_t b hbl) (leT2 ?_ (.refl _))
  obtain ⟨h1, h2⟩ := BalanceR_ok b
  by_cases h : (BalanceR b).2 = 0
  · rw [if_pos h]
    unfold spW
    rw [h1 h]; exact .any _ _ _
  · rw [if_neg h, h2 h]; exact .any _ _ _
def pile0 : Pile := ⟨false, [30, 40, 50, 35, 45, 60, 25], 100, 10⟩
def yard0 : List Cask := [⟨50, 60, 20, 5, 10⟩, ⟨40, 60, 30, 2, 8⟩]
def bookN (n : Int) : Book := ⟨3, false, [⟨0, 1, 10, 20⟩, ⟨1, 2, 5, 12⟩, ⟨1, 0, 2, 4⟩, ⟨2, 0, 0, n⟩]⟩
theorem pile0_t : Ans Try.prog 59 [] (.agg pile0.c) := by
  have h : Ans Try.prog 59 [] (.agg [.sl false .exact (ints [30, 40, 50, 35, 45, 60, 25]), .int 100, .int 10]) := by
    have hfr : Free (.agg [.sl false .exact (ints [30, 40, 50, 35, 45, 60, 25]), .int 100, .int 10]) := .agg _ (allC (free_ints _ _ _) (allC (.s _) (all1 (.s _))))
    refine told Try.func59 rfl rfl (Pure.of tab_ok Try.func59 rfl Try.ntmps59 rfl allN allN hfr fun E hE => ?_)
    refine Aw.sm tab_ok mb0 [] rfl rfl ?zo ?zk
    case zo =>
      repeat' apply AllP.cons
      all_goals first | exact trivial
    case zk =>
    refine Aw.sm tab_ok mb0 [] rfl rfl ?zo ?zk
    case zo =>
      repeat' apply AllP.cons
      all_goals first | exact trivial | exact rfl | exact Nat.le_of_ble_eq_true rfl
    case zk =>
    exact Aw.ret ⟨_, .cons (resC rfl rfl rfl rfl rfl) .nil, rfl⟩
  exact Ans_out h (.agg (.cons (.any _ _ _) (.cons (.refl _) (.cons (.refl _) .nil))))
theorem yard0_t : Ans Try.prog 60 [] (.sl false .any (yard0.map Cask.c)) := by
  have h : Ans Try.prog 60 [] (.sl false .exact (yard0.map Cask.c)) := by
    have hfr : Free (.sl false .exact (yard0.map Cask.c)) := free_map Cask.free _ _ _
    refine told Try.func60 rfl rfl (Pure.of tab_ok Try.func60 rfl Try.ntmps60 rfl allN allN hfr fun E hE => ?_)
    refine Aw.sm tab_ok mb0 [] rfl rfl ?zo ?zk
    case zo =>
      repeat' apply AllP.cons
      all_goals first | exact trivial
    case zk =>
    refine Aw.sm tab_ok mb0 [(0, [.agg (Sp.c ⟨5, 10⟩)]), (2, [.agg (Sp.c ⟨2, 8⟩)])] rfl rfl ?zo ?zk
    case zo =>
      repeat' apply AllP.cons
      all_goals first | exact trivial | exact Nat.le_of_ble_eq_true rfl | exact to_t _ _
    case zk =>
    exact Aw.ret ⟨_, .cons (.tmp _) .nil, rfl⟩
  exact Ans_out h (.any _ _ _)
theorem bookN_t (n : Int) : Ans Try.prog 61 [.int n] (.agg (bookN n).c) := by
  have h : Ans Try.prog 61 [.int n] (.agg [.int 3, .sl false .exact ((bookN n).ms.map Mv.c)]) := by
    have hfr : Free (.agg [.int 3, .sl false .exact ((bookN n).ms.map Mv.c)]) := .agg _ (allC (.s _) (all1 (free_map Mv.free _ _ _)))
    refine told Try.func61 rfl rfl (Pure.of tab_ok Try.func61 rfl Try.ntmps61 rfl (all1 (.s _)) (all1 (fun _ => rfl)) (by first | exact .s _ | assumption | exact .tup _ (by intro x hx; simp only [List.mem_cons, List.not_mem_nil, or_false] at hx; rcases hx with rfl | rfl | rfl | rfl <;> first | exact .s _ | (simp_all; done))) fun E hE => ?_)
    refine Aw.sm tab_ok mb0 [] rfl rfl ?zo ?zk
    case zo =>
      repeat' apply AllP.cons
      all_goals first | exact trivial
    case zk =>
    refine Aw.sm tab_ok mb0 [(0, [.agg (Sp.c ⟨10, 20⟩)]), (2, [.agg (Sp.c ⟨5, 12⟩)]), (4, [.agg (Sp.c ⟨2, 4⟩)]), (7, [.agg (Sp.c ⟨0, n⟩)])] rfl rfl ?zo ?zk
    case zo =>
      repeat' apply AllP.cons
      all_goals first | exact trivial | exact rfl | exact Nat.le_of_ble_eq_true rfl | exact to_t _ _
    case zk =>
    exact Aw.ret ⟨_, .cons (resC rfl rfl rfl rfl rfl) .nil, rfl⟩
  exact Ans_out h (.agg (.cons (.refl _) (.cons (.any _ _ _) .nil)))
theorem w1 : AreR pile0 [⟨false, [1, 2]⟩, ⟨false, [3, 5]⟩] = (true, 0) := by decide +kernel
theorem w2 : SetR pile0 = ([[0, 1, 6], [2, 4], [3, 5]], 0) := by decide +kernel
theorem w3 : RunR yard0 [1, 0] [⟨false, [10, 8]⟩, ⟨false, [5, 2]⟩] = ([60, 58], -1, 0) := by decide +kernel
theorem w4 : FirstR yard0 12 = (1, 1, 0) := by decide +kernel
theorem w5 : KeepR yard0 4 = ([1, 0, 0, 0], 0) := by decide +kernel
theorem w6 : BalanceR (bookN 9) = ([⟨10, 13⟩, ⟨6, 9⟩, ⟨2, 4⟩, ⟨6, 9⟩], 0) := by decide +kernel
theorem w7 : ProvesR (bookN 4) 3 = (true, 0) := by decide +kernel
theorem w8 : CountsR (bookN 9) [11, 8, 3, 8] = (true, 0) := by decide +kernel
theorem x1 : Ans Try.prog 16 [.agg pile0.c, .sl false .exact [[.sl false .exact (ints [1, 2])], [.sl false .exact (ints [3, 5])]]] (.tup [.bool true, .int 0]) := by
  have h := are_t pile0 (by decide) false [⟨false, [1, 2]⟩, ⟨false, [3, 5]⟩] (by decide) (by decide)
  rw [w1] at h
  exact AnsL h (.cons (.refl _) (.cons (.rows (.cons (.cons (.any _ _ _) .nil) (.cons (.cons (.any _ _ _) .nil) .nil))) .nil))
theorem x2 : Ans Try.prog 20 [.agg pile0.c] (.tup [setW [[0, 1, 6], [2, 4], [3, 5]], .int 0]) := by
  have h := Set_w pile0 (by decide)
  rw [w2] at h
  exact h
theorem x3 : Ans Try.prog 23 [.sl false .any (yard0.map Cask.c), .sl false .exact (ints [1, 0]), .sl false .exact [[.sl false .exact (ints [10, 8])], [.sl false .exact (ints [5, 2])]]] (.tup [outW [60, 58], .int (-1), .int 0]) := by
  have h := Run_w yard0 false (by decide) false [1, 0] (by decide) false [⟨false, [10, 8]⟩, ⟨false, [5, 2]⟩]
  rw [w3] at h
  exact AnsL h (.cons (.refl _) (.cons (.any _ _ _) (.cons (.rows (.cons (.cons (.any _ _ _) .nil) (.cons (.cons (.any _ _ _) .nil) .nil))) .nil)))
theorem x4 : Ans Try.prog 28 [.sl false .any (yard0.map Cask.c), .int 12] (.tup [.int 1, .int 1, .int 0]) := by
  have h := first_t yard0 false (by decide) 12
  rw [w4] at h
  exact h
theorem x5 : Ans Try.prog 30 [.sl false .any (yard0.map Cask.c), .int 4] (.tup [outW [1, 0, 0, 0], .int 0]) := by
  have h := Keep_w yard0 false (by decide) 4
  rw [w5] at h
  exact h
theorem x6 : Ans Try.prog 37 [.agg (bookN 9).c] (.tup [spW [⟨10, 13⟩, ⟨6, 9⟩, ⟨2, 4⟩, ⟨6, 9⟩], .int 0]) := by
  have h := Balance_w (bookN 9) (by decide)
  rw [w6] at h
  exact h
theorem x7 : Ans Try.prog 52 [.agg (bookN 4).c, .int 3] (.tup [.bool true, .int 0]) := by
  have h := proves_t (bookN 4) (by decide) 3
  rw [w7] at h
  exact h
theorem x8 : Ans Try.prog 33 [.agg (bookN 9).c, .sl false .exact (ints [11, 8, 3, 8])] (.tup [.bool true, .int 0]) := by
  have h := counts_t (bookN 9) (by decide) false [11, 8, 3, 8]
  rw [w8] at h
  exact AnsL h (.cons (.refl _) (.cons (.any _ _ _) .nil))
theorem same_e (a b : List Int) (p : Bool) (hl : (a.length : Int) ≤ 9223372036854775806) : Ans Try.prog 25 [.sl p .any (ints a), .sl false .exact (ints b)] (.bool (a == b)) := AnsL (same_t p false a b hl) (.cons (.refl _) (.cons (.any _ _ _) .nil))
theorem sameS_e (a b : List Sp) (p : Bool) (hl : (a.length : Int) ≤ 9223372036854775806) : Ans Try.prog 39 [.sl p .any (a.map Sp.c), .sl false .exact (b.map Sp.c)] (.bool (a == b)) := AnsL (sameSpans_t p false a b hl) (.cons (.refl _) (.cons (.any _ _ _) .nil))
set_option maxRecDepth 20000 in
set_option maxHeartbeats 1000000 in
theorem works_t : Ans Try.prog 21 [] (.bool true) := by
  refine told Try.func21 rfl rfl (Pure.of tab_ok Try.func21 rfl Try.ntmps21 rfl allN allN (.s _) fun E hE => ?_)
  have hs1 := same_e [60, 58] [60, 58] false (by decide)
  have hs2 := sameS_e [⟨10, 13⟩, ⟨6, 9⟩, ⟨2, 4⟩, ⟨6, 9⟩] [⟨10, 13⟩, ⟨6, 9⟩, ⟨2, 4⟩, ⟨6, 9⟩] false (by decide)
  refine Aw.sm tab_ok mb0 [] rfl rfl ?zo ?zk
  case zo =>
    repeat' apply AllP.cons
    all_goals first | exact trivial
  case zk =>
  refine Aw.sm tab_ok mb0 [(0, [.agg pile0.c]), (4, [.tup [.bool true, .int 0]])] rfl rfl ?zo ?zk
  case zo =>
    repeat' apply AllP.cons
    all_goals first | exact trivial | exact Nat.le_of_ble_eq_true rfl | exact pile0_t | exact x1
  case zk =>
  refine Aw.sm tab_ok mb0 [(0, [.agg pile0.c]), (1, [.tup [setW [[0, 1, 6], [2, 4], [3, 5]], .int 0]])] rfl rfl ?zo ?zk
  case zo =>
    repeat' apply AllP.cons
    all_goals first | exact trivial | exact pile0_t | exact x2
  case zk =>
  refine Aw.sm tab_ok mb0 [(0, [.sl false .any (yard0.map Cask.c)]), (5, [.tup [outW [60, 58], .int (-1), .int 0]])] rfl rfl ?zo ?zk
  case zo =>
    repeat' apply AllP.cons
    all_goals first | exact trivial | exact Nat.le_of_ble_eq_true rfl | exact yard0_t | exact x3
  case zk =>
  refine Aw.sm tab_ok mb0 [(0, [.sl false .any (yard0.map Cask.c)]), (1, [.tup [.int 1, .int 1, .int 0]])] rfl rfl ?zo ?zk
  case zo =>
    repeat' apply AllP.cons
    all_goals first | exact trivial | exact yard0_t | exact x4
  case zk =>
  refine Aw.sm tab_ok mb0 [(0, [.sl false .any (yard0.map Cask.c)]), (1, [.tup [outW [1, 0, 0, 0], .int 0]])] rfl rfl ?zo ?zk
  case zo =>
    repeat' apply AllP.cons
    all_goals first | exact trivial | exact yard0_t | exact x5
  case zk =>
  refine Aw.seq ?_
  refine Aw.sm tab_ok mb0 [(30, [.bool true])] rfl rfl ?zo ?zk
  case zo =>
    repeat' apply AllP.cons
    all_goals first | exact trivial | exact id | exact fun _ => rfl | exact fun _ => Nat.le_of_ble_eq_true rfl | exact fun _ => hs1
  case zk =>
  refine Aw.cond rfl (fun h => absurd h (by decide)) (fun h => Aw.skip ?_)
  refine Aw.sm tab_ok mb0 [(0, [.agg (bookN 9).c]), (1, [.tup [spW [⟨10, 13⟩, ⟨6, 9⟩, ⟨2, 4⟩, ⟨6, 9⟩], .int 0]])] rfl rfl ?zo ?zk
  case zo =>
    repeat' apply AllP.cons
    all_goals first | exact trivial | exact bookN_t 9 | exact x6
  case zk =>
  refine Aw.sm tab_ok mb0 [(0, [.agg (bookN 4).c]), (1, [.tup [.bool true, .int 0]])] rfl rfl ?zo ?zk
  case zo =>
    repeat' apply AllP.cons
    all_goals first | exact trivial | exact bookN_t 4 | exact x7
  case zk =>
  refine Aw.sm tab_ok mb0 [(0, [.agg (bookN 9).c]), (2, [.tup [.bool true, .int 0]])] rfl rfl ?zo ?zk
  case zo =>
    repeat' apply AllP.cons
    all_goals first | exact trivial | exact Nat.le_of_ble_eq_true rfl | exact bookN_t 9 | exact x8
  case zk =>
  refine Aw.sm tab_ok mb0 [(18, [.agg (Sp.c ⟨10, 13⟩)]), (19, [.agg (Sp.c ⟨6, 9⟩)]), (20, [.agg (Sp.c ⟨2, 4⟩)]), (21, [.agg (Sp.c ⟨6, 9⟩)]), (23, [.bool true])] rfl rfl ?zo ?zk
  case zo =>
    repeat' apply AllP.cons
    all_goals first | exact trivial | exact id | exact fun _ => rfl | exact fun _ => Nat.le_of_ble_eq_true rfl | exact fun _ => to_t _ _ | exact fun _ => hs2
  case zk =>
  exact Aw.ret ⟨_, .cons (.tmp _) .nil, rfl⟩
end Go.Proofs.Ytampldajinhenaa

set_option maxRecDepth 100000
namespace Go.Proofs.Ytampldajinhenaa
open Go Go.AL Go.AL.Q Go.AL.Br Go.ChangeShapes Go.WideShapes Go.ChangeAt Go.RowKit
theorem own : ownKnob Try.prog.godebug = none := by kernel_rfl
theorem laidOut : laidOutB Try.prog = true := by kernel_rfl
theorem uBool : Try.prog.underlying 4 = some .bool := by kernel_rfl
theorem u3 : Try.prog.underlying 3 = some (.int .i64) := by kernel_rfl
theorem c3 : Try.prog.cellsOf 3 = 1 := by kernel_rfl
section
variable {H : Type} {enc : TypeId × Value → H} {w : World} {base : Nat} {held : Bool} {φ : Names}
theorem r3 : Reads enc Try.prog w base held φ 3 1 (fun n : Int => [A.int n]) fun n => inR n := fun n cs y h _ => by
  obtain ⟨z, rfl, _, hw⟩ := DataW.trod_int u3 h
  exact ⟨z, by simpa [Lit.wf, inR, IntKind.min, IntKind.max, IntKind.signed, IntKind.bits] using hw, rfl, .one (.s _) rfl⟩
variable {v : Value} {d : DataW H} {p : List MemPlace} {r : Reach} {b0 : Nat}
end
end Go.Proofs.Ytampldajinhenaa

