/- ShoalFound holds: casts that surely find the shoal miss it in no cell, and no fewer, nor earlier ones, do so. No condition. -/
import Derived.Test.YtohbjneaaahpcaaK7
set_option linter.all false
namespace Go.Proofs.Ytohbjneaaahpcaa
open Go Go.AL Go.AL.Q Go.AL.Sh
theorem Trk.hours {s : Sea} (ho : s.Ok) {T : List Nat} (h : Trk s T) : (T.length : Int) = s.hours := by have := hrs_pos ho; have := h.len; omega
end Go.Proofs.Ytohbjneaaahpcaa

namespace Go.Proofs.Ytohbjneaaahpcaa
open Go Go.AL Go.AL.Q Go.AL.Sh
structure NextIs (w : Int) (G : List Int) (casts : List Sp) (k : Nat) (p : Int × Int) : Prop where
  i : ∃ i : Nat, p.1 = i ∧ i < k ∧ p.2 = worstF w G (casts.getD i ⟨0, 0⟩)
  ge : ∀ j : Nat, j < k → p.2 ≤ worstF w G (casts.getD j ⟨0, 0⟩) ∧ ((j : Int) < p.1 → p.2 < worstF w G (casts.getD j ⟨0, 0⟩))
def lastI (l : List Int) : Int := l.getLast?.getD (-1)
theorem fromN_last {l : List Int} (h : ∀ i ∈ l, 0 ≤ i) : (fromN l : Int) = lastI l + 1 := by
  unfold fromN lastI
  cases e : l.getLast? with
  | none => rfl
  | some x =>
    have := h x (List.mem_of_getLast? e)
    simp only [Option.getD_some]; omega
theorem lastI_snoc (l : List Int) (x : Int) : lastI (l ++ [x]) = x := by unfold lastI; rw [List.getLast?_concat]; rfl
structure Rd (n f : Nat) (last : Int) (m : List Int) : Prop where
  len : m.length = f
  ri : risingF n last m = true
structure ChT (fd : List Int → Bool) (n f : Nat) (l : List Int) (r : Cst) : Prop where
  t : r.1 = true → ∃ m, Rd n f (lastI l) m ∧ r.2 = l ++ m ∧ fd (l ++ m) = true ∧ ∀ m', Rd n f (lastI l) m' → fd (l ++ m') = true → Q.befF m' m = false
  f : r.1 = false → ∀ m', Rd n f (lastI l) m' → fd (l ++ m') = false
structure GoT (fd : List Int → Bool) (n f : Nat) (l : List Int) (is : List Nat) (r : Cst) : Prop where
  t : r.1 = true → ∃ i ∈ is, ∃ m, Rd n f i m ∧ r.2 = l ++ (i : Int) :: m ∧ fd (l ++ (i : Int) :: m) = true ∧ ∀ i' ∈ is, ∀ m', Rd n f i' m' → fd (l ++ (i' : Int) :: m') = true → Q.befF ((i' : Int) :: m') ((i : Int) :: m) = false
  f : r.1 = false → ∀ i' ∈ is, ∀ m', Rd n f i' m' → fd (l ++ (i' : Int) :: m') = false
theorem chGo_is {fd : List Int → Bool} {n f : Nat} {l : List Int} {rec : List Int → List Int → Cst} (hrec : ∀ (i : Nat) (o : List Int), ChT fd n f (l ++ [(i : Int)]) (rec (l ++ [(i : Int)]) o)) : ∀ (is : List Nat) (o : List Int), is.Pairwise (· < ·) → GoT fd n f l is (chGo rec l is o)
  | [], o, _ => ⟨(fun h => by cases h), (fun _ i' h => by cases h)⟩
  | i :: is, o, hp => by
    have h1 := hrec i o
    have hap : ∀ m, l ++ [(i : Int)] ++ m = l ++ (i : Int) :: m := fun m => by simp
    rw [chGo]
    split
    · rename_i ht
      obtain ⟨m, k1, k2, k3, k4⟩ := h1.t ht
      rw [lastI_snoc] at k1 k4
      refine ⟨fun _ => ⟨i, by simp, m, k1, by rw [k2, hap], by rw [← hap]; exact k3, fun i' hi' m' hm' hfd => ?_⟩, fun h => by rw [ht] at h; cases h⟩
      rcases List.mem_cons.1 hi' with rfl | h
      · rw [Q.befF, if_pos rfl]; exact k4 m' hm' (by rw [hap]; exact hfd)
      · have := (List.pairwise_cons.1 hp).1 i' h
        rw [Q.befF, if_neg (by omega)]; exact decide_eq_false (by omega)
    · rename_i ht
      have ht : (rec (l ++ [(i : Int)]) o).1 = false := by simpa using ht
      have hno := h1.f ht
      rw [lastI_snoc] at hno
      have ih := chGo_is hrec is (rec (l ++ [(i : Int)]) o).2 (List.pairwise_cons.1 hp).2
      refine ⟨fun h => ?_, fun h i' hi' m' hm' => ?_⟩
      · obtain ⟨j, k0, m, k1, k2, k3, k4⟩ := ih.t h
        refine ⟨j, by simp [k0], m, k1, k2, k3, fun i' hi' m' hm' hfd => ?_⟩
        rcases List.mem_cons.1 hi' with rfl | h
        · have := hno m' hm'; rw [hap, hfd] at this; cases this
        · exact k4 i' h m' hm' hfd
      · rcases List.mem_cons.1 hi' with rfl | h2
        · rw [← hap]; exact hno m' hm'
        · exact ih.f h i' h2 m' hm'
theorem range_drop_mem {n a i : Nat} : i ∈ (List.range n).drop a ↔ a ≤ i ∧ i < n := by
  rw [List.range_eq_range', List.drop_range', List.mem_range']
  constructor
  · rintro ⟨j, h1, rfl⟩; omega
  · rintro ⟨h1, h2⟩; exact ⟨i - a, by omega, by omega⟩
theorem chF_is (fd : List Int → Bool) (n : Nat) : ∀ (f : Nat) (l o : List Int), (∀ i ∈ l, 0 ≤ i) → ChT fd n f l (chF fd n f l o)
  | 0, l, o, _ => by
    have hn : ∀ m, Rd n 0 (lastI l) m → m = [] := fun m h => List.eq_nil_of_length_eq_zero h.len
    refine ⟨fun h => ⟨[], ⟨rfl, rfl⟩, by simp [chF], by simpa [chF] using h, fun m' h' _ => by rw [hn m' h']; rfl⟩, fun h m' h' => ?_⟩
    rw [hn m' h', List.append_nil]; exact h
  | f + 1, l, o, hl => by
    rw [chF]
    have hl1 : ∀ i : Nat, ∀ x ∈ l ++ [(i : Int)], 0 ≤ x := fun i x hx => by
      rcases List.mem_append.1 hx with h | h
      · exact hl x h
      · simp at h; omega
    have key := chGo_is (fd := fd) (n := n) (f := f) (l := l) (rec := chF fd n f) (fun i o => chF_is fd n f _ o (hl1 i)) ((List.range n).drop (fromN l)) o (List.Pairwise.sublist (List.drop_sublist _ _) List.pairwise_lt_range)
    have hfr := fromN_last hl
    have sp : ∀ m, Rd n (f + 1) (lastI l) m → ∃ i : Nat, ∃ m2, m = (i : Int) :: m2 ∧ i ∈ (List.range n).drop (fromN l) ∧ Rd n f i m2 := fun m hm => by
      cases m with
      | nil => have := hm.len; simp at this
      | cons x m2 =>
        have h1 := hm.ri
        rw [risingF] at h1
        have h2 := wi_iff.1 (ac1 h1)
        have hx : ((x.toNat : Nat) : Int) = x := by omega
        refine ⟨x.toNat, m2, by rw [hx], range_drop_mem.2 ⟨by omega, by omega⟩, ⟨by have := hm.len; simpa using this, by rw [hx]; exact ac2 h1⟩⟩
    have sp2 : ∀ (i : Nat) m2, i ∈ (List.range n).drop (fromN l) → Rd n f i m2 → Rd n (f + 1) (lastI l) ((i : Int) :: m2) := fun i m2 hi hm => by
      have := range_drop_mem.1 hi
      refine ⟨by simp [hm.len], ?_⟩
      rw [risingF, wi_iff.2 (by omega), hm.ri]; rfl
    refine ⟨fun h => ?_, fun h m' hm' => ?_⟩
    · obtain ⟨i, k0, m, k1, k2, k3, k4⟩ := key.t h
      refine ⟨(i : Int) :: m, sp2 i m k0 k1, k2, k3, fun m' hm' hfd => ?_⟩
      obtain ⟨i', m2, rfl, q1, q2⟩ := sp m' hm'
      exact k4 i' q1 m2 q2 hfd
    · obtain ⟨i', m2, rfl, q1, q2⟩ := sp m' hm'
      exact key.f h i' q1 m2 q2
structure SureIs (fd : List Int → Bool) (n : Nat) (o : List Int) : Prop where
  ri : risingF n (-1) o = true
  ok : fd o = true
  pos : 1 ≤ o.length
  first : ∀ o', o' ≠ [] → risingF n (-1) o' = true → fd o' = true → o.length < o'.length ∨ o'.length = o.length ∧ Q.befF o' o = false
theorem suGo_is (fd : List Int → Bool) (n : Nat) : ∀ (ks : List Nat) (a : Nat) (o : List Int), ks = (List.range n).drop a → (∀ o', o' ≠ [] → risingF n (-1) o' = true → fd o' = true → a < o'.length) →
    match suGo fd n ks o with
    | some r => SureIs fd n r
    | none => ∀ o', o' ≠ [] → risingF n (-1) o' = true → fd o' = false
  | [], a, o, hk, hb => by
    rw [suGo]
    intro o' h1 h2
    rw [← Bool.not_eq_true]
    intro h3
    have h4 := hb o' h1 h2 h3
    have h5 := (rising_in h2 (by omega) (by cases o' with | nil => exact absurd rfl h1 | cons x o' => have := wi_iff.1 (ac1 (show cond _ _ false = true from h2)); omega)).2
    have : n ≤ a := by
      have := congrArg List.length hk
      simp at this; omega
    omega
  | k :: ks, a, o, hk, hb => by
    have ha : a < n := by
      have := congrArg List.length hk
      simp at this; omega
    have hk2 : (List.range n).drop a = a :: (List.range n).drop (a + 1) := by
      rw [List.drop_eq_getElem_cons (by simpa using ha)]; simp
    rw [hk2] at hk
    simp only [List.cons.injEq] at hk
    obtain ⟨rfl, hks⟩ := hk
    have key := chF_is fd n (k + 1) [] o (fun _ h => by cases h)
    rw [suGo]
    split
    · rename_i r hr
      split at hr
      · rename_i ht
        cases hr
        obtain ⟨m, k1, k2, k3, k4⟩ := key.t ht
        rw [List.nil_append] at k2 k3
        rw [k2]
        refine ⟨k1.ri, k3, by rw [k1.len]; omega, fun o' h1 h2 h3 => ?_⟩
        have h4 := hb o' h1 h2 h3
        rcases Nat.lt_or_ge (k + 1) o'.length with h5 | h5
        · left; rw [k1.len]; exact h5
        · right
          have e : o'.length = k + 1 := by omega
          exact ⟨by rw [k1.len, e], k4 o' ⟨e, h2⟩ h3⟩
      · rename_i ht
        have ht : (chF fd n (k + 1) [] o).1 = false := by simpa using ht
        have ih := suGo_is fd n ks (k + 1) (chF fd n (k + 1) [] o).2 hks (fun o' h1 h2 h3 => by
          have h4 := hb o' h1 h2 h3
          rcases Nat.lt_or_ge (k + 1) o'.length with h5 | h5
          · exact h5
          · have := key.f ht o' ⟨by omega, h2⟩
            rw [List.nil_append, h3] at this; cases this)
        rw [hr] at ih
        exact ih
    · rename_i hr
      split at hr
      · cases hr
      · rename_i ht
        have ht : (chF fd n (k + 1) [] o).1 = false := by simpa using ht
        have ih := suGo_is fd n ks (k + 1) (chF fd n (k + 1) [] o).2 hks (fun o' h1 h2 h3 => by
          have h4 := hb o' h1 h2 h3
          rcases Nat.lt_or_ge (k + 1) o'.length with h5 | h5
          · exact h5
          · have := key.f ht o' ⟨by omega, h2⟩
            rw [List.nil_append, h3] at this; cases this)
        rw [hr] at ih
        exact ih
theorem su_is (fd : List Int → Bool) (n : Nat) : match suGo fd n (List.range n) [] with
    | some r => SureIs fd n r
    | none => ∀ o', o' ≠ [] → risingF n (-1) o' = true → fd o' = false :=
  suGo_is fd n _ 0 [] rfl fun o' h _ _ => by cases o' with | nil => exact absurd rfl h | cons x o' => simp
theorem memL_rising (x : Int) (n : Nat) : risingF n (-1) (memL x n) = true := by
  unfold memL
  exact rising_of (List.Pairwise.filter _ List.pairwise_lt_range) (fun x _ => by omega) fun x hx => by
    have := List.mem_range.1 (List.mem_filter.1 hx).1; omega
end Go.Proofs.Ytohbjneaaahpcaa

namespace Go.Proofs.Ytohbjneaaahpcaa
open Go Go.AL Go.AL.Q Go.AL.Sh
end Go.Proofs.Ytohbjneaaahpcaa

namespace Go.Proofs.Ytohbjneaaahpcaa
open Go Go.AL Go.AL.Q Go.AL.Sh
theorem AskE_sound {s : Sea} {l : List Rep} {wrong hour : Int} {casts : List Sp} (hok : s.ok = true) (hr : s.repsOk l = true) (ha : askedB s wrong hour = true) : AskE s l wrong hour casts = if castsOk s casts then canE (canF s l wrong hour) else 13 := by
  unfold AskE; rw [hok, hr, ha]; simp only [if_true]
theorem mod_asked {s : Sea} (ho : s.Ok) (a b : Int) : askedB s (a % 25) (b % s.hours) = true := by
  have := ho.hr
  exact asked_iff.2 ⟨⟨Int.emod_nonneg _ (by decide), by have := Int.emod_lt_of_pos a (show (0 : Int) < 25 by decide); omega⟩, Int.emod_nonneg _ (by omega), Int.emod_lt_of_pos _ (by omega)⟩
theorem canE_or (G : List Int) : canE G = 0 ∨ canE G = 12 := by cases G; exact .inr rfl; exact .inl rfl
end Go.Proofs.Ytohbjneaaahpcaa

namespace Go.Proofs.Ytohbjneaaahpcaa
open Go Go.AL Go.AL.Q Go.AL.Sh
theorem shl1 {n : Nat} (h : n ≤ 8) : IntKind.i64.wrap (1 * 2 ^ (min ((n : Int).toNat) 64)) = ((2 ^ n : Nat) : Int) := by
  have : n = 0 ∨ n = 1 ∨ n = 2 ∨ n = 3 ∨ n = 4 ∨ n = 5 ∨ n = 6 ∨ n = 7 ∨ n = 8 := by omega
  rcases this with rfl | rfl | rfl | rfl | rfl | rfl | rfl | rfl | rfl <;> decide +kernel
theorem fnd_nil {w : Int} {G : List Int} {casts : List Sp} (h : G ≠ []) : fndB w G casts [] = false := by
  cases G with
  | nil => exact absurd rfl h
  | cons x G => rfl
theorem members_w (s : Int) (n : Nat) (hn : n ≤ 1000) : Ans Try.prog 42 [.int s, .int n] (outW (memL s n)) := Ans_out (members_t s n hn) (outA_le _)
set_option maxRecDepth 20000 in
set_option maxHeartbeats 2000000 in
theorem law_found (x : Srch) (hx : SrFit x) (a b n3 : Int) (cb : Bool) (casts : List Sp) (hcs : CstFit casts) : Ans Try.prog 13 [.agg x.c, .agg [.int a, .int b, .int n3], .sl cb .any (casts.map Sp.c)] (.bool true) := by
  have hso := sound_t x hx
  have lc : ((casts.map Sp.c).length : Int) = casts.length := by simp
  refine told Try.func13 rfl rfl (Pure.of tab_ok Try.func13 rfl Try.ntmps13 rfl (allC (.agg _ x.free) (allC (.agg _ (allC (.s _) (allC (.s _) (all1 (.s _))))) (all1 (free_map Sp.free _ _ _)))) (allC (fun _ => rfl) (allC (fun _ => rfl) (all1 (fun _ => rfl)))) (by first | exact .s _ | assumption | exact .tup _ (by intro x hx; simp only [List.mem_cons, List.not_mem_nil, or_false] at hx; rcases hx with rfl | rfl | rfl | rfl <;> first | exact .s _ | (simp_all; done))) fun E hE => ?_)
  refine Aw.sm tab_ok mb0 [] rfl rfl ?zo ?zk
  case zo =>
    repeat' apply AllP.cons
    all_goals first | exact trivial | exact id | exact rfl | exact fun _ => rfl | exact Nat.le_of_ble_eq_true rfl | exact fun _ => Nat.le_of_ble_eq_true rfl | exact Int.natCast_nonneg _ | exact fun _ => Int.natCast_nonneg _ | exact within_t _ _ _ | exact (within_t _ _ _).un | exact in_t _ _ _ | exact (in_t _ _ _).un | exact gq_f | exact gq_t | exact gq_c | exact fun _ _ => rfl | exact works_t | exact fun _ => works_t
  case zk =>
  refine Aw.seq ?_
  cases hsb : soundB x with
  | false =>
    rw [hsb] at hso
    refine Aw.sm tab_ok mb0 [(1, [.bool false])] rfl rfl ?zo ?zk
    case zo =>
      repeat' apply AllP.cons
      all_goals first | exact trivial | exact id | exact rfl | exact fun _ => rfl | exact Nat.le_of_ble_eq_true rfl | exact fun _ => Nat.le_of_ble_eq_true rfl | exact Int.natCast_nonneg _ | exact fun _ => Int.natCast_nonneg _ | exact within_t _ _ _ | exact (within_t _ _ _).un | exact in_t _ _ _ | exact (in_t _ _ _).un | exact gq_f | exact gq_t | exact gq_c | exact fun _ _ => rfl | exact works_t | exact fun _ => works_t | exact hso
    case zk =>
    refine Aw.cond rfl (fun _ => ?_) (fun h => absurd h (by decide))
    refine Aw.sm tab_ok mb0 [(0, [.bool true])] rfl rfl ?zo ?zk
    case zo =>
      repeat' apply AllP.cons
      all_goals first | exact trivial | exact id | exact rfl | exact fun _ => rfl | exact Nat.le_of_ble_eq_true rfl | exact fun _ => Nat.le_of_ble_eq_true rfl | exact Int.natCast_nonneg _ | exact fun _ => Int.natCast_nonneg _ | exact within_t _ _ _ | exact (within_t _ _ _).un | exact in_t _ _ _ | exact (in_t _ _ _).un | exact gq_f | exact gq_t | exact gq_c | exact fun _ _ => rfl | exact works_t | exact fun _ => works_t
    case zk =>
    exact Aw.ret ⟨_, .cons (.tmp _) .nil, rfl⟩
  | true =>
  rw [hsb] at hso
  obtain ⟨hok, hr⟩ := sound_iff.1 hsb
  have ho := Sea.ok_of hok
  have hrf := reps_fit hr
  have hm := ho.many
  have hhr := ho.hr
  have hask := mod_asked ho a b
  have hma := mod_t a 25 (by decide) (by decide)
  have hmb := mod_t b x.s.hours (by omega) (by omega)
  have hnx := Sure_w x hx (a % 25) (b % x.s.hours) cb casts hcs
  have hcn := Can_w x hx (a % 25) (b % x.s.hours)
  rw [CanR_ok hok hr hask] at hcn
  have hAE := AskE_sound (casts := casts) hok hr hask
  have hGi := fun c hc => canF_in ho (l := x.l) (wrong := a % 25) (hour := b % x.s.hours) (c := c) hc
  have hG80 : (canF x.s x.l (a % 25) (b % x.s.hours)).length ≤ 80 := Nat.le_trans (goL_len _ _ _) (cellsL_len _ ho)
  have hin := in_t ((casts.map Sp.c).length : Int) 1 8
  refine Aw.sm tab_ok mb0 [(1, [.bool true])] rfl rfl ?zo ?zk
  case zo =>
    repeat' apply AllP.cons
    all_goals first | exact trivial | exact id | exact rfl | exact fun _ => rfl | exact Nat.le_of_ble_eq_true rfl | exact fun _ => Nat.le_of_ble_eq_true rfl | exact Int.natCast_nonneg _ | exact fun _ => Int.natCast_nonneg _ | exact within_t _ _ _ | exact (within_t _ _ _).un | exact in_t _ _ _ | exact (in_t _ _ _).un | exact gq_f | exact gq_t | exact gq_c | exact fun _ _ => rfl | exact works_t | exact fun _ => works_t | exact hso
  case zk =>
  refine Aw.cond rfl (fun h => absurd h (by decide)) (fun _ => Aw.skip ?_)
  refine Aw.sd tab_ok mixed mb0 [(2, [.int (a % 25)]), (8, [.int (b % x.s.hours)])] rfl (by kernel_rfl) rfl rfl ?zo ?zk
  case zo =>
    repeat' apply AllP.cons
    all_goals first | exact trivial | exact id | exact rfl | exact fun _ => rfl | exact Nat.le_of_ble_eq_true rfl | exact fun _ => Nat.le_of_ble_eq_true rfl | exact Int.natCast_nonneg _ | exact fun _ => Int.natCast_nonneg _ | exact within_t _ _ _ | exact (within_t _ _ _).un | exact in_t _ _ _ | exact (in_t _ _ _).un | exact gq_f | exact gq_t | exact gq_c | exact fun _ _ => rfl | exact works_t | exact fun _ => works_t | exact hma | exact hmb
  case zk =>
  by_cases hA : AskE x.s x.l (a % 25) (b % x.s.hours) casts = 0
  · rw [show SureR x.s x.l (a % 25) (b % x.s.hours) casts = _ from if_pos hA] at hnx
    obtain ⟨_, _, _, hco, hne⟩ := AskE_ok hA
    obtain ⟨hc8, hcc⟩ := castsOk_iff hco
    rw [canE_ne hne] at hcn
    generalize a % 25 = wrong at *
    generalize b % x.s.hours = hour at *
    generalize canF x.s x.l wrong hour = G at *
    have hsu := su_is (fndB x.s.wide G casts) casts.length
    have hwi : wi ((casts.map Sp.c).length : Int) 1 8 = true := wi_iff.2 (by omega)
    rw [hwi] at hin
    have hsh : IntKind.i64.wrap (1 * 2 ^ (min (((casts.map Sp.c).length : Int).toNat) 64)) = ((2 ^ casts.length : Nat) : Int) := by rw [lc]; exact shl1 hc8.2
    have hp1 : 1 ≤ 2 ^ casts.length := Nat.one_le_two_pow
    have hp2 : 2 ^ casts.length ≤ 2 ^ 8 := Nat.pow_le_pow_right (by decide) hc8.2
    generalize 2 ^ casts.length = P at *
    have hmem : ∀ z : Int, Ans Try.prog 42 [.int z, .int ((casts.map Sp.c).length : Int)] (outW (memL z casts.length)) := fun z => by rw [lc]; exact members_w z _ (by omega)
    have hmeet : ∀ sm : List Int, (∀ i ∈ sm, 0 ≤ i ∧ i < casts.length) → sm.length ≤ 1000 → Ans Try.prog 43 [.agg x.s.c, .sl cb .any (casts.map Sp.c), outW sm, outW G] (.bool (fndB x.s.wide G casts sm)) := fun sm h1 h2 =>
      meets_t x.s ho cb sm.isEmpty G.isEmpty casts sm G (fun c hc => (hcc c hc).1) h1 hGi h2 (by omega)
    have hmi : ∀ z : Int, ∀ i ∈ memL z casts.length, 0 ≤ i ∧ i < casts.length := fun z => memL_in
    have hml : ∀ z : Int, (memL z casts.length).length ≤ 1000 := fun z => Nat.le_trans (memL_len z _) (by omega)
    have hmr : ∀ z : Int, risingF casts.length (-1) (memL z casts.length) = true := fun z => memL_rising z _
    cases hsg : suGo (fndB x.s.wide G casts) casts.length (List.range casts.length) [] with
    | none =>
      rw [hsg] at hnx hsu
      simp only at hnx hsu
      have hall : ∀ z : Int, fndB x.s.wide G casts (memL z casts.length) = false := fun z => by
        by_cases h : memL z casts.length = []
        · rw [h]; exact fnd_nil hne
        · exact hsu _ h (hmr z)
      have hme := fun z : Int => hmeet (memL z casts.length) (hmi z) (hml z)
      simp only [hall] at hme
      refine Aw.sm tab_ok mb0 [(7, [.tup [outW [], .int 4]])] rfl rfl ?zo ?zk
      case zo =>
        repeat' apply AllP.cons
        all_goals first | exact trivial | exact id | exact rfl | exact fun _ => rfl | exact Nat.le_of_ble_eq_true rfl | exact fun _ => Nat.le_of_ble_eq_true rfl | exact Int.natCast_nonneg _ | exact fun _ => Int.natCast_nonneg _ | exact within_t _ _ _ | exact (within_t _ _ _).un | exact in_t _ _ _ | exact (in_t _ _ _).un | exact gq_f | exact gq_t | exact gq_c | exact fun _ _ => rfl | exact works_t | exact fun _ => works_t | exact hnx
      case zk =>
      refine Aw.sm tab_ok mb0 [(6, [.tup [outW G, .int 0]])] rfl rfl ?zo ?zk
      case zo =>
        repeat' apply AllP.cons
        all_goals first | exact trivial | exact id | exact rfl | exact fun _ => rfl | exact Nat.le_of_ble_eq_true rfl | exact fun _ => Nat.le_of_ble_eq_true rfl | exact Int.natCast_nonneg _ | exact fun _ => Int.natCast_nonneg _ | exact within_t _ _ _ | exact (within_t _ _ _).un | exact in_t _ _ _ | exact (in_t _ _ _).un | exact gq_f | exact gq_t | exact gq_c | exact fun _ _ => rfl | exact works_t | exact fun _ => works_t | exact hcn
      case zk =>
      refine Aw.seq ?_
      refine Aw.sm tab_ok mb0 [(9, [.bool true])] rfl rfl ?zo ?zk
      case zo =>
        repeat' apply AllP.cons
        all_goals first | exact trivial | exact id | exact rfl | exact fun _ => rfl | exact Nat.le_of_ble_eq_true rfl | exact fun _ => Nat.le_of_ble_eq_true rfl | exact Int.natCast_nonneg _ | exact fun _ => Int.natCast_nonneg _ | exact within_t _ _ _ | exact (within_t _ _ _).un | exact in_t _ _ _ | exact (in_t _ _ _).un | exact gq_f | exact gq_t | exact gq_c | exact fun _ _ => rfl | exact works_t | exact fun _ => works_t | exact fun _ => hin
      case zk =>
      refine Aw.cond rfl (fun h => absurd h (by decide)) (fun _ => Aw.skip ?_)
      refine Aw.seq ?_
      refine Aw.sm tab_ok mb0 [] rfl rfl ?zo ?zk
      case zo =>
        repeat' apply AllP.cons
        all_goals first | exact trivial | exact id | exact rfl | exact fun _ => rfl | exact Nat.le_of_ble_eq_true rfl | exact fun _ => Nat.le_of_ble_eq_true rfl | exact Int.natCast_nonneg _ | exact fun _ => Int.natCast_nonneg _ | exact within_t _ _ _ | exact (within_t _ _ _).un | exact in_t _ _ _ | exact (in_t _ _ _).un | exact gq_f | exact gq_t | exact gq_c | exact fun _ _ => rfl | exact works_t | exact fun _ => works_t
      case zk =>
      refine Aw.cond rfl (fun h => absurd h (by decide)) (fun _ => Aw.skip ?_)
      refine Aw.sm tab_ok mb0 [(6, [outW (memL (IntKind.i64.wrap (1 * 2 ^ (min (((casts.map Sp.c).length : Int).toNat) 64)) - 1) casts.length)])] rfl rfl ?zo ?zk
      case zo =>
        repeat' apply AllP.cons
        all_goals first | exact trivial | exact id | exact rfl | exact fun _ => rfl | exact Nat.le_of_ble_eq_true rfl | exact fun _ => Nat.le_of_ble_eq_true rfl | exact Int.natCast_nonneg _ | exact fun _ => Int.natCast_nonneg _ | exact within_t _ _ _ | exact (within_t _ _ _).un | exact in_t _ _ _ | exact (in_t _ _ _).un | exact gq_f | exact gq_t | exact gq_c | exact fun _ _ => rfl | exact works_t | exact fun _ => works_t | exact hmem _ | exact (show (0 : Int) ≤ ((casts.map Sp.c).length : Int) by omega) | exact (by simp only [Ob.of, inR]; omega)
      case zk =>
      have hm2 := hme (IntKind.i64.wrap (1 * 2 ^ (min (((casts.map Sp.c).length : Int).toNat) 64)) - 1)
      generalize memL (IntKind.i64.wrap (1 * 2 ^ (min (((casts.map Sp.c).length : Int).toNat) 64)) - 1) casts.length = M at *
      refine Aw.seq ?_
      refine Aw.sm tab_ok mb0 [] rfl rfl ?zo ?zk
      case zo =>
        repeat' apply AllP.cons
        all_goals first | exact trivial | exact id | exact rfl | exact fun _ => rfl | exact Nat.le_of_ble_eq_true rfl | exact fun _ => Nat.le_of_ble_eq_true rfl | exact Int.natCast_nonneg _ | exact fun _ => Int.natCast_nonneg _ | exact within_t _ _ _ | exact (within_t _ _ _).un | exact in_t _ _ _ | exact (in_t _ _ _).un | exact gq_f | exact gq_t | exact gq_c | exact fun _ _ => rfl | exact works_t | exact fun _ => works_t
      case zk =>
      refine Aw.cond rfl (fun _ => ?_) (fun h => absurd h (by decide))
      refine Aw.sm tab_ok mb0 [(9, [.bool false]), (13, [.bool true])] rfl rfl ?zo ?zk
      case zo =>
        repeat' apply AllP.cons
        all_goals first | exact trivial | exact id | exact rfl | exact fun _ => rfl | exact Nat.le_of_ble_eq_true rfl | exact fun _ => Nat.le_of_ble_eq_true rfl | exact Int.natCast_nonneg _ | exact fun _ => Int.natCast_nonneg _ | exact within_t _ _ _ | exact (within_t _ _ _).un | exact in_t _ _ _ | exact (in_t _ _ _).un | exact gq_f | exact gq_t | exact gq_c | exact fun _ _ => rfl | exact works_t | exact fun _ => works_t | exact fun _ => hm2
      case zk =>
      exact Aw.ret ⟨_, .cons (.tmp _) .nil, rfl⟩
    | some r =>
      rw [hsg] at hnx hsu
      simp only at hnx hsu
      have hrin := (rising_in hsu.ri (by omega) (by omega)).1
      have hrl := (rising_in hsu.ri (by omega) (by omega)).2
      have hrs := rising_t r r.isEmpty casts.length (by omega) (by omega)
      rw [hsu.ri, ← lc] at hrs
      have hmr2 := hmeet r (fun i hi => by have := hrin i hi; omega) (by omega)
      rw [hsu.ok] at hmr2
      have hfst := hsu.first
      refine Aw.sm tab_ok mb0 [(7, [.tup [outW r, .int 0]])] rfl rfl ?zo ?zk
      case zo =>
        repeat' apply AllP.cons
        all_goals first | exact trivial | exact id | exact rfl | exact fun _ => rfl | exact Nat.le_of_ble_eq_true rfl | exact fun _ => Nat.le_of_ble_eq_true rfl | exact Int.natCast_nonneg _ | exact fun _ => Int.natCast_nonneg _ | exact within_t _ _ _ | exact (within_t _ _ _).un | exact in_t _ _ _ | exact (in_t _ _ _).un | exact gq_f | exact gq_t | exact gq_c | exact fun _ _ => rfl | exact works_t | exact fun _ => works_t | exact hnx
      case zk =>
      refine Aw.sm tab_ok mb0 [(6, [.tup [outW G, .int 0]])] rfl rfl ?zo ?zk
      case zo =>
        repeat' apply AllP.cons
        all_goals first | exact trivial | exact id | exact rfl | exact fun _ => rfl | exact Nat.le_of_ble_eq_true rfl | exact fun _ => Nat.le_of_ble_eq_true rfl | exact Int.natCast_nonneg _ | exact fun _ => Int.natCast_nonneg _ | exact within_t _ _ _ | exact (within_t _ _ _).un | exact in_t _ _ _ | exact (in_t _ _ _).un | exact gq_f | exact gq_t | exact gq_c | exact fun _ _ => rfl | exact works_t | exact fun _ => works_t | exact hcn
      case zk =>
      refine Aw.seq ?_
      refine Aw.sm tab_ok mb0 [(9, [.bool true])] rfl rfl ?zo ?zk
      case zo =>
        repeat' apply AllP.cons
        all_goals first | exact trivial | exact id | exact rfl | exact fun _ => rfl | exact Nat.le_of_ble_eq_true rfl | exact fun _ => Nat.le_of_ble_eq_true rfl | exact Int.natCast_nonneg _ | exact fun _ => Int.natCast_nonneg _ | exact within_t _ _ _ | exact (within_t _ _ _).un | exact in_t _ _ _ | exact (in_t _ _ _).un | exact gq_f | exact gq_t | exact gq_c | exact fun _ _ => rfl | exact works_t | exact fun _ => works_t | exact fun _ => hin
      case zk =>
      refine Aw.cond rfl (fun h => absurd h (by decide)) (fun _ => Aw.skip ?_)
      refine Aw.seq ?_
      refine Aw.sm tab_ok mb0 [] rfl rfl ?zo ?zk
      case zo =>
        repeat' apply AllP.cons
        all_goals first | exact trivial | exact id | exact rfl | exact fun _ => rfl | exact Nat.le_of_ble_eq_true rfl | exact fun _ => Nat.le_of_ble_eq_true rfl | exact Int.natCast_nonneg _ | exact fun _ => Int.natCast_nonneg _ | exact within_t _ _ _ | exact (within_t _ _ _).un | exact in_t _ _ _ | exact (in_t _ _ _).un | exact gq_f | exact gq_t | exact gq_c | exact fun _ _ => rfl | exact works_t | exact fun _ => works_t
      case zk =>
      refine Aw.cond rfl (fun h => absurd h (by decide)) (fun _ => Aw.skip ?_)
      refine Aw.sm tab_ok mb0 [(6, [outW (memL (IntKind.i64.wrap (1 * 2 ^ (min (((casts.map Sp.c).length : Int).toNat) 64)) - 1) casts.length)])] rfl rfl ?zo ?zk
      case zo =>
        repeat' apply AllP.cons
        all_goals first | exact trivial | exact id | exact rfl | exact fun _ => rfl | exact Nat.le_of_ble_eq_true rfl | exact fun _ => Nat.le_of_ble_eq_true rfl | exact Int.natCast_nonneg _ | exact fun _ => Int.natCast_nonneg _ | exact within_t _ _ _ | exact (within_t _ _ _).un | exact in_t _ _ _ | exact (in_t _ _ _).un | exact gq_f | exact gq_t | exact gq_c | exact fun _ _ => rfl | exact works_t | exact fun _ => works_t | exact hmem _ | exact (show (0 : Int) ≤ ((casts.map Sp.c).length : Int) by omega) | exact (by simp only [Ob.of, inR]; omega)
      case zk =>
      refine Aw.seq ?_
      refine Aw.sm tab_ok mb0 [] rfl rfl ?zo ?zk
      case zo =>
        repeat' apply AllP.cons
        all_goals first | exact trivial | exact id | exact rfl | exact fun _ => rfl | exact Nat.le_of_ble_eq_true rfl | exact fun _ => Nat.le_of_ble_eq_true rfl | exact Int.natCast_nonneg _ | exact fun _ => Int.natCast_nonneg _ | exact within_t _ _ _ | exact (within_t _ _ _).un | exact in_t _ _ _ | exact (in_t _ _ _).un | exact gq_f | exact gq_t | exact gq_c | exact fun _ _ => rfl | exact works_t | exact fun _ => works_t
      case zk =>
      refine Aw.cond rfl (fun h => absurd h (by decide)) (fun _ => Aw.skip ?_)
      have hmc := mod_t n3 (IntKind.i64.wrap (1 * 2 ^ (min (((casts.map Sp.c).length : Int).toNat) 64))) (by omega) (by omega)
      have hmm := hmem (n3 % IntKind.i64.wrap (1 * 2 ^ (min (((casts.map Sp.c).length : Int).toNat) 64)))
      have hmet := hmeet _ (hmi (n3 % IntKind.i64.wrap (1 * 2 ^ (min (((casts.map Sp.c).length : Int).toNat) 64)))) (hml _)
      have hOr := hmr (n3 % IntKind.i64.wrap (1 * 2 ^ (min (((casts.map Sp.c).length : Int).toNat) 64)))
      have hOl := hml (n3 % IntKind.i64.wrap (1 * 2 ^ (min (((casts.map Sp.c).length : Int).toNat) 64)))
      generalize n3 % IntKind.i64.wrap (1 * 2 ^ (min (((casts.map Sp.c).length : Int).toNat) 64)) = z at *
      refine Aw.sd tab_ok mixed mb0 [(5, [.int z]), (8, [outW (memL z casts.length)])] rfl (by kernel_rfl) rfl rfl ?zo ?zk
      case zo =>
        repeat' apply AllP.cons
        all_goals first | exact trivial | exact id | exact rfl | exact fun _ => rfl | exact Nat.le_of_ble_eq_true rfl | exact fun _ => Nat.le_of_ble_eq_true rfl | exact Int.natCast_nonneg _ | exact fun _ => Int.natCast_nonneg _ | exact within_t _ _ _ | exact (within_t _ _ _).un | exact in_t _ _ _ | exact (in_t _ _ _).un | exact gq_f | exact gq_t | exact gq_c | exact fun _ _ => rfl | exact works_t | exact fun _ => works_t | exact hmc | exact hmm | exact (show (0 : Int) ≤ ((casts.map Sp.c).length : Int) by omega)
      case zk =>
      generalize memL z casts.length = O at *
      refine Aw.seq ?_
      refine Aw.sm tab_ok mb0 [(3, [.bool true]), (11, [.bool true])] rfl rfl ?zo ?zk
      case zo =>
        repeat' apply AllP.cons
        all_goals first | exact trivial | exact id | exact rfl | exact fun _ => rfl | exact Nat.le_of_ble_eq_true rfl | exact fun _ => Nat.le_of_ble_eq_true rfl | exact Int.natCast_nonneg _ | exact fun _ => Int.natCast_nonneg _ | exact within_t _ _ _ | exact (within_t _ _ _).un | exact in_t _ _ _ | exact (in_t _ _ _).un | exact gq_f | exact gq_t | exact gq_c | exact fun _ _ => rfl | exact works_t | exact fun _ => works_t | exact hrs | exact fun _ => hmr2
      case zk =>
      refine Aw.cond rfl (fun h => absurd h (by decide)) (fun _ => Aw.skip ?_)
      have hbf := before_t O r O.isEmpty r.isEmpty (by omega) (by omega)
      have lO := ints_lenI O
      have lr := ints_lenI r
      have hfin : cond (cond (cond (!fndB x.s.wide G casts O) true (decide (((ints O).length : Int) > ((ints r).length : Int)))) true (cond (((ints O).length : Int) == ((ints r).length : Int)) (!Q.befF O r) false)) true false = true := by
        by_cases hO : O = []
        · rw [hO, fnd_nil hne]; rfl
        · cases hf : fndB x.s.wide G casts O with
          | false => rfl
          | true =>
            rcases hfst O hO hOr hf with h | ⟨h1, h2⟩
            · rw [decide_eq_true (show ((ints O).length : Int) > ((ints r).length : Int) by omega)]; rfl
            · rw [show (((ints O).length : Int) == ((ints r).length : Int)) = true by simp; omega, h2]; simp
      generalize fndB x.s.wide G casts O = mt at *
      generalize Q.befF O r = bv at *
      refine Aw.sm tab_ok mb0 [(5, [.bool mt]), (23, [.bool bv]), (28, [.bool true])] rfl rfl ?zo ?zk
      case zo =>
        repeat' apply AllP.cons
        all_goals first | exact trivial | exact id | exact rfl | exact fun _ => rfl | exact Nat.le_of_ble_eq_true rfl | exact fun _ => Nat.le_of_ble_eq_true rfl | exact Int.natCast_nonneg _ | exact fun _ => Int.natCast_nonneg _ | exact within_t _ _ _ | exact (within_t _ _ _).un | exact in_t _ _ _ | exact (in_t _ _ _).un | exact gq_f | exact gq_t | exact gq_c | exact fun _ _ => rfl | exact works_t | exact fun _ => works_t | exact hmet | exact fun _ => hbf
      case zk =>
      exact Aw.ret ⟨_, .cons (.tmp _) .nil, congrArg A.bool hfin⟩
  · rw [show SureR x.s x.l (a % 25) (b % x.s.hours) casts = _ from if_neg hA] at hnx
    simp only at hnx
    have hef : AskE x.s x.l (a % 25) (b % x.s.hours) casts = 13 ∨ AskE x.s x.l (a % 25) (b % x.s.hours) casts = canE (canF x.s x.l (a % 25) (b % x.s.hours)) := by
      rw [hAE]; split
      · exact .inr rfl
      · exact .inl rfl
    have hce := canE_or (canF x.s x.l (a % 25) (b % x.s.hours))
    generalize AskE x.s x.l (a % 25) (b % x.s.hours) casts = e at *
    generalize a % 25 = wrong at *
    generalize b % x.s.hours = hour at *
    generalize canF x.s x.l wrong hour = G at *
    generalize canE G = f at *
    have he' : (e != 0) = true := by simpa using hA
    have he4 : (e != 4) = true := by rw [bne_iff_ne]; omega
    have hfin : cond (cond (((ints []).length : Int) == 0) (cond (e == 13) true (e == f)) false) true false = true := by
      rcases hef with h | h
      · rw [h]; rfl
      · rw [h]; simp [ints]
    refine Aw.sm tab_ok mb0 [(7, [.tup [outW [], .int e]])] rfl rfl ?zo ?zk
    case zo =>
      repeat' apply AllP.cons
      all_goals first | exact trivial | exact id | exact rfl | exact fun _ => rfl | exact Nat.le_of_ble_eq_true rfl | exact fun _ => Nat.le_of_ble_eq_true rfl | exact Int.natCast_nonneg _ | exact fun _ => Int.natCast_nonneg _ | exact within_t _ _ _ | exact (within_t _ _ _).un | exact in_t _ _ _ | exact (in_t _ _ _).un | exact gq_f | exact gq_t | exact gq_c | exact fun _ _ => rfl | exact works_t | exact fun _ => works_t | exact hnx
    case zk =>
    refine Aw.sm tab_ok mb0 [(6, [.tup [outW G, .int f]])] rfl rfl ?zo ?zk
    case zo =>
      repeat' apply AllP.cons
      all_goals first | exact trivial | exact id | exact rfl | exact fun _ => rfl | exact Nat.le_of_ble_eq_true rfl | exact fun _ => Nat.le_of_ble_eq_true rfl | exact Int.natCast_nonneg _ | exact fun _ => Int.natCast_nonneg _ | exact within_t _ _ _ | exact (within_t _ _ _).un | exact in_t _ _ _ | exact (in_t _ _ _).un | exact gq_f | exact gq_t | exact gq_c | exact fun _ _ => rfl | exact works_t | exact fun _ => works_t | exact hcn
    case zk =>
    refine Aw.seq ?_
    generalize wi ((casts.map Sp.c).length : Int) 1 8 = wv at *
    refine Aw.sm tab_ok mb0 [(9, [.bool wv])] rfl rfl ?zo ?zk
    case zo =>
      repeat' apply AllP.cons
      all_goals first | exact trivial | exact id | exact rfl | exact fun _ => rfl | exact Nat.le_of_ble_eq_true rfl | exact fun _ => Nat.le_of_ble_eq_true rfl | exact Int.natCast_nonneg _ | exact fun _ => Int.natCast_nonneg _ | exact within_t _ _ _ | exact (within_t _ _ _).un | exact in_t _ _ _ | exact (in_t _ _ _).un | exact gq_f | exact gq_t | exact gq_c | exact fun _ _ => rfl | exact works_t | exact fun _ => works_t | exact fun _ => hin
    case zk =>
    refine Aw.cond rfl (fun _ => ?_) (fun h => ?_)
    · refine Aw.sm tab_ok mb0 [(13, [.bool true])] rfl rfl ?zo ?zk
      case zo =>
        repeat' apply AllP.cons
        all_goals first | exact trivial | exact id | exact rfl | exact fun _ => rfl | exact Nat.le_of_ble_eq_true rfl | exact fun _ => Nat.le_of_ble_eq_true rfl | exact Int.natCast_nonneg _ | exact fun _ => Int.natCast_nonneg _ | exact within_t _ _ _ | exact (within_t _ _ _).un | exact in_t _ _ _ | exact (in_t _ _ _).un | exact gq_f | exact gq_t | exact gq_c | exact fun _ _ => rfl | exact works_t | exact fun _ => works_t
      case zk =>
      exact Aw.ret ⟨_, .cons (.tmp _) .nil, congrArg A.bool hfin⟩
    · have h : cond (cond (e != 0) (e != 4) false) true (!wv) = false := h
      rw [he', he4] at h; cases h
theorem found_l (x : Srch) (a b c : Int) (cb : Bool) (casts : List Sp) (hx : SrFit2 x) (hcs : CstFit casts) : Ans Try.prog 13 [.agg x.c, .agg [.int a, .int b, .int c], .sl cb .any (casts.map Sp.c)] (.bool true) := law_found x hx.fit a b c cb casts hcs
end Go.Proofs.Ytohbjneaaahpcaa

namespace Go.Proofs.Ytohbjneaaahpcaa
open Go Go.AL Go.ChangeShapes Go.WideShapes Go.ChangeAt Go.RowKit
set_option maxRecDepth 100000 in
theorem shoalFound_lifted (os : Os) (started : os.Started) (H : Type) (enc : TypeId × Value → H) :
    ReturnsInHanded {} Try.checked os 13 .any (Rows.shoalFoundSpec.pre6 enc Try.prog Try.f13 [] false) (Rows.shoalFoundSpec.post enc Try.prog Try.f13 false true false false) := by
  refine lifted2 (tb := 4) (C := Try.checked) own started (by kernel_rfl) Try.func13
    (ChangeSpec.witness6 (enc := enc) (C := Try.checked) false ⟨#[], #[.agg #[.int .i64 0, .int .i64 0, .slice none 0 0, .int .i64 0, .slice none 0 0, .int .i64 0, .slice none 0 0], .agg #[.int .i64 0, .int .i64 0, .int .i64 0], .slice none 0 0], []⟩ 8 (by kernel_rfl) (by kernel_rfl) (by kernel_rfl) (by kernel_rfl))
    laidOut ?_ rfl rfl (by kernel_rfl) uBool ?_ ?_
  · rw [Try.params13]; exact all3t (p := fun t => Try.prog.readableRec t = true ∧ t < Try.prog.types.size) t28 t55 t44
  · intro ds hd
    rw [Try.params13] at hd
    match ds, hd with
    | [d0, d1, d2], _ => rfl
  · intro W base args ds p hval hA hwt
    rw [Try.params13] at hA hval
    obtain ⟨v0, v1, v2, d0, d1, d2, p0, p1, p2, rfl, rfl, rfl, h0, h1, h2⟩ := trodAll_three hA
    obtain ⟨y0, q0, s0⟩ := arg_srch (φ := fun _ => none) (hval 0 28 v0 rfl rfl) h0 fun k hk => hwt k (List.mem_append.2 (.inl hk))
    obtain ⟨y1, q1⟩ := arg_3 (φ := fun _ => none) (hval 1 55 v1 rfl rfl) h1 fun k hk => hwt k (List.mem_append.2 (.inr (List.mem_append.2 (.inl hk))))
    obtain ⟨b2, y2, q2, s2⟩ := arg_casts (φ := fun _ => none) (hval 2 44 v2 rfl rfl) h2 fun k hk => hwt k (List.mem_append.2 (.inr (List.mem_append.2 (.inr (List.mem_append.2 (.inl hk))))))
    exact ⟨_, _, vrs3 q0 q1 q2, found_l y0 y1.1 y1.2.1 y1.2.2 b2 y2 s0 s2⟩
theorem shoalFound_holds : Rows.ShoalFoundSaid :=
  OpenClaim.holds_of_wide 13 Try.f13 rfl rfl rfl rfl rfl rfl rfl ⟨rfl, rfl, rfl, rfl, rfl⟩ rfl rfl rfl rfl rfl (by kernel_rfl) Try.func13 (by kernel_rfl)
    (of_decide_eq_true (by kernel_rfl)) (by unfold Func.isWrapper; first | (rw [if_pos (by decide +kernel)]; kernel_rfl) | (rw [if_neg (by decide +kernel)]; exact ⟨rfl, rfl⟩))
    (fun os started H enc _ => shoalFound_lifted os started H enc)
end Go.Proofs.Ytohbjneaaahpcaa

