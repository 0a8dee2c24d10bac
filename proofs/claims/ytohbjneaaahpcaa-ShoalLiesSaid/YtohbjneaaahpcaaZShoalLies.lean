/- ShoalLies holds: Liars answers as the specification does. No condition. -/
import Derived.Test.YtohbjneaaahpcaaK7
set_option linter.all false
namespace Go.AL.Q
open Go
theorem bef_trans : ∀ a b c : List Int, befF a b = true → befF b c = true → befF a c = true
  | [], b, [], h, k => by cases b <;> simp [befF] at h k
  | [], _, _ :: _, _, _ => rfl
  | x :: a, [], c, h, _ => by simp [befF] at h
  | x :: a, y :: b, [], _, k => by simp [befF] at k
  | x :: a, y :: b, z :: c, h, k => by
    rw [befF] at h k ⊢
    by_cases h1 : x = y
    · subst h1
      rw [if_pos rfl] at h
      by_cases h2 : x = z
      · rw [if_pos h2] at k ⊢; exact bef_trans a b c h k
      · rw [if_neg h2] at k ⊢; exact k
    · rw [if_neg h1] at h
      have h := of_decide_eq_true h
      by_cases h2 : y = z
      · subst h2
        rw [if_neg h1]; exact decide_eq_true h
      · rw [if_neg h2] at k
        have k := of_decide_eq_true k
        rw [if_neg (by omega)]; exact decide_eq_true (by omega)
def Ahead (a b : List Int) : Prop := a.length < b.length ∨ (a.length = b.length ∧ befF a b = true)
theorem Ahead.trans {a b c : List Int} (h : Ahead a b) (k : Ahead b c) : Ahead a c := by
  rcases h with h | h <;> rcases k with k | k
  · exact .inl (by omega)
  · exact .inl (by omega)
  · exact .inl (by omega)
  · exact .inr ⟨by omega, bef_trans _ _ _ h.2 k.2⟩
def setK (L : Nat → Bool) : Nat → Nat
  | 0 => 0
  | n + 1 => if L n then 2 ^ n + setK L n else setK L n
end Go.AL.Q

namespace Go.Proofs.Ytohbjneaaahpcaa
open Go Go.AL Go.AL.Q Go.AL.Sh
theorem few_at {s : Sea} (ho : s.Ok) {l : List Rep} (hl : l.length ≤ 24) (hn : fewF s l < 1048576) : ∃ T, Trk s T ∧ (costW s l 0 T : Int) = fewF s l := by
  rcases (fewF_min ho hl).or with ⟨h, _⟩ | ⟨n, h1, ⟨T, h2, h3⟩, _⟩
  · exact absurd hn (by have := h; omega)
  · exact ⟨T, h2, by rw [h1, h3]⟩
theorem few_nn {s : Sea} (ho : s.Ok) {l : List Rep} (hl : l.length ≤ 24) : 0 ≤ fewF s l := (fewF_min ho hl).nonneg
theorem few_288 {s : Sea} (ho : s.Ok) {l : List Rep} (hl : l.length ≤ 24) (hn : fewF s l < 1048576) : 0 ≤ fewF s l ∧ fewF s l ≤ 288 := by
  obtain ⟨T, h1, h2⟩ := few_at ho hl hn
  have := TrA.le ho hl ⟨T, h1, rfl⟩
  omega
theorem find_first {L : List Nat} {P : Nat → Bool} {c x : Nat} : L.Pairwise (· < ·) → L.find? P = some c → x ∈ L → P x = true → c ≤ x := by
  induction L with
  | nil => intro _ h; cases h
  | cons y L ih =>
    intro hp hf hx hP
    rw [List.find?_cons] at hf
    have hp1 := (List.pairwise_cons.1 hp).1
    cases hy : P y with
    | true =>
      rw [hy] at hf; cases hf
      rcases List.mem_cons.1 hx with h | h
      · omega
      · have := hp1 x h; omega
    | false =>
      rw [hy] at hf
      rcases List.mem_cons.1 hx with h | h
      · subst h; rw [hy] at hP; cases hP
      · exact ih (List.pairwise_cons.1 hp).2 hf h hP
theorem Trk.hours {s : Sea} (ho : s.Ok) {T : List Nat} (h : Trk s T) : (T.length : Int) = s.hours := by have := hrs_pos ho; have := h.len; omega
end Go.Proofs.Ytohbjneaaahpcaa

namespace Go.Proofs.Ytohbjneaaahpcaa
open Go Go.AL Go.AL.Q Go.AL.Sh
structure NextIs (w : Int) (G : List Int) (casts : List Sp) (k : Nat) (p : Int × Int) : Prop where
  i : ∃ i : Nat, p.1 = i ∧ i < k ∧ p.2 = worstF w G (casts.getD i ⟨0, 0⟩)
  ge : ∀ j : Nat, j < k → p.2 ≤ worstF w G (casts.getD j ⟨0, 0⟩) ∧ ((j : Int) < p.1 → p.2 < worstF w G (casts.getD j ⟨0, 0⟩))
def lastI (l : List Int) : Int := l.getLast?.getD (-1)
structure Rd (n f : Nat) (last : Int) (m : List Int) : Prop where
  len : m.length = f
  ri : risingF n last m = true
structure ChT (fd : List Int → Bool) (n f : Nat) (l : List Int) (r : Cst) : Prop where
  t : r.1 = true → ∃ m, Rd n f (lastI l) m ∧ r.2 = l ++ m ∧ fd (l ++ m) = true ∧ ∀ m', Rd n f (lastI l) m' → fd (l ++ m') = true → Q.befF m' m = false
  f : r.1 = false → ∀ m', Rd n f (lastI l) m' → fd (l ++ m') = false
structure GoT (fd : List Int → Bool) (n f : Nat) (l : List Int) (is : List Nat) (r : Cst) : Prop where
  t : r.1 = true → ∃ i ∈ is, ∃ m, Rd n f i m ∧ r.2 = l ++ (i : Int) :: m ∧ fd (l ++ (i : Int) :: m) = true ∧ ∀ i' ∈ is, ∀ m', Rd n f i' m' → fd (l ++ (i' : Int) :: m') = true → Q.befF ((i' : Int) :: m') ((i : Int) :: m) = false
  f : r.1 = false → ∀ i' ∈ is, ∀ m', Rd n f i' m' → fd (l ++ (i' : Int) :: m') = false
structure SureIs (fd : List Int → Bool) (n : Nat) (o : List Int) : Prop where
  ri : risingF n (-1) o = true
  ok : fd o = true
  pos : 1 ≤ o.length
  first : ∀ o', o' ≠ [] → risingF n (-1) o' = true → fd o' = true → o.length < o'.length ∨ o'.length = o.length ∧ Q.befF o' o = false
end Go.Proofs.Ytohbjneaaahpcaa

namespace Go.Proofs.Ytohbjneaaahpcaa
open Go Go.AL Go.AL.Q Go.AL.Sh
theorem LeastR_bad {s : Sea} {l : List Rep} (h : (LeastR s l).2.2 ≠ 0) : LeastR s l = (0, [], (LeastR s l).2.2) := by
  unfold LeastR at h ⊢
  cases h1 : s.ok <;> cases h2 : s.repsOk l <;> by_cases h3 : fewF s l < 1048576 <;> simp [h1, h2, h3] at h ⊢
theorem LeastR_good {s : Sea} {l : List Rep} (h : (LeastR s l).2.2 = 0) : s.ok = true ∧ s.repsOk l = true ∧ fewF s l < 1048576 := by
  unfold LeastR at h
  split at h
  · split at h
    · split at h
      · exact ⟨‹_›, ‹_›, ‹_›⟩
      · cases h
    · cases h
  · cases h
end Go.Proofs.Ytohbjneaaahpcaa

namespace Go.Proofs.Ytohbjneaaahpcaa
open Go Go.AL Go.AL.Q Go.AL.Sh
theorem LeastR_no {s : Sea} {l : List Rep} (hok : s.ok = true) (hr : s.repsOk l = true) (h : ¬ fewF s l < 1048576) : LeastR s l = (0, [], 4) := by
  unfold LeastR; rw [hok, hr]; simp only [if_true]; rw [if_neg h]
end Go.Proofs.Ytohbjneaaahpcaa

namespace Go.Proofs.Ytohbjneaaahpcaa
open Go Go.AL Go.AL.Q Go.AL.Sh
theorem b0_many {s : Sea} (h : s.b0 = true) : 0 ≤ s.wide * s.high ∧ s.wide * s.high ≤ 80 := by
  obtain ⟨a, b, _⟩ := Sea.b0_ok h
  have m1 : 0 ≤ s.wide * s.high := Int.mul_nonneg (by omega) (by omega)
  have m2 : s.wide * s.high ≤ 10 * 8 := Int.mul_le_mul a.2 b.2 (by omega) (by omega)
  omega
theorem rcheck_t (s : Sea) (hf : SeaFit s) : Ans Try.prog 19 [.agg s.c] (.int s.chk) := by
  have h1 := hf.l
  have h2 := hf.d
  have ld : ((s.drift.map Sp.c).length : Int) = s.drift.length := by simp
  have us : ∀ {m : Nat}, Under m (A.pt s.c) := (Free.pt _ s.free).under
  refine told Try.func19 rfl rfl (Pure.of tab_ok Try.func19 rfl Try.ntmps19 rfl (all1 (.agg _ s.free)) (all1 (fun _ => rfl)) (by first | exact .s _ | assumption | exact .tup _ (by intro x hx; simp only [List.mem_cons, List.not_mem_nil, or_false] at hx; rcases hx with rfl | rfl | rfl | rfl <;> first | exact .s _ | (simp_all; done))) fun E hE => ?_)
  refine Aw.sm tab_ok mb0 [] rfl rfl ?zo ?zk
  case zo =>
    repeat' apply AllP.cons
    all_goals first | exact trivial
  case zk =>
  refine Aw.sm tab_ok mb0 [(2, [.bool (wi s.wide 1 10)]), (6, [.bool (wi s.high 1 8)]), (11, [.bool (wi s.speed 0 2)]), (16, [.bool (wi s.hours 1 12)])] rfl rfl ?zo ?zk
  case zo =>
    repeat' apply AllP.cons
    all_goals first | exact trivial | exact id | exact fun _ => rfl | exact Nat.le_of_ble_eq_true rfl | exact fun _ => Nat.le_of_ble_eq_true rfl | exact in_t _ _ _ | exact (in_t _ _ _).un | exact fun h => (by have := wi_iff.1 (ac2 h); simp only [Ob.of, inR]; omega)
  case zk =>
  have hb : A.bool s.b0 = A.bool (cond (cond (cond (cond (wi s.wide 1 10) (wi s.high 1 8) false) (wi s.speed 0 2) false) (wi s.hours 1 12) false) (((s.drift.map Sp.c).length : Int) == s.hours - 1) false) := by rw [ld]; rfl
  refine Aw.keep (n := 0) (cst := [(1, .pt s.c), (3, .bool s.b0)]) (v := []) (Hl := []) hE ?zu ?zw ?zx ⟨?zc, ?zv, ?zh, Nat.le_of_ble_eq_true rfl⟩ ?zr
  case zu =>
    (repeat' (first | exact trivial | exact Under.s _ | exact Under.un | assumption | exact (free_ints _ _ _).under | exact Under.ref _ _ (by decide) | exact Under.ms _ _ _ (by decide) | exact Under.mp _ (by decide) | exact (Free.agg _ (by assumption)).under | exact (Free.pt _ (by assumption)).under | exact grL_under _ | exact outA_under _ | exact Nat.le_of_ble_eq_true rfl | exact (fun _ _ => rfl) | exact us | exact .of_eq hb | (refine And.intro ?_ ?_)))
  case zw =>
    (repeat' (first | exact trivial | exact Under.s _ | exact Under.un | assumption | exact (free_ints _ _ _).under | exact Under.ref _ _ (by decide) | exact Under.ms _ _ _ (by decide) | exact Under.mp _ (by decide) | exact (Free.agg _ (by assumption)).under | exact (Free.pt _ (by assumption)).under | exact grL_under _ | exact outA_under _ | exact Nat.le_of_ble_eq_true rfl | exact (fun _ _ => rfl) | exact us | exact .of_eq hb | (refine And.intro ?_ ?_)))
  case zx =>
    (repeat' (first | exact trivial | exact Under.s _ | exact Under.un | assumption | exact (free_ints _ _ _).under | exact Under.ref _ _ (by decide) | exact Under.ms _ _ _ (by decide) | exact Under.mp _ (by decide) | exact (Free.agg _ (by assumption)).under | exact (Free.pt _ (by assumption)).under | exact grL_under _ | exact outA_under _ | exact Nat.le_of_ble_eq_true rfl | exact (fun _ _ => rfl) | exact us | exact .of_eq hb | (refine And.intro ?_ ?_)))
  case zc =>
    (repeat' (first | (refine And.intro ?_ ?_) | exact trivial | exact A.Le.refl _ | exact rfl | exact us | exact .of_eq hb))
  case zv =>
    (repeat' (first | (refine And.intro ?_ ?_) | exact trivial | exact A.Le.refl _ | exact rfl | exact us | exact .of_eq hb))
  case zh =>
    (repeat' (first | (refine And.intro ?_ ?_) | exact trivial | exact A.Le.refl _ | exact rfl | exact us | exact .of_eq hb))
  case zr =>
  have hris : s.b0 = true → Ans Try.prog 36 [.sl s.ln .any (ints s.land), .int (s.wide * s.high)] (.bool (risingF (s.wide * s.high) (-1) s.land)) := fun h => rising_t s.land s.ln _ (by omega) (by have := b0_many h; omega)
  have hb1 : s.b1 = cond s.b0 (risingF (s.wide * s.high) (-1) s.land) false := rfl
  generalize risingF (s.wide * s.high) (-1) s.land = rv at *
  have hmm : s.b0 = true → inR (s.wide * s.high) := fun h => by have := b0_many h; simp only [inR]; omega
  refine Aw.sm tab_ok mb0 [(9, [.bool rv])] rfl rfl ?zo ?zk
  case zo =>
    repeat' apply AllP.cons
    all_goals first | exact trivial | exact id | exact fun _ => rfl | exact fun _ => Nat.le_of_ble_eq_true rfl | exact hris | exact hmm
  case zk =>
  refine Aw.seq ?_
  refine Aw.sm tab_ok mb0 [] rfl rfl ?zo ?zk
  case zo =>
    repeat' apply AllP.cons
    all_goals first | exact trivial
  case zk =>
  refine Aw.block (Aw.rounds 0 hE [(1, .pt s.c)] (fun k : Nat => [(3, .bool (andAll s.b1 Sea.stepOk s.drift k)), (4, .int k)]) (fun k => []) (fun k => k ≤ s.drift.length) (fun k => s.drift.length - k) 0 ?zg ⟨?zc, ?zv, ?zh, Nat.le_of_ble_eq_true rfl⟩ ?zu (fun k zhk => ?zw) (fun k zhk => ?zx) fun k hk => ?zr)
  case zg =>
    (repeat' (first | exact Nat.zero_le _ | exact Nat.le_refl _ | exact trivial | exact us | exact .of_eq (by rw [andAll_zero, hb1]; rfl) | (refine And.intro ?_ ?_)))
  case zc =>
    (repeat' (first | (refine And.intro ?_ ?_) | exact trivial | exact A.Le.refl _ | exact rfl | exact us | exact .of_eq (by rw [andAll_zero, hb1]; rfl)))
  case zv =>
    (repeat' (first | (refine And.intro ?_ ?_) | exact trivial | exact A.Le.refl _ | exact rfl | exact us | exact .of_eq (by rw [andAll_zero, hb1]; rfl)))
  case zh =>
    (repeat' (first | (refine And.intro ?_ ?_) | exact trivial | exact A.Le.refl _ | exact rfl | exact us | exact .of_eq (by rw [andAll_zero, hb1]; rfl)))
  case zu =>
    (repeat' (first | exact trivial | exact Under.s _ | exact Under.un | assumption | exact (free_ints _ _ _).under | exact Under.ref _ _ (by decide) | exact Under.ms _ _ _ (by decide) | exact Under.mp _ (by decide) | exact (Free.agg _ (by assumption)).under | exact (Free.pt _ (by assumption)).under | exact grL_under _ | exact outA_under _ | exact Nat.le_of_ble_eq_true rfl | exact (fun _ _ => rfl) | exact us | exact .of_eq (by rw [andAll_zero, hb1]; rfl) | (refine And.intro ?_ ?_)))
  case zw =>
    (repeat' (first | exact trivial | exact Under.s _ | exact Under.un | assumption | exact (free_ints _ _ _).under | exact Under.ref _ _ (by decide) | exact Under.ms _ _ _ (by decide) | exact Under.mp _ (by decide) | exact (Free.agg _ (by assumption)).under | exact (Free.pt _ (by assumption)).under | exact grL_under _ | exact outA_under _ | exact Nat.le_of_ble_eq_true rfl | exact (fun _ _ => rfl) | exact us | exact .of_eq (by rw [andAll_zero, hb1]; rfl) | (refine And.intro ?_ ?_)))
  case zx =>
    (repeat' (first | exact trivial | exact Under.s _ | exact Under.un | assumption | exact (free_ints _ _ _).under | exact Under.ref _ _ (by decide) | exact Under.ms _ _ _ (by decide) | exact Under.mp _ (by decide) | exact (Free.agg _ (by assumption)).under | exact (Free.pt _ (by assumption)).under | exact grL_under _ | exact outA_under _ | exact Nat.le_of_ble_eq_true rfl | exact (fun _ _ => rfl) | exact us | exact .of_eq (by rw [andAll_zero, hb1]; rfl) | (refine And.intro ?_ ?_)))
  case zr =>
  refine Aw.seq ?_
  refine Aw.sm tab_ok mb0 [] rfl rfl ?zo ?zk
  case zo =>
    repeat' apply AllP.cons
    all_goals first | exact trivial | exact id | exact fun _ => rfl | exact fun _ => Nat.le_of_ble_eq_true rfl
  case zk =>
  refine Aw.cond rfl (fun h1 => Aw.skip ?_) (fun h1 => ?_)
  · have h1 : cond (andAll s.b1 Sea.stepOk s.drift k) (decide ((k : Int) < ((s.drift.map Sp.c).length : Int))) false = true := h1
    have hbk := ac1 h1
    have hlt : k < s.drift.length := by have := of_decide_eq_true (ac2 h1); omega
    have hget := get_map (f := Sp.c) hlt
    have e := andAll_succ hlt hbk
    have hso : Sea.stepOk s.drift[k] = cond (wi s.drift[k].lo (-2) 2) (wi s.drift[k].hi (-2) 2) false := rfl
    rw [hso] at e
    generalize s.drift[k] = d at *
    refine Aw.seq (Aw.block ?_)
    refine Aw.em tab_ok mb0 [(3, d.c), (6, [.bool (wi d.lo (-2) 2)]), (11, d.c), (14, [.bool (wi d.hi (-2) 2)])] rfl rfl ?zo ?zk
    case zo =>
      repeat' apply AllP.cons
      all_goals first | exact trivial | exact id | exact rfl | exact fun _ => rfl | exact Nat.le_of_ble_eq_true rfl | exact fun _ => Nat.le_of_ble_eq_true rfl | exact Int.natCast_nonneg _ | exact fun _ => Int.natCast_nonneg _ | exact in_t _ _ _ | exact (in_t _ _ _).un | exact hget | exact fun _ => hget
    case zk =>
    refine Aw.em tab_ok mb0 [] rfl rfl ?zo ?zk
    case zo =>
      repeat' apply AllP.cons
      all_goals first | exact trivial | exact inrk k (by omega)
    case zk =>
    refine ⟨k + 1, ?zg, ?zm, ⟨?zc, ?zv, ?zh, Nat.le_of_ble_eq_true rfl⟩⟩
    case zg =>
      (repeat' (first | assumption | omega | exact .of_eq (congrArg A.bool e) | (refine And.intro ?_ ?_)))
    case zm =>
      (repeat' (first | omega | exact .of_eq (congrArg A.bool e) | (refine And.intro ?_ ?_)))
    case zc =>
      (repeat' (first | (refine And.intro ?_ ?_) | exact trivial | exact A.Le.refl _ | exact rfl | exact .of_eq (congrArg A.bool e)))
    case zv =>
      (repeat' (first | (refine And.intro ?_ ?_) | exact trivial | exact A.Le.refl _ | exact rfl | exact .of_eq (congrArg A.bool e)))
    case zh =>
      (repeat' (first | (refine And.intro ?_ ?_) | exact trivial | exact A.Le.refl _ | exact rfl | exact .of_eq (congrArg A.bool e)))
  have h1 : cond (andAll s.b1 Sea.stepOk s.drift k) (decide ((k : Int) < ((s.drift.map Sp.c).length : Int))) false = false := h1
  have hend := andAll_end (b := s.b1) (p := Sea.stepOk) (l := s.drift) (k := k) (by
    cases e : andAll s.b1 Sea.stepOk s.drift k with
    | false => exact .inl rfl
    | true => rw [e] at h1; have := of_decide_eq_false h1; exact .inr (by omega)) hk
  have hok : cond s.b1 (s.drift.all Sea.stepOk) false = s.ok := rfl
  refine Aw.exit2 ?_
  rw [hend, hok]
  refine Aw.seq ?_
  refine Aw.sm tab_ok mb0 [] rfl rfl ?zo ?zk
  case zo =>
    repeat' apply AllP.cons
    all_goals first | exact trivial
  case zk =>
  refine Aw.cond rfl (fun h1 => ?_) (fun h1 => Aw.skip ?_)
  · have hno : s.ok = false := by simpa using h1
    refine Aw.sm tab_ok mb0 [] rfl rfl ?zo ?zk
    case zo =>
      repeat' apply AllP.cons
      all_goals first | exact trivial
    case zk =>
    exact Aw.ret ⟨_, .cons (.tmp _) .nil, by unfold Sea.chk; rw [hno]; rfl⟩
  · have hyes : s.ok = true := by simpa using h1
    refine Aw.sm tab_ok mb0 [] rfl rfl ?zo ?zk
    case zo =>
      repeat' apply AllP.cons
      all_goals first | exact trivial
    case zk =>
    exact Aw.ret ⟨_, .cons (.tmp _) .nil, by unfold Sea.chk; rw [hyes]; rfl⟩
def askR (s : Sea) (l : List Rep) : Int := if s.ok then if s.repsOk l then 0 else 11 else 10
theorem asked_r (s : Sea) (hf : SeaFit s) (b : Bool) (l : List Rep) (hl : (l.length : Int) ≤ 9223372036854775806) : Ans Try.prog 53 [.agg s.c, .sl b .any (l.map Rep.c)] (.int (askR s l)) := by
  have ll : ((l.map Rep.c).length : Int) = l.length := by simp
  have us : ∀ {m : Nat}, Under m (A.pt s.c) := (Free.pt _ s.free).under
  have ul : ∀ {m : Nat}, Under m (.sl b .any (l.map Rep.c)) := (free_map Rep.free _ _ _).under
  have hck := rcheck_t s hf
  refine told Try.func53 rfl rfl (Pure.of tab_ok Try.func53 rfl Try.ntmps53 rfl (allC (.agg _ s.free) (all1 (free_map Rep.free _ _ _))) (allC (fun _ => rfl) (all1 (fun _ => rfl))) (by first | exact .s _ | assumption | exact .tup _ (by intro x hx; simp only [List.mem_cons, List.not_mem_nil, or_false] at hx; rcases hx with rfl | rfl | rfl | rfl <;> first | exact .s _ | (simp_all; done))) fun E hE => ?_)
  refine Aw.sm tab_ok mb0 [] rfl rfl ?zo ?zk
  case zo =>
    repeat' apply AllP.cons
    all_goals first | exact trivial
  case zk =>
  refine Aw.seq ?_
  refine Aw.sm tab_ok mb0 [(1, [.int s.chk])] rfl rfl ?zo ?zk
  case zo =>
    repeat' apply AllP.cons
    all_goals first | exact trivial | exact Nat.le_of_ble_eq_true rfl | exact hck
  case zk =>
  refine Aw.sm tab_ok mb0 [] rfl rfl ?zo ?zk
  case zo =>
    repeat' apply AllP.cons
    all_goals first | exact trivial
  case zk =>
  cases hok : s.ok with
  | false =>
    have e : s.chk = 10 := by unfold Sea.chk; rw [hok]; rfl
    have e2 : askR s l = 10 := by unfold askR; rw [hok]; rfl
    rw [e, e2]
    refine Aw.cond rfl (fun _ => ?_) (fun h => absurd h (by decide))
    refine Aw.sm tab_ok mb0 [] rfl rfl ?zo ?zk
    case zo =>
      repeat' apply AllP.cons
      all_goals first | exact trivial
    case zk =>
    exact Aw.ret ⟨_, .cons (.tmp _) .nil, rfl⟩
  | true =>
  have e : s.chk = 0 := by unfold Sea.chk; rw [hok]; rfl
  have ho := Sea.ok_of hok
  have hm := ho.many
  have hmm : s.wide * s.high = s.many := rfl
  have hhr := ho.hr
  rw [e]
  refine Aw.cond rfl (fun h => absurd h (by decide)) (fun _ => Aw.skip ?_)
  refine Aw.sm tab_ok mb0 [] rfl rfl ?zo ?zk
  case zo =>
    repeat' apply AllP.cons
    all_goals first | exact trivial
  case zk =>
  refine Aw.seq ?_
  refine Aw.sm tab_ok mb0 [] rfl rfl ?zo ?zk
  case zo =>
    repeat' apply AllP.cons
    all_goals first | exact trivial
  case zk =>
  refine Aw.block (Aw.rounds 0 hE [(1, .sl b .any (l.map Rep.c)), (2, .pt s.c)] (fun k : Nat => [(6, .bool (andAll (decide (((l.map Rep.c).length : Int) ≤ 24)) s.repOk l k)), (7, .int k)]) (fun k => []) (fun k => k ≤ l.length) (fun k => l.length - k) 0 ?zg ⟨?zc, ?zv, ?zh, Nat.le_of_ble_eq_true rfl⟩ ?zu (fun k zhk => ?zw) (fun k zhk => ?zx) fun k hk => ?zr)
  case zg =>
    (repeat' (first | exact Nat.zero_le _ | exact Nat.le_refl _ | exact trivial | exact us | exact ul | exact .of_eq (by rw [andAll_zero]; rfl) | (refine And.intro ?_ ?_)))
  case zc =>
    (repeat' (first | (refine And.intro ?_ ?_) | exact trivial | exact A.Le.refl _ | exact rfl | exact us | exact ul | exact .of_eq (by rw [andAll_zero]; rfl)))
  case zv =>
    (repeat' (first | (refine And.intro ?_ ?_) | exact trivial | exact A.Le.refl _ | exact rfl | exact us | exact ul | exact .of_eq (by rw [andAll_zero]; rfl)))
  case zh =>
    (repeat' (first | (refine And.intro ?_ ?_) | exact trivial | exact A.Le.refl _ | exact rfl | exact us | exact ul | exact .of_eq (by rw [andAll_zero]; rfl)))
  case zu =>
    (repeat' (first | exact trivial | exact Under.s _ | exact Under.un | assumption | exact (free_ints _ _ _).under | exact Under.ref _ _ (by decide) | exact Under.ms _ _ _ (by decide) | exact Under.mp _ (by decide) | exact (Free.agg _ (by assumption)).under | exact (Free.pt _ (by assumption)).under | exact grL_under _ | exact outA_under _ | exact Nat.le_of_ble_eq_true rfl | exact (fun _ _ => rfl) | exact us | exact ul | exact .of_eq (by rw [andAll_zero]; rfl) | (refine And.intro ?_ ?_)))
  case zw =>
    (repeat' (first | exact trivial | exact Under.s _ | exact Under.un | assumption | exact (free_ints _ _ _).under | exact Under.ref _ _ (by decide) | exact Under.ms _ _ _ (by decide) | exact Under.mp _ (by decide) | exact (Free.agg _ (by assumption)).under | exact (Free.pt _ (by assumption)).under | exact grL_under _ | exact outA_under _ | exact Nat.le_of_ble_eq_true rfl | exact (fun _ _ => rfl) | exact us | exact ul | exact .of_eq (by rw [andAll_zero]; rfl) | (refine And.intro ?_ ?_)))
  case zx =>
    (repeat' (first | exact trivial | exact Under.s _ | exact Under.un | assumption | exact (free_ints _ _ _).under | exact Under.ref _ _ (by decide) | exact Under.ms _ _ _ (by decide) | exact Under.mp _ (by decide) | exact (Free.agg _ (by assumption)).under | exact (Free.pt _ (by assumption)).under | exact grL_under _ | exact outA_under _ | exact Nat.le_of_ble_eq_true rfl | exact (fun _ _ => rfl) | exact us | exact ul | exact .of_eq (by rw [andAll_zero]; rfl) | (refine And.intro ?_ ?_)))
  case zr =>
  refine Aw.seq ?_
  refine Aw.sm tab_ok mb0 [] rfl rfl ?zo ?zk
  case zo =>
    repeat' apply AllP.cons
    all_goals first | exact trivial | exact id | exact fun _ => rfl
  case zk =>
  refine Aw.cond rfl (fun h1 => Aw.skip ?_) (fun h1 => ?_)
  · have h1 : cond (andAll (decide (((l.map Rep.c).length : Int) ≤ 24)) s.repOk l k) (decide ((k : Int) < ((l.map Rep.c).length : Int))) false = true := h1
    have hbk := ac1 h1
    have hlt : k < l.length := by have := of_decide_eq_true (ac2 h1); omega
    have hget := get_map (f := Rep.c) hlt
    have e := andAll_succ hlt hbk
    have hso : s.repOk l[k] = cond (cond (wi l[k].hour 0 (s.hours - 1)) (wi l[k].cell 0 (s.wide * s.high - 1)) false) (wi l[k].far 0 9) false := rfl
    rw [hso] at e
    generalize l[k] = r at *
    refine Aw.seq (Aw.block ?_)
    refine Aw.ed tab_ok mixed mb0 [(2, r.c), (8, [.bool (wi r.hour 0 (s.hours - 1))]), (12, r.c), (21, [.bool (wi r.cell 0 (s.wide * s.high - 1))]), (26, r.c), (29, [.bool (wi r.far 0 9)])] rfl (by kernel_rfl) rfl rfl ?zo ?zk
    case zo =>
      repeat' apply AllP.cons
      all_goals first | exact trivial | exact id | exact rfl | exact fun _ => rfl | exact Nat.le_of_ble_eq_true rfl | exact fun _ => Nat.le_of_ble_eq_true rfl | exact Int.natCast_nonneg _ | exact fun _ => Int.natCast_nonneg _ | exact in_t _ _ _ | exact (in_t _ _ _).un | exact hget | exact fun _ => hget | exact (by simp only [Ob.of, inR]; omega)
    case zk =>
    refine Aw.em tab_ok mb0 [] rfl rfl ?zo ?zk
    case zo =>
      repeat' apply AllP.cons
      all_goals first | exact trivial | exact inrk k (by omega)
    case zk =>
    refine ⟨k + 1, ?zg, ?zm, ⟨?zc, ?zv, ?zh, Nat.le_of_ble_eq_true rfl⟩⟩
    case zg =>
      (repeat' (first | assumption | omega | exact .of_eq (congrArg A.bool e) | (refine And.intro ?_ ?_)))
    case zm =>
      (repeat' (first | omega | exact .of_eq (congrArg A.bool e) | (refine And.intro ?_ ?_)))
    case zc =>
      (repeat' (first | (refine And.intro ?_ ?_) | exact trivial | exact A.Le.refl _ | exact rfl | exact .of_eq (congrArg A.bool e)))
    case zv =>
      (repeat' (first | (refine And.intro ?_ ?_) | exact trivial | exact A.Le.refl _ | exact rfl | exact .of_eq (congrArg A.bool e)))
    case zh =>
      (repeat' (first | (refine And.intro ?_ ?_) | exact trivial | exact A.Le.refl _ | exact rfl | exact .of_eq (congrArg A.bool e)))
  have h1 : cond (andAll (decide (((l.map Rep.c).length : Int) ≤ 24)) s.repOk l k) (decide ((k : Int) < ((l.map Rep.c).length : Int))) false = false := h1
  have hend := andAll_end (b := decide (((l.map Rep.c).length : Int) ≤ 24)) (p := s.repOk) (l := l) (k := k) (by
    cases e : andAll (decide (((l.map Rep.c).length : Int) ≤ 24)) s.repOk l k with
    | false => exact .inl rfl
    | true => rw [e] at h1; have := of_decide_eq_false h1; exact .inr (by omega)) hk
  have hrk : cond (decide (((l.map Rep.c).length : Int) ≤ 24)) (l.all s.repOk) false = s.repsOk l := by rw [ll]; rfl
  refine Aw.exit2 ?_
  rw [hend, hrk]
  refine Aw.seq ?_
  refine Aw.sm tab_ok mb0 [] rfl rfl ?zo ?zk
  case zo =>
    repeat' apply AllP.cons
    all_goals first | exact trivial
  case zk =>
  refine Aw.cond rfl (fun h1 => ?_) (fun h1 => Aw.skip ?_)
  · have hno : s.repsOk l = false := by simpa using h1
    refine Aw.sm tab_ok mb0 [] rfl rfl ?zo ?zk
    case zo =>
      repeat' apply AllP.cons
      all_goals first | exact trivial
    case zk =>
    exact Aw.ret ⟨_, .cons (.tmp _) .nil, by unfold askR; rw [hok, hno]; rfl⟩
  · have hyes : s.repsOk l = true := by simpa using h1
    refine Aw.sm tab_ok mb0 [] rfl rfl ?zo ?zk
    case zo =>
      repeat' apply AllP.cons
      all_goals first | exact trivial
    case zk =>
    exact Aw.ret ⟨_, .cons (.tmp _) .nil, by unfold askR; rw [hok, hyes]; rfl⟩
end Go.Proofs.Ytohbjneaaahpcaa

namespace Go.Proofs.Ytohbjneaaahpcaa
open Go Go.AL Go.AL.Q Go.AL.Sh
theorem ref_fold {inf : Nat} {P : Nat → Nat → Prop} {nx : Nat → Int} {u : Nat → Nat} {ok : Nat → Bool} : ∀ (L : List Nat) (Q : Nat → Prop) (b : Int), MinIs inf Q b → (∀ o ∈ L, MinIs inf (P o) (nx o)) → (∀ n, Q n → n ≤ inf) → (∀ o ∈ L, ∀ n, P o n → n + u o < inf) →
    MinIs inf (fun n => Q n ∨ ∃ o ∈ L, ok o = true ∧ ∃ m, P o m ∧ n = m + u o) (L.foldl (fun b o => if nx o < inf ∧ ok o = true then gmin b (nx o + u o) else b) b)
  | [], Q, b, h, _, _, _ => h.congr fun n => by simp
  | o :: L, Q, b, h, hm, hQ, hP => by
    rw [List.foldl_cons]
    have ho := hm o (by simp)
    by_cases hc : nx o < inf ∧ ok o = true
    · rw [if_pos hc]
      have h1 : MinIs inf (fun n => ∃ m, P o m ∧ n = m + u o) (nx o + u o) := by
        rcases ho.or with ⟨e, _⟩ | ⟨m, e, p, q⟩
        · omega
        · exact ⟨.inr ⟨m + u o, by omega, ⟨m, p, rfl⟩, fun j ⟨k, hk, e2⟩ => by have := q k hk; omega⟩⟩
      refine (ref_fold L (fun n => Q n ∨ ∃ m, P o m ∧ n = m + u o) _ (h.min h1 hQ fun n ⟨m, k, e⟩ => by have := hP o (by simp) m k; omega) (fun x hx => hm x (by simp [hx])) (fun n k => k.elim (hQ n) fun ⟨m, k, e⟩ => by have := hP o (by simp) m k; omega) fun x hx => hP x (by simp [hx])).congr fun n => ?_
      simp only [List.mem_cons, exists_eq_or_imp, or_assoc, hc.2, true_and]
    · rw [if_neg hc]
      refine (ref_fold L Q b h (fun x hx => hm x (by simp [hx])) hQ fun x hx => hP x (by simp [hx])).congr fun n => ?_
      simp only [List.mem_cons, exists_eq_or_imp]
      have hno : ¬ (ok o = true ∧ ∃ m, P o m ∧ n = m + u o) := by
        rintro ⟨k1, m, k2, _⟩
        rcases ho.or with ⟨_, e⟩ | ⟨j, e, p, q⟩
        · exact e m k2
        · have := hP o (by simp) j p
          have h9 : ¬ nx o < inf := fun h => hc ⟨h, k1⟩
          omega
      constructor
      · rintro (h1 | h1)
        · exact .inl h1
        · exact .inr (.inr h1)
      · rintro (h1 | h1 | h1)
        · exact .inl h1
        · exact absurd h1 hno
        · exact .inr h1
def refB (s : Sea) (l : List Rep) (nx : List Int) (h c m : Nat) : Int := (List.range m).foldl (fun b o => if nx.getD o 0 < (1000 : Nat) ∧ stp s h c o = true then gmin b (unN s l h c + nx.getD o 0) else b) (1000 : Nat)
def refA (s : Sea) (l : List Rep) (pv : List Int) (h c m : Nat) : Int := (List.range m).foldl (fun b o => if pv.getD o 0 < (1000 : Nat) ∧ stp s h o c = true then gmin b (pv.getD o 0 + unN s l h o) else b) (1000 : Nat)
def behV (s : Sea) (l : List Rep) (nx : Option (List Int)) (h c : Nat) : Int := if watB s c then (match nx with | none => (unN s l h c : Int) | some nx => refB s l nx h c s.many.toNat) else 1000
def aheV (s : Sea) (l : List Rep) (pv : Option (List Int)) (h c : Nat) : Int := if watB s c then (match pv with | none => 0 | some pv => refA s l pv (h - 1) c s.many.toNat) else 1000
def rowK (val : Nat → Int) (n : Nat) : List Int := (List.range n).map val
theorem rowK_succ (val : Nat → Int) (n : Nat) : rowK val (n + 1) = rowK val n ++ [val n] := by unfold rowK; simp [List.range_succ]
theorem rowK_len (val : Nat → Int) (n : Nat) : (rowK val n).length = n := by simp [rowK]
theorem rowK_at (val : Nat → Int) {n c : Nat} (h : c < n) : (rowK val n).getD c 0 = val c := by simp [rowK, List.getD_eq_getElem?_getD, h]
def behR (s : Sea) (l : List Rep) : Nat → List Int
  | 0 => rowK (behV s l none (hrs s - 1)) s.many.toNat
  | j + 1 => rowK (behV s l (some (behR s l j)) (hrs s - 1 - (j + 1))) s.many.toNat
def aheR (s : Sea) (l : List Rep) : Nat → List Int
  | 0 => rowK (aheV s l none 0) s.many.toNat
  | h + 1 => rowK (aheV s l (some (aheR s l h)) (h + 1)) s.many.toNat
theorem wat_iff {s : Sea} (ho : s.Ok) (c : Nat) : watB s c = true ↔ c ∈ cellsL s := watB_nat ho c
theorem cells_many {s : Sea} (ho : s.Ok) {c : Nat} (h : c ∈ cellsL s) : c < s.many.toNat := List.mem_range.1 (List.mem_filter.1 h).1
theorem beh_min {s : Sea} (ho : s.Ok) {l : List Rep} (hl : l.length ≤ 24) : ∀ j, j < hrs s → ∀ c, c < s.many.toNat → MinIs 1000 (BwP s l (hrs s - 1 - j) c) ((behR s l j).getD c 0)
  | 0, hj, c, hc => by
    rw [behR, rowK_at _ hc]
    unfold behV
    by_cases hw : watB s c = true
    · rw [if_pos hw]
      have hm := (wat_iff ho c).1 hw
      have hh : hrs s - 1 + 1 = hrs s := by omega
      exact ⟨.inr ⟨unN s l (hrs s - 1) c, rfl, (BwP.last hh hm _).2 rfl, fun m h => by rw [(BwP.last hh hm _).1 h]; exact Nat.le_refl _⟩⟩
    · rw [if_neg hw]
      exact ⟨.inl ⟨rfl, fun n h => hw ((wat_iff ho c).2 h.mem)⟩⟩
  | j + 1, hj, c, hc => by
    rw [behR, rowK_at _ hc]
    unfold behV
    have hp := hrs_pos ho
    by_cases hw : watB s c = true
    · rw [if_pos hw]
      have hm := (wat_iff ho c).1 hw
      have ih := beh_min ho hl j (by omega)
      have key := ref_fold (inf := 1000) (P := fun o => BwP s l (hrs s - 1 - j) o) (nx := fun o => (behR s l j).getD o 0) (u := fun _ => unN s l (hrs s - 1 - (j + 1)) c) (ok := fun o => stp s (hrs s - 1 - (j + 1)) c o) (List.range s.many.toNat) (fun _ => False) 1000 MinIs.none
        (fun o ho' => ih o (List.mem_range.1 ho')) (fun n h => h.elim) fun o _ n hn => by have := hn.le hl; have := unN_le s hl (hrs s - 1 - (j + 1)) c; omega
      have e : refB s l (behR s l j) (hrs s - 1 - (j + 1)) c s.many.toNat = (List.range s.many.toNat).foldl (fun b o => if (behR s l j).getD o 0 < (1000 : Nat) ∧ stp s (hrs s - 1 - (j + 1)) c o = true then gmin b ((behR s l j).getD o 0 + unN s l (hrs s - 1 - (j + 1)) c) else b) (1000 : Nat) := by
        unfold refB
        simp only [Int.add_comm]
      show MinIs 1000 _ (refB s l (behR s l j) (hrs s - 1 - (j + 1)) c s.many.toNat)
      rw [e]
      refine key.congr fun n => ?_
      rw [BwP.succ (by omega) hm, show hrs s - 1 - (j + 1) + 1 = hrs s - 1 - j by omega]
      simp only [false_or]
      constructor
      · rintro ⟨o, h1, h2, m, h3, h4⟩
        exact ⟨m, ⟨o, List.mem_filter.2 ⟨h3.mem, h2⟩, h3⟩, h4⟩
      · rintro ⟨m, ⟨o, h1, h2⟩, h3⟩
        obtain ⟨h4, h5⟩ := List.mem_filter.1 h1
        exact ⟨o, List.mem_range.2 (cells_many ho h4), h5, m, h2, h3⟩
    · rw [if_neg hw]
      exact ⟨.inl ⟨rfl, fun n h => hw ((wat_iff ho c).2 h.mem)⟩⟩
def AhP (s : Sea) (l : List Rep) (h c n : Nat) : Prop := FwP s l h c (n + unN s l h c)
theorem FwP.ge {s : Sea} {l : List Rep} {h c n : Nat} (k : FwP s l h c n) : unN s l h c ≤ n := by
  obtain ⟨t, rfl, _, rfl⟩ := k
  rw [costW_app]; simp [costW]
theorem ahe_min {s : Sea} (ho : s.Ok) {l : List Rep} (hl : l.length ≤ 24) : ∀ h, h < hrs s → ∀ c, c < s.many.toNat → MinIs 1000 (AhP s l h c) ((aheR s l h).getD c 0)
  | 0, hj, c, hc => by
    rw [aheR, rowK_at _ hc]
    unfold aheV
    by_cases hw : watB s c = true
    · rw [if_pos hw]
      have hm := (wat_iff ho c).1 hw
      exact ⟨.inr ⟨0, rfl, (FwP.zero hm _).2 (by omega), fun m _ => Nat.zero_le m⟩⟩
    · rw [if_neg hw]
      exact ⟨.inl ⟨rfl, fun n h => hw ((wat_iff ho c).2 h.mem)⟩⟩
  | h + 1, hj, c, hc => by
    rw [aheR, rowK_at _ hc]
    unfold aheV
    have hp := hrs_pos ho
    by_cases hw : watB s c = true
    · rw [if_pos hw]
      have hm := (wat_iff ho c).1 hw
      have ih := ahe_min ho hl h (by omega)
      have key := ref_fold (inf := 1000) (P := fun o => AhP s l h o) (nx := fun o => (aheR s l h).getD o 0) (u := fun o => unN s l h o) (ok := fun o => stp s h o c) (List.range s.many.toNat) (fun _ => False) 1000 MinIs.none
        (fun o ho' => ih o (List.mem_range.1 ho')) (fun n h => h.elim) fun o _ n hn => by have := FwP.le hl hn; omega
      show MinIs 1000 _ (refA s l (aheR s l h) (h + 1 - 1) c s.many.toNat)
      rw [Nat.add_sub_cancel]
      refine key.congr fun n => ?_
      unfold AhP
      rw [FwP.succ hm]
      simp only [false_or]
      constructor
      · rintro ⟨o, h1, h2, m, h3, h4⟩
        exact ⟨m + unN s l h o, ⟨o, List.mem_filter.2 ⟨h3.mem, h2⟩, h3⟩, by omega⟩
      · rintro ⟨m, ⟨o, h1, h2⟩, h3⟩
        obtain ⟨h4, h5⟩ := List.mem_filter.1 h1
        have := h2.ge
        exact ⟨o, List.mem_range.2 (cells_many ho h4), h5, m - unN s l h o, by rw [show m - unN s l h o + unN s l h o = m by omega]; exact h2, by omega⟩
    · rw [if_neg hw]
      exact ⟨.inl ⟨rfl, fun n h => hw ((wat_iff ho c).2 h.mem)⟩⟩
theorem MinIs.bd {P : Nat → Prop} {v : Int} (h : MinIs 1000 P v) (hb : ∀ n, P n → n ≤ 1000) : 0 ≤ v ∧ v ≤ 1000 := ⟨h.nonneg, h.le hb⟩
theorem beh_bd {s : Sea} (ho : s.Ok) {l : List Rep} (hl : l.length ≤ 24) {j c : Nat} (hj : j < hrs s) (hc : c < s.many.toNat) : 0 ≤ (behR s l j).getD c 0 ∧ (behR s l j).getD c 0 ≤ 1000 :=
  (beh_min ho hl j hj c hc).bd fun n h => by have := h.le hl; have := hrs_pos ho; omega
theorem ahe_bd {s : Sea} (ho : s.Ok) {l : List Rep} (hl : l.length ≤ 24) {h c : Nat} (hj : h < hrs s) (hc : c < s.many.toNat) : 0 ≤ (aheR s l h).getD c 0 ∧ (aheR s l h).getD c 0 ≤ 1000 :=
  (ahe_min ho hl h hj c hc).bd fun n h => by have := FwP.le hl h; have := hrs_pos ho; omega
theorem behR_len (s : Sea) (l : List Rep) (j : Nat) : (behR s l j).length = s.many.toNat := by cases j <;> exact rowK_len _ _
theorem aheR_len (s : Sea) (l : List Rep) (j : Nat) : (aheR s l j).length = s.many.toNat := by cases j <;> exact rowK_len _ _
theorem min_both {P : Nat → Prop} {v w : Int} (h : MinIs 1000 P v) (k : MinIs 1048576 P w) (hb : ∀ n, P n → n < 1000) : (v < 1000 ∧ v = w) ∨ (v = 1000 ∧ w = 1048576) := by
  rcases h.or with ⟨h1, h2⟩ | ⟨n, h1, h2, h3⟩ <;> rcases k.or with ⟨k1, k2⟩ | ⟨m, k1, k2, k3⟩
  · exact .inr ⟨h1, k1⟩
  · exact absurd k2 (h2 m)
  · exact absurd h2 (k2 n)
  · have := h3 m k2; have := k3 n h2; have := hb n h2; exact .inl ⟨by omega, by omega⟩
theorem sum_le {s : Sea} (ho : s.Ok) {l : List Rep} (hl : l.length ≤ 24) {h : Nat} (hh : h < hrs s) {c : Nat} (hc : c < s.many.toNat) {w : Int} (hw : w ≤ 24) :
    (aheR s l h).getD c 0 + (behR s l (hrs s - 1 - h)).getD c 0 ≤ w ↔ c ∈ cellsL s ∧ (thrR s l h).getD c 0 ≤ w := by
  have h1 := ahe_min ho hl h hh c hc
  have h2 := beh_min ho hl (hrs s - 1 - h) (by omega) c hc
  rw [show hrs s - 1 - (hrs s - 1 - h) = h by omega] at h2
  have n1 := h1.nonneg
  have n2 := h2.nonneg
  constructor
  · intro hle
    rcases h1.or with ⟨e1, _⟩ | ⟨a, e1, p1, _⟩
    · omega
    rcases h2.or with ⟨e2, _⟩ | ⟨b, e2, p2, _⟩
    · omega
    have hm : c ∈ cellsL s := p2.mem
    refine ⟨hm, ((thr_min ho hl hh hm).le_iff (by omega)).2 ⟨a + b, by omega, (TrP.iff _).2 ⟨a + unN s l h c, b, p1, p2, by omega⟩⟩⟩
  · rintro ⟨hm, hle⟩
    obtain ⟨n, k1, k2⟩ := ((thr_min ho hl hh hm).le_iff (by omega)).1 hle
    obtain ⟨a, b, p1, p2, e⟩ := (TrP.iff n).1 k2
    have hg := p1.ge
    have q1 := (h1.le_iff (w := (a - unN s l h c : Nat)) (by have := p1.le hl; have := hrs_pos ho; omega)).2 ⟨a - unN s l h c, by omega, by unfold AhP; rw [show a - unN s l h c + unN s l h c = a by omega]; exact p1⟩
    have q2 := (h2.le_iff (w := b) (by have := p2.le hl; have := hrs_pos ho; omega)).2 ⟨b, by omega, p2⟩
    omega
end Go.Proofs.Ytohbjneaaahpcaa

namespace Go.Proofs.Ytohbjneaaahpcaa
open Go Go.AL Go.AL.Q Go.AL.Sh
theorem bool_iff2 {a b : Bool} (h : a = true ↔ b = true) : a = b := by cases a <;> cases b <;> simp_all
def rcanP (s : Sea) (l : List Rep) (wrong : Int) (h c : Nat) : Bool := decide ((aheR s l h).getD c 0 + (behR s l (hrs s - 1 - h)).getD c 0 ≤ wrong)
def rcanK (s : Sea) (l : List Rep) (wrong : Int) (h n : Nat) : List Int := ((List.range n).filter (rcanP s l wrong h)).map Int.ofNat
theorem rcanK_succ (s : Sea) (l : List Rep) (wrong : Int) (h n : Nat) : rcanK s l wrong h (n + 1) = if rcanP s l wrong h n then rcanK s l wrong h n ++ [(n : Int)] else rcanK s l wrong h n := by
  unfold rcanK
  rw [List.range_succ, List.filter_append, List.map_append, List.filter_cons]
  cases rcanP s l wrong h n <;> simp
theorem rcanK_len (s : Sea) (l : List Rep) (wrong : Int) (h n : Nat) : (rcanK s l wrong h n).length ≤ n := by
  unfold rcanK; rw [List.length_map]; exact Nat.le_trans (List.length_filter_le _ _) (by simp)
theorem rcan_is {s : Sea} (ho : s.Ok) {l : List Rep} (hl : l.length ≤ 24) {wrong hour : Int} (hw : wrong ≤ 24) (h0 : 0 ≤ hour) (h1 : hour < s.hours) : rcanK s l wrong hour.toNat s.many.toNat = canF s l wrong hour := by
  have hp := hrs_pos ho
  rw [canF_eq]
  unfold rcanK cellsL
  rw [List.filter_filter]
  congr 1
  refine List.filter_congr fun c hc => ?_
  have hc := List.mem_range.1 hc
  refine bool_iff2 ?_
  unfold rcanP
  rw [decide_eq_true_eq, sum_le ho hl (by omega) hc hw, Bool.and_eq_true, decide_eq_true_eq]
  unfold cellsL
  rw [List.mem_filter, List.mem_range]
  constructor
  · rintro ⟨⟨_, h2⟩, h3⟩; exact ⟨h3, h2⟩
  · rintro ⟨h3, h2⟩; exact ⟨⟨hc, h2⟩, h3⟩
def lstK (s : Sea) (l : List Rep) (m : Nat) : Int := (List.range m).foldl (fun b c => gmin b ((behR s l (hrs s - 1)).getD c 0)) (1000 : Nat)
theorem lstK_succ (s : Sea) (l : List Rep) (m : Nat) : lstK s l (m + 1) = gmin (lstK s l m) ((behR s l (hrs s - 1)).getD m 0) := by
  unfold lstK; rw [List.range_succ, List.foldl_append]; rfl
theorem lst_min {s : Sea} (ho : s.Ok) {l : List Rep} (hl : l.length ≤ 24) : MinIs 1000 (TrA s l) (lstK s l s.many.toNat) := by
  have hp := hrs_pos ho
  refine (MinIs.fold (inf := 1000) (fun c => BwP s l 0 c) (fun c => (behR s l (hrs s - 1)).getD c 0) (List.range s.many.toNat) (fun _ => False) 1000 MinIs.none (fun c hc => by
    have := beh_min ho hl (hrs s - 1) (by omega) c (List.mem_range.1 hc)
    rwa [show hrs s - 1 - (hrs s - 1) = 0 by omega] at this) (fun n h => h.elim) fun c _ n h => by have := h.le hl; omega).congr fun n => ?_
  simp only [false_or]
  constructor
  · rintro ⟨c, _, h⟩; exact h.zero
  · rintro ⟨T, h1, h2⟩
    obtain ⟨c, T', rfl⟩ : ∃ c T', T = c :: T' := by
      cases T with
      | nil => have := h1.len; simp at this; omega
      | cons c T' => exact ⟨c, T', rfl⟩
    have hb : BwP s l 0 c n := ⟨T', by have := h1.len; simp only [List.length_cons] at this; omega, h1.ok, h2⟩
    exact ⟨c, List.mem_range.2 (cells_many ho hb.mem), hb⟩
theorem lst_is {s : Sea} (ho : s.Ok) {l : List Rep} (hl : l.length ≤ 24) : (fewF s l < 1048576 ∧ lstK s l s.many.toNat = fewF s l ∧ fewF s l ≤ 288) ∨ (¬ fewF s l < 1048576 ∧ lstK s l s.many.toNat = 1000) := by
  rcases min_both (lst_min ho hl) (fewF_min ho hl) (fun n h => by have := h.le ho hl; omega) with ⟨h1, h2⟩ | ⟨h1, h2⟩
  · have := few_288 ho hl (by omega); exact .inl ⟨by omega, h2, this.2⟩
  · exact .inr ⟨by omega, h1⟩
def rselP (s : Sea) (l : List Rep) (h : Nat) (t : List Nat) (left : Int) (c : Nat) : Bool := ((behR s l (hrs s - 1 - h)).getD c 0 == left) && (h == 0 || stp s (h - 1) (t.getD (h - 1) 0) c)
theorem rsel_is {s : Sea} (ho : s.Ok) {l : List Rep} (hl : l.length ≤ 24) {h : Nat} (hh : h < hrs s) {t : List Nat} {left : Int} (hb : left ≤ 288) {c : Nat} (hc : c < s.many.toNat) : rselP s l h t left c = (watP s c && selP s l h t left c) := by
  have h1 := beh_min ho hl (hrs s - 1 - h) (by omega) c hc
  rw [show hrs s - 1 - (hrs s - 1 - h) = h by omega] at h1
  have hp := hrs_pos ho
  unfold rselP selP
  cases hw : watP s c with
  | false =>
    have hn : c ∉ cellsL s := fun hm => by have := (List.mem_filter.1 hm).2; rw [hw] at this; cases this
    have e : (behR s l (hrs s - 1 - h)).getD c 0 = 1000 := by
      rcases h1.or with ⟨e, _⟩ | ⟨n, _, p, _⟩
      · exact e
      · exact absurd p.mem hn
    rw [e, show ((1000 : Int) == left) = false by rw [beq_eq_false_iff_ne]; omega]; rfl
  | true =>
    have hm : c ∈ cellsL s := List.mem_filter.2 ⟨List.mem_range.2 hc, hw⟩
    rw [Bool.true_and]
    congr 1
    rcases min_both h1 (bk_at ho hl hh hm) (fun n h => by have := h.le hl; omega) with ⟨_, e⟩ | ⟨e1, e2⟩
    · rw [e]
    · rw [e1, e2, show ((1000 : Int) == left) = false by rw [beq_eq_false_iff_ne]; omega, show ((1048576 : Int) == left) = false by rw [beq_eq_false_iff_ne]; omega]
theorem rfind_is {s : Sea} (ho : s.Ok) {l : List Rep} (hl : l.length ≤ 24) {h : Nat} (hh : h < hrs s) {t : List Nat} {left : Int} (hb : left ≤ 288) {c : Nat} (hf : (cellsL s).find? (selP s l h t left) = some c) :
    c < s.many.toNat ∧ rselP s l h t left c = true ∧ ∀ i, i < c → rselP s l h t left i = false := by
  have hm := List.mem_of_find?_eq_some hf
  have hs := List.find?_some hf
  have hc := cells_many ho hm
  refine ⟨hc, ?_, fun i hi => ?_⟩
  · rw [rsel_is ho hl hh hb hc, hs, (List.mem_filter.1 hm).2]; rfl
  · rw [rsel_is ho hl hh hb (by omega)]
    cases hw : watP s i with
    | false => rfl
    | true =>
      cases he : selP s l h t left i with
      | false => rfl
      | true =>
        have := find_first (cells_sorted s) hf (List.mem_filter.2 ⟨List.mem_range.2 (show i < s.many.toNat by omega), hw⟩) he
        omega
theorem liar_is {s : Sea} (ho : s.Ok) {l : List Rep} (hl : l.length ≤ 24) (hn : fewF s l ≤ 24) {r : Rep} (hr : 0 ≤ r.hour ∧ r.hour ≤ s.hours - 1) :
    ((canF s l (fewF s l) r.hour).any fun c => isTrueF s.wide r (placeP s.wide c)) = !liarB s l (fewF s l) r := by
  have hp := hrs_pos ho
  unfold liarB
  rw [Bool.not_not, canF_eq, List.any_map, List.any_filter]
  refine bool_iff2 ?_
  rw [List.any_eq_true, List.any_eq_true]
  have key : ∀ c ∈ cellsL s, (decide ((thrR s l r.hour.toNat).getD c 0 ≤ fewF s l) && isTrueF s.wide r (placeP s.wide (c : Int))) = mayB s l (fewF s l) r c := fun c hc => by
    unfold mayB
    congr 1
    refine bool_iff2 ?_
    rw [decide_eq_true_eq, beq_iff_eq]
    have hge : fewF s l ≤ (thrR s l r.hour.toNat).getD c 0 := by
      rcases (thr_min ho hl (show r.hour.toNat < hrs s by omega) hc).or with ⟨e, _⟩ | ⟨n, e, ⟨T, k1, _, k3⟩, _⟩
      · omega
      · have := (few_le ho hl k1).1; omega
    omega
  constructor
  · rintro ⟨c, h1, h2⟩; exact ⟨c, h1, by rw [← key c h1]; exact h2⟩
  · rintro ⟨c, h1, h2⟩; exact ⟨c, h1, by rw [← key c h1] at h2; exact h2⟩
theorem few_24 {s : Sea} (ho : s.Ok) {l : List Rep} (hr : RepFit s l) (hn : fewF s l < 1048576) : fewF s l ≤ 24 := by
  have hl24 : l.length ≤ 24 := by have := hr.len; omega
  obtain ⟨T, h1, h2⟩ := few_at ho hl24 hn
  have h3 := cost_count s (h1.hours ho) (l := l) fun r h => (hr.at' r h).1
  have : l.countP (lieB s.wide T) ≤ l.length := List.countP_le_length
  omega
end Go.Proofs.Ytohbjneaaahpcaa

namespace Go.Proofs.Ytohbjneaaahpcaa
open Go Go.AL Go.AL.Q Go.AL.Sh
end Go.Proofs.Ytohbjneaaahpcaa

namespace Go.Proofs.Ytohbjneaaahpcaa
open Go Go.AL Go.AL.Q Go.AL.Sh
end Go.Proofs.Ytohbjneaaahpcaa

namespace Go.Proofs.Ytohbjneaaahpcaa
open Go Go.AL Go.AL.Q Go.AL.Sh
structure RbIs (fd : List Int → Bool) (n q : Nat) (b : List Int) : Prop where
  or : (b = [] ∧ ∀ p : Nat, 1 ≤ p → p ≤ q → fd (memL p n) = false) ∨ (b ≠ [] ∧ fd b = true ∧ (∃ p : Nat, 1 ≤ p ∧ p ≤ q ∧ b = memL p n) ∧ ∀ p : Nat, 1 ≤ p → p ≤ q → fd (memL p n) = true → ¬ Ahead (memL p n) b)
end Go.Proofs.Ytohbjneaaahpcaa

namespace Go.Proofs.Ytohbjneaaahpcaa
open Go Go.AL Go.AL.Q Go.AL.Sh
def bB (row : Nat → List Int) (n : Nat) : B := .cells ((List.range n).map fun i => outA (row i))
theorem bB_under (row : Nat → List Int) (n : Nat) {m : Nat} : UnderB m (bB row n) := .cells _ fun x hx => by
  obtain ⟨i, _, rfl⟩ := List.mem_map.1 hx; exact (outA_free _).under
theorem bB_congr {row row' : Nat → List Int} {n : Nat} (h : ∀ i, i < n → row i = row' i) : bB row n = bB row' n := by
  unfold bB
  rw [List.map_congr_left fun i hi => by rw [h i (List.mem_range.1 hi)]]
theorem bB_zero (n : Nat) : ((List.range (n * 1)).map fun j => ([A.sl true .exact []] : List A).getD (j % 1) .un).map A.down = (List.range n).map fun _ => outA [] := by
  rw [Nat.mul_one, List.map_map]
  exact List.map_congr_left fun j _ => by show A.down (([A.sl true .exact []] : List A).getD (j % 1) .un) = _; rw [Nat.mod_one]; rfl
theorem setSeg_one {cs : List A} {k : Nat} {v : A} (h : k < cs.length) : setSeg cs k [v] = cs.set k v := by
  rw [List.set_eq_take_append_cons_drop, if_pos h]; simp [setSeg]
theorem bB_set {row row' : Nat → List Int} {n k : Nat} {x : Int} {l : List Int} (hk : k < n) (h : ∀ i, i < n → i ≠ k → row i = row' i) (hr : row' k = x :: l) : setSeg ((List.range n).map fun i => outA (row i)) (0 + k * 1) [A.sl false .any (ints (x :: l))] = (List.range n).map fun i => outA (row' i) := by
  rw [Nat.zero_add, Nat.mul_one, setSeg_one (by simpa using hk)]
  refine List.ext_getElem (by simp) fun i h1 h2 => ?_
  rw [List.getElem_set]
  have hi : i < n := by simpa using h2
  by_cases e : k = i
  · subst e; simp [hr, outA]
  · rw [if_neg e]; simp [h i hi (Ne.symm e)]
theorem bB_get {row : Nat → List Int} {n k : Nat} (hk : k < n) : (((List.range n).map fun i => outA (row i)).getD (0 + k * 1) .un).down = outA (row k) := by
  rw [Nat.zero_add, Nat.mul_one, List.getD_eq_getElem?_getD, List.getElem?_map, List.getElem?_range hk]
  show (outA (row k)).down = _
  cases row k <;> rfl
theorem rows_one {α : Type} {L : List α} (f : α → A) : RowsAre (L.map f) (L.map fun i => [(f i).down]) 1 := by
  refine ⟨fun e he => ?_, by simp, fun i j hi hj => ?_⟩
  · obtain ⟨i, _, rfl⟩ := List.mem_map.1 he; rfl
  · obtain rfl : j = 0 := by omega
    have hi' : i < L.length := by simpa using hi
    simp [List.getD_eq_getElem?_getD, hi']
theorem bB_len (row : Nat → List Int) (n : Nat) : ((List.range n).map fun i => outA (row i)).length = n := by simp
theorem plus_o (l : List Int) (n : Int) (hl : l.length ≤ 100) : Ans Try.prog 61 [outA l, .int n] (.sl false .any (ints (l ++ [n]))) := by
  cases l with
  | nil => exact AnsL (plus_t true [] n hl) (.cons (.any _ _ _) (.cons (.refl _) .nil))
  | cons x l => exact plus_t false (x :: l) n hl
theorem outA_cons {l : List Int} (h : 0 < l.length) : outA l = .sl false .any (ints l) := by cases l with | nil => cases h | cons x l => rfl
def nxO (s : Sea) (l : List Rep) : Nat → Option (List Int)
  | 0 => none
  | k + 1 => some (behR s l k)
theorem behR_nx (s : Sea) (l : List Rep) (k : Nat) : behR s l k = rowK (behV s l (nxO s l k) (hrs s - 1 - k)) s.many.toNat := by cases k <;> rfl
def bRow (s : Sea) (l : List Rep) (k : Nat) (part : List Int) : Nat → List Int := fun i => if hrs s - k ≤ i then behR s l (hrs s - 1 - i) else if i = hrs s - 1 - k then part else []
def pvO (s : Sea) (l : List Rep) : Nat → Option (List Int)
  | 0 => none
  | k + 1 => some (aheR s l k)
theorem aheR_pv (s : Sea) (l : List Rep) (k : Nat) : aheR s l k = rowK (aheV s l (pvO s l k) k) s.many.toNat := by cases k <;> rfl
def aRow (s : Sea) (l : List Rep) (k : Nat) (part : List Int) : Nat → List Int := fun i => if i < k then aheR s l i else if i = k then part else []
theorem refB_succ (s : Sea) (l : List Rep) (nx : List Int) (h c o : Nat) : refB s l nx h c (o + 1) = if nx.getD o 0 < (1000 : Nat) ∧ stp s h c o = true then gmin (refB s l nx h c o) (unN s l h c + nx.getD o 0) else refB s l nx h c o := by
  unfold refB; rw [List.range_succ, List.foldl_append]; rfl
theorem refA_succ (s : Sea) (l : List Rep) (pv : List Int) (h c o : Nat) : refA s l pv h c (o + 1) = if pv.getD o 0 < (1000 : Nat) ∧ stp s h o c = true then gmin (refA s l pv h c o) (pv.getD o 0 + unN s l h o) else refA s l pv h c o := by
  unfold refA; rw [List.range_succ, List.foldl_append]; rfl
set_option maxRecDepth 20000 in
set_option maxHeartbeats 2000000 in
theorem behind_t (s : Sea) (hf : SeaFit s) (ho : s.Ok) (b : Bool) (l : List Rep) (hl : RepFit s l) : Ans Try.prog 60 [.agg s.c, .sl b .any (l.map Rep.c)] (.sl false .any ((List.range (hrs s)).map fun h => [outW (behR s l (hrs s - 1 - h))])) := by
  have hfr : Free (.sl false .any ((List.range (hrs s)).map fun h => [outW (behR s l (hrs s - 1 - h))])) := .sl _ _ _ fun e he x hx => by
    obtain ⟨i, _, rfl⟩ := List.mem_map.1 he
    simp at hx; subst hx; exact outW_free _
  have us : ∀ {m : Nat}, Under m (A.pt s.c) := (Free.pt _ s.free).under
  have ul : ∀ {m : Nat}, Under m (.sl b .any (l.map Rep.c)) := (free_map Rep.free _ _ _).under
  have hm := ho.many
  have hmm : s.wide * s.high = s.many := rfl
  have hp := hrs_pos ho
  have hhr := ho.hr
  have hdl := ho.dl
  have hl24 : l.length ≤ 24 := by have := hl.len; omega
  have hlen : ∀ j, (behR s l j).length = s.many.toNat := behR_len s l
  refine told Try.func60 rfl rfl (Pure.of tab_ok Try.func60 rfl Try.ntmps60 rfl (allC (.agg _ s.free) (all1 (free_map Rep.free _ _ _))) (allC (fun _ => rfl) (all1 (fun _ => rfl))) (by first | exact .s _ | assumption | exact .tup _ (by intro x hx; simp only [List.mem_cons, List.not_mem_nil, or_false] at hx; rcases hx with rfl | rfl | rfl | rfl <;> first | exact .s _ | (simp_all; done))) fun E hE => ?_)
  have h1E : ∀ id, 1 ≤ id → E.φ0 id = none := fun id h => hE id (by omega)
  refine Aw.sm tab_ok mb0 [] rfl rfl ?zo ?zk
  case zo =>
    repeat' apply AllP.cons
    all_goals first | exact trivial
  case zk =>
  refine Aw.sm tab_ok mb0 [] rfl rfl ?zo ?zk
  case zo =>
    repeat' apply AllP.cons
    all_goals first | exact trivial | exact rfl | exact Nat.le_of_ble_eq_true rfl | exact (by simp only [Ob.of]; omega) | exact (show ((24 : Nat) : Int) * s.hours ≤ 140737488355328 by omega) | exact (show s.hours ≤ (maxLen : Int) by unfold maxLen; omega)
  case zk =>
  have hz : B.cells (((List.range (s.hours.toNat * 1)).map fun j => ([A.sl true .exact []] : List A).getD (j % 1) .un).map A.down) = bB (bRow s l 0 []) (hrs s) := by
    rw [bB_zero]
    show B.cells ((List.range (hrs s)).map fun _ => outA []) = _
    refine congrArg B.cells (List.map_congr_left fun i hi => ?_)
    have := List.mem_range.1 hi
    have e : bRow s l 0 [] i = [] := by unfold bRow; rw [if_neg (by omega)]; split <;> rfl
    rw [e]
  refine Aw.seq ?_
  refine Aw.sm tab_ok mb0 [] rfl rfl ?zo ?zk
  case zo =>
    repeat' apply AllP.cons
    all_goals first | exact trivial | exact Nat.le_of_ble_eq_true rfl | exact (by simp only [Ob.of, inR]; omega)
  case zk =>
  refine Aw.block (Aw.rounds 1 h1E [(1, .sl b .any (l.map Rep.c)), (2, .pt s.c), (5, .ms 0 0 (hrs s))] (fun k : Nat => [(6, .int ((hrs s : Int) - 1 - k))]) (fun k => [(0, bB (bRow s l k []) (hrs s))]) (fun k => k ≤ hrs s) (fun k => hrs s - k) 0 ?zg ⟨?zc, ?zv, ?zh, Nat.le_of_ble_eq_true rfl⟩ ?zu (fun k zhk => ?zw) (fun k zhk => ?zx) fun k hk => ?zr)
  case zg =>
    (repeat' (first | exact Nat.zero_le _ | exact Nat.le_refl _ | exact trivial | exact us | exact ul | exact (congrArg some hz) | exact bB_under _ _ | exact .of_eq (congrArg A.int (by omega)) | exact Under.ms _ _ _ (by decide) | (refine And.intro ?_ ?_)))
  case zc =>
    (repeat' (first | (refine And.intro ?_ ?_) | exact trivial | exact A.Le.refl _ | exact rfl | exact us | exact ul | exact (congrArg some hz) | exact bB_under _ _ | exact .of_eq (congrArg A.int (by omega)) | exact Under.ms _ _ _ (by decide)))
  case zv =>
    (repeat' (first | (refine And.intro ?_ ?_) | exact trivial | exact A.Le.refl _ | exact rfl | exact us | exact ul | exact (congrArg some hz) | exact bB_under _ _ | exact .of_eq (congrArg A.int (by omega)) | exact Under.ms _ _ _ (by decide)))
  case zh =>
    (repeat' (first | (refine And.intro ?_ ?_) | exact trivial | exact A.Le.refl _ | exact rfl | exact us | exact ul | exact (congrArg some hz) | exact bB_under _ _ | exact .of_eq (congrArg A.int (by omega)) | exact Under.ms _ _ _ (by decide)))
  case zu =>
    (repeat' (first | exact trivial | exact Under.s _ | exact Under.un | assumption | exact (free_ints _ _ _).under | exact Under.ref _ _ (by decide) | exact Under.ms _ _ _ (by decide) | exact Under.mp _ (by decide) | exact (Free.agg _ (by assumption)).under | exact (Free.pt _ (by assumption)).under | exact grL_under _ | exact outA_under _ | exact Nat.le_of_ble_eq_true rfl | exact (fun _ _ => rfl) | exact us | exact ul | exact (congrArg some hz) | exact bB_under _ _ | exact .of_eq (congrArg A.int (by omega)) | (refine And.intro ?_ ?_)))
  case zw =>
    (repeat' (first | exact trivial | exact Under.s _ | exact Under.un | assumption | exact (free_ints _ _ _).under | exact Under.ref _ _ (by decide) | exact Under.ms _ _ _ (by decide) | exact Under.mp _ (by decide) | exact (Free.agg _ (by assumption)).under | exact (Free.pt _ (by assumption)).under | exact grL_under _ | exact outA_under _ | exact Nat.le_of_ble_eq_true rfl | exact (fun _ _ => rfl) | exact us | exact ul | exact (congrArg some hz) | exact bB_under _ _ | exact .of_eq (congrArg A.int (by omega)) | (refine And.intro ?_ ?_)))
  case zx =>
    (repeat' (first | exact trivial | exact Under.s _ | exact Under.un | assumption | exact (free_ints _ _ _).under | exact Under.ref _ _ (by decide) | exact Under.ms _ _ _ (by decide) | exact Under.mp _ (by decide) | exact (Free.agg _ (by assumption)).under | exact (Free.pt _ (by assumption)).under | exact grL_under _ | exact outA_under _ | exact Nat.le_of_ble_eq_true rfl | exact (fun _ _ => rfl) | exact us | exact ul | exact (congrArg some hz) | exact bB_under _ _ | exact .of_eq (congrArg A.int (by omega)) | (refine And.intro ?_ ?_)))
  case zr =>
  refine Aw.seq ?_
  refine Aw.sm tab_ok mb0 [] rfl rfl ?zo ?zk
  case zo =>
    repeat' apply AllP.cons
    all_goals first | exact trivial
  case zk =>
  refine Aw.cond rfl (fun h1 => Aw.skip ?_) (fun h1 => ?_)
  · have hlt : k < hrs s := by have := of_decide_eq_true (show decide (((hrs s : Int) - 1 - k ≥ 0)) = true from h1); omega
    obtain ⟨h, hh⟩ : ∃ h : Nat, h = hrs s - 1 - k := ⟨_, rfl⟩
    rw [show (hrs s : Int) - 1 - k = (h : Int) by omega]
    have hval : ∀ c, c < s.many.toNat → behV s l (nxO s l k) h c = (behR s l k).getD c 0 := fun c hc => by rw [behR_nx, rowK_at _ hc, ← hh]
    have hrow : ∀ c, rowK (behV s l (nxO s l k) h) (c + 1) = rowK (behV s l (nxO s l k) h) c ++ [behV s l (nxO s l k) h c] := rowK_succ _
    have hR : behR s l k = rowK (behV s l (nxO s l k) h) s.many.toNat := by rw [behR_nx, ← hh]
    have hrl : ∀ c, (rowK (behV s l (nxO s l k) h) c).length = c := rowK_len _
    have hset : ∀ (p p' : List Int) (x : Int) (q : List Int), p' = x :: q → setSeg ((List.range (hrs s)).map fun i => outA (bRow s l k p i)) (0 + h * 1) [A.sl false .any (ints (x :: q))] = (List.range (hrs s)).map fun i => outA (bRow s l k p' i) := fun p p' x q e =>
      bB_set (by omega) (fun i hi hne => by unfold bRow; rw [if_neg (show ¬ i = hrs s - 1 - k by omega), if_neg (show ¬ i = hrs s - 1 - k by omega)]) (by unfold bRow; rw [if_neg (by omega), if_pos hh]; exact e)
    have hgp : ∀ p : List Int, (((List.range (hrs s)).map fun i => outA (bRow s l k p i)).getD (0 + h * 1) .un).down = outA p := fun p => by
      rw [bB_get (by omega)]; congr 1; unfold bRow; rw [if_neg (by omega), if_pos hh]
    refine Aw.seq (Aw.block ?_)
    refine Aw.sm tab_ok mb0 [] rfl rfl ?zo ?zk
    case zo =>
      repeat' apply AllP.cons
      all_goals first | exact trivial
    case zk =>
    refine Aw.block (Aw.rounds 1 h1E [(1, .sl b .any (l.map Rep.c)), (2, .pt s.c), (5, .ms 0 0 (hrs s)), (6, .int h)] (fun c : Nat => [(7, .int c)]) (fun c => [(0, bB (bRow s l k (rowK (behV s l (nxO s l k) h) c)) (hrs s))]) (fun c => c ≤ s.many.toNat) (fun c => s.many.toNat - c) 0 ?zg ⟨?zc, ?zv, ?zh, Nat.le_of_ble_eq_true rfl⟩ ?zu (fun c zhk => ?zw) (fun c zhk => ?zx) fun c hk => ?zr)
    case zg =>
      (repeat' (first | exact Nat.zero_le _ | exact Nat.le_refl _ | exact trivial | exact us | exact ul | exact bB_under _ _ | exact Under.ms _ _ _ (by decide) | (refine And.intro ?_ ?_)))
    case zc =>
      (repeat' (first | (refine And.intro ?_ ?_) | exact trivial | exact A.Le.refl _ | exact rfl | exact us | exact ul | exact bB_under _ _ | exact Under.ms _ _ _ (by decide)))
    case zv =>
      (repeat' (first | (refine And.intro ?_ ?_) | exact trivial | exact A.Le.refl _ | exact rfl | exact us | exact ul | exact bB_under _ _ | exact Under.ms _ _ _ (by decide)))
    case zh =>
      (repeat' (first | (refine And.intro ?_ ?_) | exact trivial | exact A.Le.refl _ | exact rfl | exact us | exact ul | exact bB_under _ _ | exact Under.ms _ _ _ (by decide)))
    case zu =>
      (repeat' (first | exact trivial | exact Under.s _ | exact Under.un | assumption | exact (free_ints _ _ _).under | exact Under.ref _ _ (by decide) | exact Under.ms _ _ _ (by decide) | exact Under.mp _ (by decide) | exact (Free.agg _ (by assumption)).under | exact (Free.pt _ (by assumption)).under | exact grL_under _ | exact outA_under _ | exact Nat.le_of_ble_eq_true rfl | exact (fun _ _ => rfl) | exact us | exact ul | exact bB_under _ _ | (refine And.intro ?_ ?_)))
    case zw =>
      (repeat' (first | exact trivial | exact Under.s _ | exact Under.un | assumption | exact (free_ints _ _ _).under | exact Under.ref _ _ (by decide) | exact Under.ms _ _ _ (by decide) | exact Under.mp _ (by decide) | exact (Free.agg _ (by assumption)).under | exact (Free.pt _ (by assumption)).under | exact grL_under _ | exact outA_under _ | exact Nat.le_of_ble_eq_true rfl | exact (fun _ _ => rfl) | exact us | exact ul | exact bB_under _ _ | (refine And.intro ?_ ?_)))
    case zx =>
      (repeat' (first | exact trivial | exact Under.s _ | exact Under.un | assumption | exact (free_ints _ _ _).under | exact Under.ref _ _ (by decide) | exact Under.ms _ _ _ (by decide) | exact Under.mp _ (by decide) | exact (Free.agg _ (by assumption)).under | exact (Free.pt _ (by assumption)).under | exact grL_under _ | exact outA_under _ | exact Nat.le_of_ble_eq_true rfl | exact (fun _ _ => rfl) | exact us | exact ul | exact bB_under _ _ | (refine And.intro ?_ ?_)))
    case zr =>
    refine Aw.seq ?_
    refine Aw.sm tab_ok mb0 [] rfl rfl ?zo ?zk
    case zo =>
      repeat' apply AllP.cons
      all_goals first | exact trivial | exact Nat.le_of_ble_eq_true rfl | exact (by simp only [Ob.of, inR]; omega)
    case zk =>
    refine Aw.cond rfl (fun h2 => Aw.skip ?_) (fun h2 => ?_)
    · have hlc : c < s.many.toNat := by have := of_decide_eq_true (show decide ((c : Int) < s.many) = true from h2); omega
      have hwa := water_t s hf ho c
      have hrowc := hrow c
      have hrlc := hrl c
      have hvc : behV s l (nxO s l k) h c = if watB s c then (match nxO s l k with | none => (unN s l h c : Int) | some nx => refB s l nx (h) c s.many.toNat) else 1000 := rfl
      have hli := lies_t s ho b l hl h c (by omega)
      have hun := unN_le s hl24 h c
      rw [unN_eq] at hli
      generalize hpe : rowK (behV s l (nxO s l k) h) c = part at *
      refine Aw.seq (Aw.block ?_)
      refine Aw.sm tab_ok mb0 [] rfl rfl ?zo ?zk
      case zo =>
        repeat' apply AllP.cons
        all_goals first | exact trivial
      case zk =>
      refine Aw.seq ?_
      cases hw : watB s c with
      | false =>
        rw [hw] at hwa hvc
        refine Aw.sm tab_ok mb0 [(2, [.bool false])] rfl rfl ?zo ?zk
        case zo =>
          repeat' apply AllP.cons
          all_goals first | exact trivial | exact id | exact fun _ => rfl | exact Nat.le_of_ble_eq_true rfl | exact fun _ => Nat.le_of_ble_eq_true rfl | exact hwa | exact fun h => nomatch h
        case zk =>
        refine Aw.cond rfl (fun h => by have h : false = true := h; cases h) (fun _ => Aw.skip ?_)
        refine Aw.seq ?_
        refine Aw.sm tab_ok mb0 [] rfl rfl ?zo ?zk
        case zo =>
          repeat' apply AllP.cons
          all_goals first | exact trivial
        case zk =>
        refine Aw.block (Aw.rounds 1 h1E [(1, .sl b .any (l.map Rep.c)), (2, .pt s.c), (5, .ms 0 0 (hrs s)), (6, .int h), (7, .int c)] (fun z : Unit => [(8, .int 1000), (9, .int 0)]) (fun z => [(0, bB (bRow s l k part) (hrs s))]) (fun z => True) (fun z => 0) () ?zg ⟨?zc, ?zv, ?zh, Nat.le_of_ble_eq_true rfl⟩ ?zu (fun z zhk => ?zw) (fun z zhk => ?zx) fun z hk => ?zr)
        case zg =>
          (repeat' (first | exact Nat.zero_le _ | exact Nat.le_refl _ | exact trivial | exact us | exact ul | exact bB_under _ _ | exact Under.ms _ _ _ (by decide) | (refine And.intro ?_ ?_)))
        case zc =>
          (repeat' (first | (refine And.intro ?_ ?_) | exact trivial | exact A.Le.refl _ | exact rfl | exact us | exact ul | exact bB_under _ _ | exact Under.ms _ _ _ (by decide)))
        case zv =>
          (repeat' (first | (refine And.intro ?_ ?_) | exact trivial | exact A.Le.refl _ | exact rfl | exact us | exact ul | exact bB_under _ _ | exact Under.ms _ _ _ (by decide)))
        case zh =>
          (repeat' (first | (refine And.intro ?_ ?_) | exact trivial | exact A.Le.refl _ | exact rfl | exact us | exact ul | exact bB_under _ _ | exact Under.ms _ _ _ (by decide)))
        case zu =>
          (repeat' (first | exact trivial | exact Under.s _ | exact Under.un | assumption | exact (free_ints _ _ _).under | exact Under.ref _ _ (by decide) | exact Under.ms _ _ _ (by decide) | exact Under.mp _ (by decide) | exact (Free.agg _ (by assumption)).under | exact (Free.pt _ (by assumption)).under | exact grL_under _ | exact outA_under _ | exact Nat.le_of_ble_eq_true rfl | exact (fun _ _ => rfl) | exact us | exact ul | exact bB_under _ _ | (refine And.intro ?_ ?_)))
        case zw =>
          (repeat' (first | exact trivial | exact Under.s _ | exact Under.un | assumption | exact (free_ints _ _ _).under | exact Under.ref _ _ (by decide) | exact Under.ms _ _ _ (by decide) | exact Under.mp _ (by decide) | exact (Free.agg _ (by assumption)).under | exact (Free.pt _ (by assumption)).under | exact grL_under _ | exact outA_under _ | exact Nat.le_of_ble_eq_true rfl | exact (fun _ _ => rfl) | exact us | exact ul | exact bB_under _ _ | (refine And.intro ?_ ?_)))
        case zx =>
          (repeat' (first | exact trivial | exact Under.s _ | exact Under.un | assumption | exact (free_ints _ _ _).under | exact Under.ref _ _ (by decide) | exact Under.ms _ _ _ (by decide) | exact Under.mp _ (by decide) | exact (Free.agg _ (by assumption)).under | exact (Free.pt _ (by assumption)).under | exact grL_under _ | exact outA_under _ | exact Nat.le_of_ble_eq_true rfl | exact (fun _ _ => rfl) | exact us | exact ul | exact bB_under _ _ | (refine And.intro ?_ ?_)))
        case zr =>
        refine Aw.seq ?_
        refine Aw.sm tab_ok mb0 [(2, [.bool false])] rfl rfl ?zo ?zk
        case zo =>
          repeat' apply AllP.cons
          all_goals first | exact trivial | exact id | exact fun _ => rfl | exact Nat.le_of_ble_eq_true rfl | exact fun _ => Nat.le_of_ble_eq_true rfl | exact hwa | exact fun h => nomatch h
        case zk =>
        refine Aw.cond rfl (fun h => by have h : false = true := h; cases h) (fun _ => ?_)
        refine Aw.exit2 ?_
        have hvc : behV s l (nxO s l k) h c = 1000 := hvc
        generalize (1000 : Int) = n at *
        cases part with
        | nil =>
          have hpl := plus_o [] n (by omega)
          have hgq := hgp []
          have hsq := hset [] ([] ++ [n]) n [] rfl
          have hlq := bB_len (bRow s l k []) (hrs s)
          have hhv : 0 + h * 1 < hrs s := by omega
          refine Aw.em tab_ok mb0 [(5, [outA []]), (7, [.sl false .any (ints ([] ++ [n]))])] rfl rfl ?zo ?zk
          case zo =>
            repeat' apply AllP.cons
            all_goals first | exact trivial | exact rfl | exact Int.natCast_nonneg _ | exact hgq | exact hpl | exact (show 0 + h * 1 < _ by rw [hlq]; exact hhv) | exact (show (h : Int) < (hrs s : Int) by omega)
          case zk =>
          refine Aw.em tab_ok mb0 [] rfl rfl ?zo ?zk
          case zo =>
            repeat' apply AllP.cons
            all_goals first | exact trivial | exact (by simp only [Ob.of, inR]; omega)
          case zk =>
          refine ⟨c + 1, ?zg, ?zm, ⟨?zc, ?zv, ?zh, Nat.le_of_ble_eq_true rfl⟩⟩
          case zg =>
            (repeat' (first | assumption | omega | exact (by rw [hrowc, hvc]; exact congrArg (fun x => some (B.cells x)) hsq) | (refine And.intro ?_ ?_)))
          case zm =>
            (repeat' (first | omega | exact (by rw [hrowc, hvc]; exact congrArg (fun x => some (B.cells x)) hsq) | (refine And.intro ?_ ?_)))
          case zc =>
            (repeat' (first | (refine And.intro ?_ ?_) | exact trivial | exact A.Le.refl _ | exact rfl | exact (by rw [hrowc, hvc]; exact congrArg (fun x => some (B.cells x)) hsq)))
          case zv =>
            (repeat' (first | (refine And.intro ?_ ?_) | exact trivial | exact A.Le.refl _ | exact rfl | exact (by rw [hrowc, hvc]; exact congrArg (fun x => some (B.cells x)) hsq)))
          case zh =>
            (repeat' (first | (refine And.intro ?_ ?_) | exact trivial | exact A.Le.refl _ | exact rfl | exact (by rw [hrowc, hvc]; exact congrArg (fun x => some (B.cells x)) hsq)))
        | cons y part =>
          have hpl := plus_o (y :: part) n (by omega)
          have hgq := hgp (y :: part)
          have hsq := hset (y :: part) ((y :: part) ++ [n]) y (part ++ [n]) rfl
          have hlq := bB_len (bRow s l k (y :: part)) (hrs s)
          have hhv : 0 + h * 1 < hrs s := by omega
          refine Aw.em tab_ok mb0 [(5, [outA (y :: part)]), (7, [.sl false .any (ints ((y :: part) ++ [n]))])] rfl rfl ?zo ?zk
          case zo =>
            repeat' apply AllP.cons
            all_goals first | exact trivial | exact rfl | exact Int.natCast_nonneg _ | exact hgq | exact hpl | exact (show 0 + h * 1 < _ by rw [hlq]; exact hhv) | exact (show (h : Int) < (hrs s : Int) by omega)
          case zk =>
          refine Aw.em tab_ok mb0 [] rfl rfl ?zo ?zk
          case zo =>
            repeat' apply AllP.cons
            all_goals first | exact trivial | exact (by simp only [Ob.of, inR]; omega)
          case zk =>
          refine ⟨c + 1, ?zg, ?zm, ⟨?zc, ?zv, ?zh, Nat.le_of_ble_eq_true rfl⟩⟩
          case zg =>
            (repeat' (first | assumption | omega | exact (by rw [hrowc, hvc]; exact congrArg (fun x => some (B.cells x)) hsq) | (refine And.intro ?_ ?_)))
          case zm =>
            (repeat' (first | omega | exact (by rw [hrowc, hvc]; exact congrArg (fun x => some (B.cells x)) hsq) | (refine And.intro ?_ ?_)))
          case zc =>
            (repeat' (first | (refine And.intro ?_ ?_) | exact trivial | exact A.Le.refl _ | exact rfl | exact (by rw [hrowc, hvc]; exact congrArg (fun x => some (B.cells x)) hsq)))
          case zv =>
            (repeat' (first | (refine And.intro ?_ ?_) | exact trivial | exact A.Le.refl _ | exact rfl | exact (by rw [hrowc, hvc]; exact congrArg (fun x => some (B.cells x)) hsq)))
          case zh =>
            (repeat' (first | (refine And.intro ?_ ?_) | exact trivial | exact A.Le.refl _ | exact rfl | exact (by rw [hrowc, hvc]; exact congrArg (fun x => some (B.cells x)) hsq)))
      | true =>
      rw [hw] at hwa hvc
      cases k with
      | zero =>
        have hvc : behV s l (nxO s l 0) h c = (unN s l h c : Int) := hvc
        have e9 : ((h : Int) == s.hours - 1) = true := by rw [beq_iff_eq]; omega
        have e10 : decide ((h : Int) < s.hours - 1) = false := decide_eq_false (by omega)
        refine Aw.sm tab_ok mb0 [(2, [.bool true])] rfl rfl ?zo ?zk
        case zo =>
          repeat' apply AllP.cons
          all_goals first | exact trivial | exact id | exact fun _ => rfl | exact Nat.le_of_ble_eq_true rfl | exact fun _ => Nat.le_of_ble_eq_true rfl | exact hwa | exact fun _ => (by simp only [Ob.of, inR]; omega)
        case zk =>
        refine Aw.cond rfl (fun _ => ?_) (fun h9 => by have h9 : cond true ((h : Int) == s.hours - 1) false = false := h9; rw [e9] at h9; cases h9)
        generalize (unN s l h c : Int) = n at *
        refine Aw.em tab_ok mb0 [(4, [.int n])] rfl rfl ?zo ?zk
        case zo =>
          repeat' apply AllP.cons
          all_goals first | exact trivial | exact Nat.le_of_ble_eq_true rfl | exact hli
        case zk =>
        refine Aw.seq ?_
        refine Aw.sm tab_ok mb0 [] rfl rfl ?zo ?zk
        case zo =>
          repeat' apply AllP.cons
          all_goals first | exact trivial
        case zk =>
        refine Aw.block (Aw.rounds 1 h1E [(1, .sl b .any (l.map Rep.c)), (2, .pt s.c), (5, .ms 0 0 (hrs s)), (6, .int h), (7, .int c)] (fun z : Unit => [(8, .int n), (9, .int 0)]) (fun z => [(0, bB (bRow s l 0 part) (hrs s))]) (fun z => True) (fun z => 0) () ?zg ⟨?zc, ?zv, ?zh, Nat.le_of_ble_eq_true rfl⟩ ?zu (fun z zhk => ?zw) (fun z zhk => ?zx) fun z hk => ?zr)
        case zg =>
          (repeat' (first | exact Nat.zero_le _ | exact Nat.le_refl _ | exact trivial | exact us | exact ul | exact bB_under _ _ | exact Under.ms _ _ _ (by decide) | (refine And.intro ?_ ?_)))
        case zc =>
          (repeat' (first | (refine And.intro ?_ ?_) | exact trivial | exact A.Le.refl _ | exact rfl | exact us | exact ul | exact bB_under _ _ | exact Under.ms _ _ _ (by decide)))
        case zv =>
          (repeat' (first | (refine And.intro ?_ ?_) | exact trivial | exact A.Le.refl _ | exact rfl | exact us | exact ul | exact bB_under _ _ | exact Under.ms _ _ _ (by decide)))
        case zh =>
          (repeat' (first | (refine And.intro ?_ ?_) | exact trivial | exact A.Le.refl _ | exact rfl | exact us | exact ul | exact bB_under _ _ | exact Under.ms _ _ _ (by decide)))
        case zu =>
          (repeat' (first | exact trivial | exact Under.s _ | exact Under.un | assumption | exact (free_ints _ _ _).under | exact Under.ref _ _ (by decide) | exact Under.ms _ _ _ (by decide) | exact Under.mp _ (by decide) | exact (Free.agg _ (by assumption)).under | exact (Free.pt _ (by assumption)).under | exact grL_under _ | exact outA_under _ | exact Nat.le_of_ble_eq_true rfl | exact (fun _ _ => rfl) | exact us | exact ul | exact bB_under _ _ | (refine And.intro ?_ ?_)))
        case zw =>
          (repeat' (first | exact trivial | exact Under.s _ | exact Under.un | assumption | exact (free_ints _ _ _).under | exact Under.ref _ _ (by decide) | exact Under.ms _ _ _ (by decide) | exact Under.mp _ (by decide) | exact (Free.agg _ (by assumption)).under | exact (Free.pt _ (by assumption)).under | exact grL_under _ | exact outA_under _ | exact Nat.le_of_ble_eq_true rfl | exact (fun _ _ => rfl) | exact us | exact ul | exact bB_under _ _ | (refine And.intro ?_ ?_)))
        case zx =>
          (repeat' (first | exact trivial | exact Under.s _ | exact Under.un | assumption | exact (free_ints _ _ _).under | exact Under.ref _ _ (by decide) | exact Under.ms _ _ _ (by decide) | exact Under.mp _ (by decide) | exact (Free.agg _ (by assumption)).under | exact (Free.pt _ (by assumption)).under | exact grL_under _ | exact outA_under _ | exact Nat.le_of_ble_eq_true rfl | exact (fun _ _ => rfl) | exact us | exact ul | exact bB_under _ _ | (refine And.intro ?_ ?_)))
        case zr =>
        refine Aw.seq ?_
        refine Aw.sm tab_ok mb0 [(2, [.bool true])] rfl rfl ?zo ?zk
        case zo =>
          repeat' apply AllP.cons
          all_goals first | exact trivial | exact id | exact fun _ => rfl | exact Nat.le_of_ble_eq_true rfl | exact fun _ => Nat.le_of_ble_eq_true rfl | exact hwa | exact fun _ => (by simp only [Ob.of, inR]; omega)
        case zk =>
        refine Aw.cond rfl (fun h9 => ?_) (fun _ => ?_)
        · have h9 : cond (cond true (decide ((h : Int) < s.hours - 1)) false) (decide (((0 : Nat) : Int) < s.wide * s.high)) false = true := h9
          rw [e10] at h9; cases h9
        refine Aw.exit2 ?_
        cases part with
        | nil =>
          have hpl := plus_o [] n (by omega)
          have hgq := hgp []
          have hsq := hset [] ([] ++ [n]) n [] rfl
          have hlq := bB_len (bRow s l 0 []) (hrs s)
          have hhv : 0 + h * 1 < hrs s := by omega
          refine Aw.em tab_ok mb0 [(5, [outA []]), (7, [.sl false .any (ints ([] ++ [n]))])] rfl rfl ?zo ?zk
          case zo =>
            repeat' apply AllP.cons
            all_goals first | exact trivial | exact rfl | exact Int.natCast_nonneg _ | exact hgq | exact hpl | exact (show 0 + h * 1 < _ by rw [hlq]; exact hhv) | exact (show (h : Int) < (hrs s : Int) by omega)
          case zk =>
          refine Aw.em tab_ok mb0 [] rfl rfl ?zo ?zk
          case zo =>
            repeat' apply AllP.cons
            all_goals first | exact trivial | exact (by simp only [Ob.of, inR]; omega)
          case zk =>
          refine ⟨c + 1, ?zg, ?zm, ⟨?zc, ?zv, ?zh, Nat.le_of_ble_eq_true rfl⟩⟩
          case zg =>
            (repeat' (first | assumption | omega | exact (by rw [hrowc, hvc]; exact congrArg (fun x => some (B.cells x)) hsq) | (refine And.intro ?_ ?_)))
          case zm =>
            (repeat' (first | omega | exact (by rw [hrowc, hvc]; exact congrArg (fun x => some (B.cells x)) hsq) | (refine And.intro ?_ ?_)))
          case zc =>
            (repeat' (first | (refine And.intro ?_ ?_) | exact trivial | exact A.Le.refl _ | exact rfl | exact (by rw [hrowc, hvc]; exact congrArg (fun x => some (B.cells x)) hsq)))
          case zv =>
            (repeat' (first | (refine And.intro ?_ ?_) | exact trivial | exact A.Le.refl _ | exact rfl | exact (by rw [hrowc, hvc]; exact congrArg (fun x => some (B.cells x)) hsq)))
          case zh =>
            (repeat' (first | (refine And.intro ?_ ?_) | exact trivial | exact A.Le.refl _ | exact rfl | exact (by rw [hrowc, hvc]; exact congrArg (fun x => some (B.cells x)) hsq)))
        | cons y part =>
          have hpl := plus_o (y :: part) n (by omega)
          have hgq := hgp (y :: part)
          have hsq := hset (y :: part) ((y :: part) ++ [n]) y (part ++ [n]) rfl
          have hlq := bB_len (bRow s l 0 (y :: part)) (hrs s)
          have hhv : 0 + h * 1 < hrs s := by omega
          refine Aw.em tab_ok mb0 [(5, [outA (y :: part)]), (7, [.sl false .any (ints ((y :: part) ++ [n]))])] rfl rfl ?zo ?zk
          case zo =>
            repeat' apply AllP.cons
            all_goals first | exact trivial | exact rfl | exact Int.natCast_nonneg _ | exact hgq | exact hpl | exact (show 0 + h * 1 < _ by rw [hlq]; exact hhv) | exact (show (h : Int) < (hrs s : Int) by omega)
          case zk =>
          refine Aw.em tab_ok mb0 [] rfl rfl ?zo ?zk
          case zo =>
            repeat' apply AllP.cons
            all_goals first | exact trivial | exact (by simp only [Ob.of, inR]; omega)
          case zk =>
          refine ⟨c + 1, ?zg, ?zm, ⟨?zc, ?zv, ?zh, Nat.le_of_ble_eq_true rfl⟩⟩
          case zg =>
            (repeat' (first | assumption | omega | exact (by rw [hrowc, hvc]; exact congrArg (fun x => some (B.cells x)) hsq) | (refine And.intro ?_ ?_)))
          case zm =>
            (repeat' (first | omega | exact (by rw [hrowc, hvc]; exact congrArg (fun x => some (B.cells x)) hsq) | (refine And.intro ?_ ?_)))
          case zc =>
            (repeat' (first | (refine And.intro ?_ ?_) | exact trivial | exact A.Le.refl _ | exact rfl | exact (by rw [hrowc, hvc]; exact congrArg (fun x => some (B.cells x)) hsq)))
          case zv =>
            (repeat' (first | (refine And.intro ?_ ?_) | exact trivial | exact A.Le.refl _ | exact rfl | exact (by rw [hrowc, hvc]; exact congrArg (fun x => some (B.cells x)) hsq)))
          case zh =>
            (repeat' (first | (refine And.intro ?_ ?_) | exact trivial | exact A.Le.refl _ | exact rfl | exact (by rw [hrowc, hvc]; exact congrArg (fun x => some (B.cells x)) hsq)))
      | succ k =>
        have hvc : behV s l (nxO s l (k + 1)) h c = refB s l (behR s l k) h c s.many.toNat := hvc
        have e9 : ((h : Int) == s.hours - 1) = false := by rw [beq_eq_false_iff_ne]; omega
        have e10 : decide ((h : Int) < s.hours - 1) = true := decide_eq_true (by omega)
        have hgn : (((List.range (hrs s)).map fun i => outA (bRow s l (k + 1) part i)).getD (0 + (h + 1) * 1) .un).down = .sl false .any (ints (behR s l k)) := by
          rw [bB_get (by omega)]
          have e : bRow s l (k + 1) part (h + 1) = behR s l k := by unfold bRow; rw [if_pos (by omega)]; congr 1; omega
          rw [e]; exact outA_cons (by rw [hlen]; omega)
        have hbd := fun o ho' => beh_bd ho hl24 (j := k) (c := o) (by omega) ho'
        refine Aw.sm tab_ok mb0 [(2, [.bool true])] rfl rfl ?zo ?zk
        case zo =>
          repeat' apply AllP.cons
          all_goals first | exact trivial | exact id | exact fun _ => rfl | exact Nat.le_of_ble_eq_true rfl | exact fun _ => Nat.le_of_ble_eq_true rfl | exact hwa | exact fun _ => (by simp only [Ob.of, inR]; omega)
        case zk =>
        refine Aw.cond rfl (fun h9 => by have h9 : cond true ((h : Int) == s.hours - 1) false = true := h9; rw [e9] at h9; cases h9) (fun _ => Aw.skip ?_)
        refine Aw.seq ?_
        refine Aw.sm tab_ok mb0 [] rfl rfl ?zo ?zk
        case zo =>
          repeat' apply AllP.cons
          all_goals first | exact trivial
        case zk =>
        refine Aw.block (Aw.rounds 1 h1E [(1, .sl b .any (l.map Rep.c)), (2, .pt s.c), (5, .ms 0 0 (hrs s)), (6, .int h), (7, .int c)] (fun o : Nat => [(8, .int (refB s l (behR s l k) h c o)), (9, .int o)]) (fun o => [(0, bB (bRow s l (k + 1) part) (hrs s))]) (fun o => o ≤ s.many.toNat) (fun o => s.many.toNat - o) 0 ?zg ⟨?zc, ?zv, ?zh, Nat.le_of_ble_eq_true rfl⟩ ?zu (fun o zhk => ?zw) (fun o zhk => ?zx) fun o hk => ?zr)
        case zg =>
          (repeat' (first | exact Nat.zero_le _ | exact Nat.le_refl _ | exact trivial | exact us | exact ul | exact bB_under _ _ | exact Under.ms _ _ _ (by decide) | (refine And.intro ?_ ?_)))
        case zc =>
          (repeat' (first | (refine And.intro ?_ ?_) | exact trivial | exact A.Le.refl _ | exact rfl | exact us | exact ul | exact bB_under _ _ | exact Under.ms _ _ _ (by decide)))
        case zv =>
          (repeat' (first | (refine And.intro ?_ ?_) | exact trivial | exact A.Le.refl _ | exact rfl | exact us | exact ul | exact bB_under _ _ | exact Under.ms _ _ _ (by decide)))
        case zh =>
          (repeat' (first | (refine And.intro ?_ ?_) | exact trivial | exact A.Le.refl _ | exact rfl | exact us | exact ul | exact bB_under _ _ | exact Under.ms _ _ _ (by decide)))
        case zu =>
          (repeat' (first | exact trivial | exact Under.s _ | exact Under.un | assumption | exact (free_ints _ _ _).under | exact Under.ref _ _ (by decide) | exact Under.ms _ _ _ (by decide) | exact Under.mp _ (by decide) | exact (Free.agg _ (by assumption)).under | exact (Free.pt _ (by assumption)).under | exact grL_under _ | exact outA_under _ | exact Nat.le_of_ble_eq_true rfl | exact (fun _ _ => rfl) | exact us | exact ul | exact bB_under _ _ | (refine And.intro ?_ ?_)))
        case zw =>
          (repeat' (first | exact trivial | exact Under.s _ | exact Under.un | assumption | exact (free_ints _ _ _).under | exact Under.ref _ _ (by decide) | exact Under.ms _ _ _ (by decide) | exact Under.mp _ (by decide) | exact (Free.agg _ (by assumption)).under | exact (Free.pt _ (by assumption)).under | exact grL_under _ | exact outA_under _ | exact Nat.le_of_ble_eq_true rfl | exact (fun _ _ => rfl) | exact us | exact ul | exact bB_under _ _ | (refine And.intro ?_ ?_)))
        case zx =>
          (repeat' (first | exact trivial | exact Under.s _ | exact Under.un | assumption | exact (free_ints _ _ _).under | exact Under.ref _ _ (by decide) | exact Under.ms _ _ _ (by decide) | exact Under.mp _ (by decide) | exact (Free.agg _ (by assumption)).under | exact (Free.pt _ (by assumption)).under | exact grL_under _ | exact outA_under _ | exact Nat.le_of_ble_eq_true rfl | exact (fun _ _ => rfl) | exact us | exact ul | exact bB_under _ _ | (refine And.intro ?_ ?_)))
        case zr =>
        refine Aw.seq ?_
        refine Aw.sm tab_ok mb0 [(2, [.bool true])] rfl rfl ?zo ?zk
        case zo =>
          repeat' apply AllP.cons
          all_goals first | exact trivial | exact id | exact fun _ => rfl | exact Nat.le_of_ble_eq_true rfl | exact fun _ => Nat.le_of_ble_eq_true rfl | exact hwa | exact fun _ => (by simp only [Ob.of, inR]; omega)
        case zk =>
        refine Aw.cond rfl (fun h3 => Aw.skip ?_) (fun h3 => ?_)
        · have h3 : cond (cond true (decide ((h : Int) < s.hours - 1)) false) (decide ((o : Int) < s.wide * s.high)) false = true := h3
          have hlo : o < s.many.toNat := by have := of_decide_eq_true (ac2 h3); omega
          have hgo : (ints (behR s l k))[o]? = some [.int ((behR s l k).getD o 0)] := by
            have hx : o < (behR s l k).length := by rw [hlen]; exact hlo
            rw [ints_get hx]; simp [List.getD_eq_getElem?_getD, hx]
          have hsu := refB_succ s l (behR s l k) h c o
          have hb1 := hbd o hlo
          have hst := step_t s ho h c o (by omega) (by omega) (by omega) (by omega)
          have hsv : stp s h c o = s.steps h (placeP s.wide c) (placeP s.wide o) := rfl
          rw [← hsv] at hst
          have hlq := bB_len (bRow s l (k + 1) part) (hrs s)
          generalize (behR s l k).getD o 0 = v at *
          generalize stp s h c o = sv at *
          generalize refB s l (behR s l k) h c o = bst at *
          generalize behR s l k = nx at *
          have hu24 : 0 ≤ (unN s l h c : Int) ∧ (unN s l h c : Int) ≤ 24 := by omega
          generalize (unN s l h c : Int) = u at *
          have hhv : 0 + (h + 1) * 1 < hrs s := by omega
          have th : ((h : Int) + 1).toNat = h + 1 := by omega
          refine Aw.seq (Aw.block ?_)
          refine Aw.sm tab_ok mb0 [(4, [.sl false .any (ints nx)]), (6, [.int v]), (14, [.bool sv])] rfl rfl ?zo ?zk
          case zo =>
            repeat' apply AllP.cons
            all_goals first | exact trivial | exact id | exact rfl | exact fun _ => rfl | exact Nat.le_of_ble_eq_true rfl | exact fun _ => Nat.le_of_ble_eq_true rfl | exact Int.natCast_nonneg _ | exact (by rw [th]; exact hgn) | exact hgo | exact fun _ => hst | exact (show 0 + ((h : Int) + 1).toNat * 1 < _ by rw [th, hlq]; exact hhv) | exact (show ((h : Int) + 1) < (hrs s : Int) by omega) | exact (by simp only [Ob.of, inR]; omega)
          case zk =>
          refine Aw.cond rfl (fun h4 => ?_) (fun h4 => Aw.skip ?_)
          · have h4 : cond (decide (v < 1000)) sv false = true := h4
            have hv1 := of_decide_eq_true (ac1 h4)
            rw [if_pos ⟨hv1, ac2 h4⟩] at hsu
            refine Aw.ed tab_ok mixed mb0 [(5, [.int u]), (10, [.sl false .any (ints nx)]), (12, [.int v])] rfl (by kernel_rfl) rfl rfl ?zo ?zk
            case zo =>
              repeat' apply AllP.cons
              all_goals first | exact trivial | exact rfl | exact Nat.le_of_ble_eq_true rfl | exact Int.natCast_nonneg _ | exact hli | exact (by rw [th]; exact hgn) | exact hgo | exact (show 0 + ((h : Int) + 1).toNat * 1 < _ by rw [th, hlq]; exact hhv) | exact (show ((h : Int) + 1) < (hrs s : Int) by omega) | exact (by simp only [Ob.of, inR]; omega)
            case zk =>
            refine Aw.em tab_ok mb0 [] rfl rfl ?zo ?zk
            case zo =>
              repeat' apply AllP.cons
              all_goals first | exact trivial | exact (by simp only [Ob.of, inR]; omega)
            case zk =>
            refine ⟨o + 1, ?zg, ?zm, ⟨?zc, ?zv, ?zh, Nat.le_of_ble_eq_true rfl⟩⟩
            case zg =>
              (repeat' (first | assumption | omega | exact .of_eq (congrArg A.int hsu) | (refine And.intro ?_ ?_)))
            case zm =>
              (repeat' (first | omega | exact .of_eq (congrArg A.int hsu) | (refine And.intro ?_ ?_)))
            case zc =>
              (repeat' (first | (refine And.intro ?_ ?_) | exact trivial | exact A.Le.refl _ | exact rfl | exact .of_eq (congrArg A.int hsu)))
            case zv =>
              (repeat' (first | (refine And.intro ?_ ?_) | exact trivial | exact A.Le.refl _ | exact rfl | exact .of_eq (congrArg A.int hsu)))
            case zh =>
              (repeat' (first | (refine And.intro ?_ ?_) | exact trivial | exact A.Le.refl _ | exact rfl | exact .of_eq (congrArg A.int hsu)))
          · have h4 : cond (decide (v < 1000)) sv false = false := h4
            rw [if_neg (fun h5 => by rw [decide_eq_true (show v < 1000 from h5.1), h5.2] at h4; cases h4)] at hsu
            refine Aw.em tab_ok mb0 [] rfl rfl ?zo ?zk
            case zo =>
              repeat' apply AllP.cons
              all_goals first | exact trivial | exact (by simp only [Ob.of, inR]; omega)
            case zk =>
            refine ⟨o + 1, ?zg, ?zm, ⟨?zc, ?zv, ?zh, Nat.le_of_ble_eq_true rfl⟩⟩
            case zg =>
              (repeat' (first | assumption | omega | exact .of_eq (congrArg A.int hsu) | (refine And.intro ?_ ?_)))
            case zm =>
              (repeat' (first | omega | exact .of_eq (congrArg A.int hsu) | (refine And.intro ?_ ?_)))
            case zc =>
              (repeat' (first | (refine And.intro ?_ ?_) | exact trivial | exact A.Le.refl _ | exact rfl | exact .of_eq (congrArg A.int hsu)))
            case zv =>
              (repeat' (first | (refine And.intro ?_ ?_) | exact trivial | exact A.Le.refl _ | exact rfl | exact .of_eq (congrArg A.int hsu)))
            case zh =>
              (repeat' (first | (refine And.intro ?_ ?_) | exact trivial | exact A.Le.refl _ | exact rfl | exact .of_eq (congrArg A.int hsu)))
        have h3 : cond (cond true (decide ((h : Int) < s.hours - 1)) false) (decide ((o : Int) < s.wide * s.high)) false = false := h3
        rw [e10] at h3
        have hoe : o = s.many.toNat := by have := of_decide_eq_false (show decide ((o : Int) < s.wide * s.high) = false from h3); omega
        subst hoe
        refine Aw.exit2 ?_
        generalize refB s l (behR s l k) h c s.many.toNat = n at *
        cases part with
        | nil =>
          have hpl := plus_o [] n (by omega)
          have hgq := hgp []
          have hsq := hset [] ([] ++ [n]) n [] rfl
          have hlq := bB_len (bRow s l (k + 1) []) (hrs s)
          have hhv : 0 + h * 1 < hrs s := by omega
          refine Aw.em tab_ok mb0 [(5, [outA []]), (7, [.sl false .any (ints ([] ++ [n]))])] rfl rfl ?zo ?zk
          case zo =>
            repeat' apply AllP.cons
            all_goals first | exact trivial | exact rfl | exact Int.natCast_nonneg _ | exact hgq | exact hpl | exact (show 0 + h * 1 < _ by rw [hlq]; exact hhv) | exact (show (h : Int) < (hrs s : Int) by omega)
          case zk =>
          refine Aw.em tab_ok mb0 [] rfl rfl ?zo ?zk
          case zo =>
            repeat' apply AllP.cons
            all_goals first | exact trivial | exact (by simp only [Ob.of, inR]; omega)
          case zk =>
          refine ⟨c + 1, ?zg, ?zm, ⟨?zc, ?zv, ?zh, Nat.le_of_ble_eq_true rfl⟩⟩
          case zg =>
            (repeat' (first | assumption | omega | exact (by rw [hrowc, hvc]; exact congrArg (fun x => some (B.cells x)) hsq) | (refine And.intro ?_ ?_)))
          case zm =>
            (repeat' (first | omega | exact (by rw [hrowc, hvc]; exact congrArg (fun x => some (B.cells x)) hsq) | (refine And.intro ?_ ?_)))
          case zc =>
            (repeat' (first | (refine And.intro ?_ ?_) | exact trivial | exact A.Le.refl _ | exact rfl | exact (by rw [hrowc, hvc]; exact congrArg (fun x => some (B.cells x)) hsq)))
          case zv =>
            (repeat' (first | (refine And.intro ?_ ?_) | exact trivial | exact A.Le.refl _ | exact rfl | exact (by rw [hrowc, hvc]; exact congrArg (fun x => some (B.cells x)) hsq)))
          case zh =>
            (repeat' (first | (refine And.intro ?_ ?_) | exact trivial | exact A.Le.refl _ | exact rfl | exact (by rw [hrowc, hvc]; exact congrArg (fun x => some (B.cells x)) hsq)))
        | cons y part =>
          have hpl := plus_o (y :: part) n (by omega)
          have hgq := hgp (y :: part)
          have hsq := hset (y :: part) ((y :: part) ++ [n]) y (part ++ [n]) rfl
          have hlq := bB_len (bRow s l (k + 1) (y :: part)) (hrs s)
          have hhv : 0 + h * 1 < hrs s := by omega
          refine Aw.em tab_ok mb0 [(5, [outA (y :: part)]), (7, [.sl false .any (ints ((y :: part) ++ [n]))])] rfl rfl ?zo ?zk
          case zo =>
            repeat' apply AllP.cons
            all_goals first | exact trivial | exact rfl | exact Int.natCast_nonneg _ | exact hgq | exact hpl | exact (show 0 + h * 1 < _ by rw [hlq]; exact hhv) | exact (show (h : Int) < (hrs s : Int) by omega)
          case zk =>
          refine Aw.em tab_ok mb0 [] rfl rfl ?zo ?zk
          case zo =>
            repeat' apply AllP.cons
            all_goals first | exact trivial | exact (by simp only [Ob.of, inR]; omega)
          case zk =>
          refine ⟨c + 1, ?zg, ?zm, ⟨?zc, ?zv, ?zh, Nat.le_of_ble_eq_true rfl⟩⟩
          case zg =>
            (repeat' (first | assumption | omega | exact (by rw [hrowc, hvc]; exact congrArg (fun x => some (B.cells x)) hsq) | (refine And.intro ?_ ?_)))
          case zm =>
            (repeat' (first | omega | exact (by rw [hrowc, hvc]; exact congrArg (fun x => some (B.cells x)) hsq) | (refine And.intro ?_ ?_)))
          case zc =>
            (repeat' (first | (refine And.intro ?_ ?_) | exact trivial | exact A.Le.refl _ | exact rfl | exact (by rw [hrowc, hvc]; exact congrArg (fun x => some (B.cells x)) hsq)))
          case zv =>
            (repeat' (first | (refine And.intro ?_ ?_) | exact trivial | exact A.Le.refl _ | exact rfl | exact (by rw [hrowc, hvc]; exact congrArg (fun x => some (B.cells x)) hsq)))
          case zh =>
            (repeat' (first | (refine And.intro ?_ ?_) | exact trivial | exact A.Le.refl _ | exact rfl | exact (by rw [hrowc, hvc]; exact congrArg (fun x => some (B.cells x)) hsq)))
    have hce : c = s.many.toNat := by have := of_decide_eq_false (show decide ((c : Int) < s.many) = false from h2); omega
    subst hce
    refine Aw.exit2 ?_
    rw [← hR]
    have hnext : bB (bRow s l k (behR s l k)) (hrs s) = bB (bRow s l (k + 1) []) (hrs s) := bB_congr fun i hi => by
      unfold bRow
      by_cases e : i = hrs s - 1 - k
      · rw [if_neg (by omega), if_pos e, if_pos (by omega)]; congr 1; omega
      · rw [if_neg e]
        by_cases e2 : hrs s - k ≤ i
        · rw [if_pos e2, if_pos (by omega)]
        · rw [if_neg e2, if_neg (by omega)]; split <;> rfl
    refine Aw.em tab_ok mb0 [] rfl rfl ?zo ?zk
    case zo =>
      repeat' apply AllP.cons
      all_goals first | exact trivial | exact (by simp only [Ob.of, inR]; omega)
    case zk =>
    refine ⟨k + 1, ?zg, ?zm, ⟨?zc, ?zv, ?zh, Nat.le_of_ble_eq_true rfl⟩⟩
    case zg =>
      (repeat' (first | assumption | omega | exact congrArg some hnext | exact .of_eq (congrArg A.int (by omega)) | (refine And.intro ?_ ?_)))
    case zm =>
      (repeat' (first | omega | exact congrArg some hnext | exact .of_eq (congrArg A.int (by omega)) | (refine And.intro ?_ ?_)))
    case zc =>
      (repeat' (first | (refine And.intro ?_ ?_) | exact trivial | exact A.Le.refl _ | exact rfl | exact congrArg some hnext | exact .of_eq (congrArg A.int (by omega))))
    case zv =>
      (repeat' (first | (refine And.intro ?_ ?_) | exact trivial | exact A.Le.refl _ | exact rfl | exact congrArg some hnext | exact .of_eq (congrArg A.int (by omega))))
    case zh =>
      (repeat' (first | (refine And.intro ?_ ?_) | exact trivial | exact A.Le.refl _ | exact rfl | exact congrArg some hnext | exact .of_eq (congrArg A.int (by omega))))
  have hke : k = hrs s := by have := of_decide_eq_false (show decide (((hrs s : Int) - 1 - k ≥ 0)) = false from h1); omega
  subst hke
  refine Aw.exit2 ?_
  refine Aw.freezeS (id := 0) (t := 5) (n := hrs s) (sz := 1) (cs := (List.range (hrs s)).map fun i => outA (bRow s l (hrs s) [] i)) ((List.range (hrs s)).map fun i => [(outA (bRow s l (hrs s) [] i)).down]) rfl rfl (rows_one _) (by simp) ?_
  refine Aw.sm tab_ok mb0 [] rfl rfl ?zo ?zk
  case zo =>
    repeat' apply AllP.cons
    all_goals first | exact trivial
  case zk =>
  refine Aw.ret ⟨_, .cons (.tmp _) .nil, congrArg (A.sl false .any) (List.map_congr_left fun i hi => ?_)⟩
  have hi := List.mem_range.1 hi
  have e : bRow s l (hrs s) [] i = behR s l (hrs s - 1 - i) := by unfold bRow; rw [if_pos (by omega)]
  rw [e, outA_cons (by rw [hlen]; omega)]
  show [A.sl false .any (ints _)] = [A.sl (List.isEmpty _) .any (ints _)]
  cases hq : behR s l (hrs s - 1 - i) with
  | nil => have := hlen (hrs s - 1 - i); rw [hq] at this; simp at this; omega
  | cons y q => rfl
set_option maxRecDepth 20000 in
set_option maxHeartbeats 2000000 in
theorem ahead_t (s : Sea) (hf : SeaFit s) (ho : s.Ok) (b : Bool) (l : List Rep) (hl : RepFit s l) : Ans Try.prog 64 [.agg s.c, .sl b .any (l.map Rep.c)] (.sl false .any ((List.range (hrs s)).map fun h => [outW (aheR s l h)])) := by
  have hfr : Free (.sl false .any ((List.range (hrs s)).map fun h => [outW (aheR s l h)])) := .sl _ _ _ fun e he x hx => by
    obtain ⟨i, _, rfl⟩ := List.mem_map.1 he
    simp at hx; subst hx; exact outW_free _
  have us : ∀ {m : Nat}, Under m (A.pt s.c) := (Free.pt _ s.free).under
  have ul : ∀ {m : Nat}, Under m (.sl b .any (l.map Rep.c)) := (free_map Rep.free _ _ _).under
  have hm := ho.many
  have hmm : s.wide * s.high = s.many := rfl
  have hp := hrs_pos ho
  have hhr := ho.hr
  have hdl := ho.dl
  have hl24 : l.length ≤ 24 := by have := hl.len; omega
  have hlen : ∀ j, (aheR s l j).length = s.many.toNat := aheR_len s l
  refine told Try.func64 rfl rfl (Pure.of tab_ok Try.func64 rfl Try.ntmps64 rfl (allC (.agg _ s.free) (all1 (free_map Rep.free _ _ _))) (allC (fun _ => rfl) (all1 (fun _ => rfl))) (by first | exact .s _ | assumption | exact .tup _ (by intro x hx; simp only [List.mem_cons, List.not_mem_nil, or_false] at hx; rcases hx with rfl | rfl | rfl | rfl <;> first | exact .s _ | (simp_all; done))) fun E hE => ?_)
  have h1E : ∀ id, 1 ≤ id → E.φ0 id = none := fun id h => hE id (by omega)
  refine Aw.sm tab_ok mb0 [] rfl rfl ?zo ?zk
  case zo =>
    repeat' apply AllP.cons
    all_goals first | exact trivial
  case zk =>
  refine Aw.sm tab_ok mb0 [] rfl rfl ?zo ?zk
  case zo =>
    repeat' apply AllP.cons
    all_goals first | exact trivial | exact rfl | exact Nat.le_of_ble_eq_true rfl | exact (by simp only [Ob.of]; omega) | exact (show ((24 : Nat) : Int) * s.hours ≤ 140737488355328 by omega) | exact (show s.hours ≤ (maxLen : Int) by unfold maxLen; omega)
  case zk =>
  have hz : B.cells (((List.range (s.hours.toNat * 1)).map fun j => ([A.sl true .exact []] : List A).getD (j % 1) .un).map A.down) = bB (aRow s l 0 []) (hrs s) := by
    rw [bB_zero]
    show B.cells ((List.range (hrs s)).map fun _ => outA []) = _
    refine congrArg B.cells (List.map_congr_left fun i hi => ?_)
    have := List.mem_range.1 hi
    have e : aRow s l 0 [] i = [] := by unfold aRow; rw [if_neg (by omega)]; split <;> rfl
    rw [e]
  refine Aw.seq ?_
  refine Aw.sm tab_ok mb0 [] rfl rfl ?zo ?zk
  case zo =>
    repeat' apply AllP.cons
    all_goals first | exact trivial
  case zk =>
  refine Aw.block (Aw.rounds 1 h1E [(1, .sl b .any (l.map Rep.c)), (2, .pt s.c), (5, .ms 0 0 (hrs s))] (fun k : Nat => [(6, .int ((k : Int)))]) (fun k => [(0, bB (aRow s l k []) (hrs s))]) (fun k => k ≤ hrs s) (fun k => hrs s - k) 0 ?zg ⟨?zc, ?zv, ?zh, Nat.le_of_ble_eq_true rfl⟩ ?zu (fun k zhk => ?zw) (fun k zhk => ?zx) fun k hk => ?zr)
  case zg =>
    (repeat' (first | exact Nat.zero_le _ | exact Nat.le_refl _ | exact trivial | exact us | exact ul | exact (congrArg some hz) | exact bB_under _ _ | exact .of_eq (congrArg A.int (by omega)) | exact Under.ms _ _ _ (by decide) | (refine And.intro ?_ ?_)))
  case zc =>
    (repeat' (first | (refine And.intro ?_ ?_) | exact trivial | exact A.Le.refl _ | exact rfl | exact us | exact ul | exact (congrArg some hz) | exact bB_under _ _ | exact .of_eq (congrArg A.int (by omega)) | exact Under.ms _ _ _ (by decide)))
  case zv =>
    (repeat' (first | (refine And.intro ?_ ?_) | exact trivial | exact A.Le.refl _ | exact rfl | exact us | exact ul | exact (congrArg some hz) | exact bB_under _ _ | exact .of_eq (congrArg A.int (by omega)) | exact Under.ms _ _ _ (by decide)))
  case zh =>
    (repeat' (first | (refine And.intro ?_ ?_) | exact trivial | exact A.Le.refl _ | exact rfl | exact us | exact ul | exact (congrArg some hz) | exact bB_under _ _ | exact .of_eq (congrArg A.int (by omega)) | exact Under.ms _ _ _ (by decide)))
  case zu =>
    (repeat' (first | exact trivial | exact Under.s _ | exact Under.un | assumption | exact (free_ints _ _ _).under | exact Under.ref _ _ (by decide) | exact Under.ms _ _ _ (by decide) | exact Under.mp _ (by decide) | exact (Free.agg _ (by assumption)).under | exact (Free.pt _ (by assumption)).under | exact grL_under _ | exact outA_under _ | exact Nat.le_of_ble_eq_true rfl | exact (fun _ _ => rfl) | exact us | exact ul | exact (congrArg some hz) | exact bB_under _ _ | exact .of_eq (congrArg A.int (by omega)) | (refine And.intro ?_ ?_)))
  case zw =>
    (repeat' (first | exact trivial | exact Under.s _ | exact Under.un | assumption | exact (free_ints _ _ _).under | exact Under.ref _ _ (by decide) | exact Under.ms _ _ _ (by decide) | exact Under.mp _ (by decide) | exact (Free.agg _ (by assumption)).under | exact (Free.pt _ (by assumption)).under | exact grL_under _ | exact outA_under _ | exact Nat.le_of_ble_eq_true rfl | exact (fun _ _ => rfl) | exact us | exact ul | exact (congrArg some hz) | exact bB_under _ _ | exact .of_eq (congrArg A.int (by omega)) | (refine And.intro ?_ ?_)))
  case zx =>
    (repeat' (first | exact trivial | exact Under.s _ | exact Under.un | assumption | exact (free_ints _ _ _).under | exact Under.ref _ _ (by decide) | exact Under.ms _ _ _ (by decide) | exact Under.mp _ (by decide) | exact (Free.agg _ (by assumption)).under | exact (Free.pt _ (by assumption)).under | exact grL_under _ | exact outA_under _ | exact Nat.le_of_ble_eq_true rfl | exact (fun _ _ => rfl) | exact us | exact ul | exact (congrArg some hz) | exact bB_under _ _ | exact .of_eq (congrArg A.int (by omega)) | (refine And.intro ?_ ?_)))
  case zr =>
  refine Aw.seq ?_
  refine Aw.sm tab_ok mb0 [] rfl rfl ?zo ?zk
  case zo =>
    repeat' apply AllP.cons
    all_goals first | exact trivial | exact Nat.le_of_ble_eq_true rfl
  case zk =>
  refine Aw.cond rfl (fun h1 => Aw.skip ?_) (fun h1 => ?_)
  · have hlt : k < hrs s := by have := of_decide_eq_true (show decide (((k : Int) < s.hours)) = true from h1); omega
    obtain ⟨h, hh⟩ : ∃ h : Nat, h = k := ⟨_, rfl⟩
    have hval : ∀ c, c < s.many.toNat → aheV s l (pvO s l k) k c = (aheR s l k).getD c 0 := fun c hc => by rw [aheR_pv, rowK_at _ hc]
    have hrow : ∀ c, rowK (aheV s l (pvO s l k) k) (c + 1) = rowK (aheV s l (pvO s l k) k) c ++ [aheV s l (pvO s l k) k c] := rowK_succ _
    have hR : aheR s l k = rowK (aheV s l (pvO s l k) k) s.many.toNat := by rw [aheR_pv]
    have hrl : ∀ c, (rowK (aheV s l (pvO s l k) k) c).length = c := rowK_len _
    have hset : ∀ (p p' : List Int) (x : Int) (q : List Int), p' = x :: q → setSeg ((List.range (hrs s)).map fun i => outA (aRow s l k p i)) (0 + k * 1) [A.sl false .any (ints (x :: q))] = (List.range (hrs s)).map fun i => outA (aRow s l k p' i) := fun p p' x q e =>
      bB_set (by omega) (fun i hi hne => by unfold aRow; rw [if_neg hne, if_neg hne]) (by unfold aRow; rw [if_neg (by omega), if_pos rfl]; exact e)
    have hgp : ∀ p : List Int, (((List.range (hrs s)).map fun i => outA (aRow s l k p i)).getD (0 + k * 1) .un).down = outA p := fun p => by
      rw [bB_get (by omega)]; congr 1; unfold aRow; rw [if_neg (by omega), if_pos rfl]
    refine Aw.seq (Aw.block ?_)
    refine Aw.sm tab_ok mb0 [] rfl rfl ?zo ?zk
    case zo =>
      repeat' apply AllP.cons
      all_goals first | exact trivial
    case zk =>
    refine Aw.block (Aw.rounds 1 h1E [(1, .sl b .any (l.map Rep.c)), (2, .pt s.c), (5, .ms 0 0 (hrs s)), (6, .int k)] (fun c : Nat => [(7, .int c)]) (fun c => [(0, bB (aRow s l k (rowK (aheV s l (pvO s l k) k) c)) (hrs s))]) (fun c => c ≤ s.many.toNat) (fun c => s.many.toNat - c) 0 ?zg ⟨?zc, ?zv, ?zh, Nat.le_of_ble_eq_true rfl⟩ ?zu (fun c zhk => ?zw) (fun c zhk => ?zx) fun c hk => ?zr)
    case zg =>
      (repeat' (first | exact Nat.zero_le _ | exact Nat.le_refl _ | exact trivial | exact us | exact ul | exact bB_under _ _ | exact Under.ms _ _ _ (by decide) | (refine And.intro ?_ ?_)))
    case zc =>
      (repeat' (first | (refine And.intro ?_ ?_) | exact trivial | exact A.Le.refl _ | exact rfl | exact us | exact ul | exact bB_under _ _ | exact Under.ms _ _ _ (by decide)))
    case zv =>
      (repeat' (first | (refine And.intro ?_ ?_) | exact trivial | exact A.Le.refl _ | exact rfl | exact us | exact ul | exact bB_under _ _ | exact Under.ms _ _ _ (by decide)))
    case zh =>
      (repeat' (first | (refine And.intro ?_ ?_) | exact trivial | exact A.Le.refl _ | exact rfl | exact us | exact ul | exact bB_under _ _ | exact Under.ms _ _ _ (by decide)))
    case zu =>
      (repeat' (first | exact trivial | exact Under.s _ | exact Under.un | assumption | exact (free_ints _ _ _).under | exact Under.ref _ _ (by decide) | exact Under.ms _ _ _ (by decide) | exact Under.mp _ (by decide) | exact (Free.agg _ (by assumption)).under | exact (Free.pt _ (by assumption)).under | exact grL_under _ | exact outA_under _ | exact Nat.le_of_ble_eq_true rfl | exact (fun _ _ => rfl) | exact us | exact ul | exact bB_under _ _ | (refine And.intro ?_ ?_)))
    case zw =>
      (repeat' (first | exact trivial | exact Under.s _ | exact Under.un | assumption | exact (free_ints _ _ _).under | exact Under.ref _ _ (by decide) | exact Under.ms _ _ _ (by decide) | exact Under.mp _ (by decide) | exact (Free.agg _ (by assumption)).under | exact (Free.pt _ (by assumption)).under | exact grL_under _ | exact outA_under _ | exact Nat.le_of_ble_eq_true rfl | exact (fun _ _ => rfl) | exact us | exact ul | exact bB_under _ _ | (refine And.intro ?_ ?_)))
    case zx =>
      (repeat' (first | exact trivial | exact Under.s _ | exact Under.un | assumption | exact (free_ints _ _ _).under | exact Under.ref _ _ (by decide) | exact Under.ms _ _ _ (by decide) | exact Under.mp _ (by decide) | exact (Free.agg _ (by assumption)).under | exact (Free.pt _ (by assumption)).under | exact grL_under _ | exact outA_under _ | exact Nat.le_of_ble_eq_true rfl | exact (fun _ _ => rfl) | exact us | exact ul | exact bB_under _ _ | (refine And.intro ?_ ?_)))
    case zr =>
    refine Aw.seq ?_
    refine Aw.sm tab_ok mb0 [] rfl rfl ?zo ?zk
    case zo =>
      repeat' apply AllP.cons
      all_goals first | exact trivial | exact Nat.le_of_ble_eq_true rfl | exact (by simp only [Ob.of, inR]; omega)
    case zk =>
    refine Aw.cond rfl (fun h2 => Aw.skip ?_) (fun h2 => ?_)
    · have hlc : c < s.many.toNat := by have := of_decide_eq_true (show decide ((c : Int) < s.many) = true from h2); omega
      have hwa := water_t s hf ho c
      have hrowc := hrow c
      have hrlc := hrl c
      have hvc : aheV s l (pvO s l k) k c = if watB s c then (match pvO s l k with | none => 0 | some nx => refA s l nx (k - 1) c s.many.toNat) else 1000 := rfl
      have hli := lies_t s ho b l hl k c (by omega)
      have hun := unN_le s hl24 k c
      rw [unN_eq] at hli
      generalize hpe : rowK (aheV s l (pvO s l k) k) c = part at *
      refine Aw.seq (Aw.block ?_)
      refine Aw.sm tab_ok mb0 [] rfl rfl ?zo ?zk
      case zo =>
        repeat' apply AllP.cons
        all_goals first | exact trivial
      case zk =>
      refine Aw.seq ?_
      cases hw : watB s c with
      | false =>
        rw [hw] at hwa hvc
        refine Aw.sm tab_ok mb0 [(2, [.bool false])] rfl rfl ?zo ?zk
        case zo =>
          repeat' apply AllP.cons
          all_goals first | exact trivial | exact id | exact fun _ => rfl | exact Nat.le_of_ble_eq_true rfl | exact hwa
        case zk =>
        refine Aw.cond rfl (fun h => by have h : false = true := h; cases h) (fun _ => Aw.skip ?_)
        refine Aw.seq ?_
        refine Aw.sm tab_ok mb0 [] rfl rfl ?zo ?zk
        case zo =>
          repeat' apply AllP.cons
          all_goals first | exact trivial
        case zk =>
        refine Aw.block (Aw.rounds 1 h1E [(1, .sl b .any (l.map Rep.c)), (2, .pt s.c), (5, .ms 0 0 (hrs s)), (6, .int k), (7, .int c)] (fun z : Unit => [(8, .int 1000), (9, .int 0)]) (fun z => [(0, bB (aRow s l k part) (hrs s))]) (fun z => True) (fun z => 0) () ?zg ⟨?zc, ?zv, ?zh, Nat.le_of_ble_eq_true rfl⟩ ?zu (fun z zhk => ?zw) (fun z zhk => ?zx) fun z hk => ?zr)
        case zg =>
          (repeat' (first | exact Nat.zero_le _ | exact Nat.le_refl _ | exact trivial | exact us | exact ul | exact bB_under _ _ | exact Under.ms _ _ _ (by decide) | (refine And.intro ?_ ?_)))
        case zc =>
          (repeat' (first | (refine And.intro ?_ ?_) | exact trivial | exact A.Le.refl _ | exact rfl | exact us | exact ul | exact bB_under _ _ | exact Under.ms _ _ _ (by decide)))
        case zv =>
          (repeat' (first | (refine And.intro ?_ ?_) | exact trivial | exact A.Le.refl _ | exact rfl | exact us | exact ul | exact bB_under _ _ | exact Under.ms _ _ _ (by decide)))
        case zh =>
          (repeat' (first | (refine And.intro ?_ ?_) | exact trivial | exact A.Le.refl _ | exact rfl | exact us | exact ul | exact bB_under _ _ | exact Under.ms _ _ _ (by decide)))
        case zu =>
          (repeat' (first | exact trivial | exact Under.s _ | exact Under.un | assumption | exact (free_ints _ _ _).under | exact Under.ref _ _ (by decide) | exact Under.ms _ _ _ (by decide) | exact Under.mp _ (by decide) | exact (Free.agg _ (by assumption)).under | exact (Free.pt _ (by assumption)).under | exact grL_under _ | exact outA_under _ | exact Nat.le_of_ble_eq_true rfl | exact (fun _ _ => rfl) | exact us | exact ul | exact bB_under _ _ | (refine And.intro ?_ ?_)))
        case zw =>
          (repeat' (first | exact trivial | exact Under.s _ | exact Under.un | assumption | exact (free_ints _ _ _).under | exact Under.ref _ _ (by decide) | exact Under.ms _ _ _ (by decide) | exact Under.mp _ (by decide) | exact (Free.agg _ (by assumption)).under | exact (Free.pt _ (by assumption)).under | exact grL_under _ | exact outA_under _ | exact Nat.le_of_ble_eq_true rfl | exact (fun _ _ => rfl) | exact us | exact ul | exact bB_under _ _ | (refine And.intro ?_ ?_)))
        case zx =>
          (repeat' (first | exact trivial | exact Under.s _ | exact Under.un | assumption | exact (free_ints _ _ _).under | exact Under.ref _ _ (by decide) | exact Under.ms _ _ _ (by decide) | exact Under.mp _ (by decide) | exact (Free.agg _ (by assumption)).under | exact (Free.pt _ (by assumption)).under | exact grL_under _ | exact outA_under _ | exact Nat.le_of_ble_eq_true rfl | exact (fun _ _ => rfl) | exact us | exact ul | exact bB_under _ _ | (refine And.intro ?_ ?_)))
        case zr =>
        refine Aw.seq ?_
        refine Aw.sm tab_ok mb0 [(2, [.bool false])] rfl rfl ?zo ?zk
        case zo =>
          repeat' apply AllP.cons
          all_goals first | exact trivial | exact id | exact fun _ => rfl | exact Nat.le_of_ble_eq_true rfl | exact fun _ => Nat.le_of_ble_eq_true rfl | exact hwa | exact fun h => nomatch h
        case zk =>
        refine Aw.cond rfl (fun h => by have h : false = true := h; cases h) (fun _ => ?_)
        refine Aw.exit2 ?_
        have hvc : aheV s l (pvO s l k) k c = 1000 := hvc
        generalize (1000 : Int) = n at *
        cases part with
        | nil =>
          have hpl := plus_o [] n (by omega)
          have hgq := hgp []
          have hsq := hset [] ([] ++ [n]) n [] rfl
          have hlq := bB_len (aRow s l k []) (hrs s)
          have hhv : 0 + k * 1 < hrs s := by omega
          refine Aw.em tab_ok mb0 [(5, [outA []]), (7, [.sl false .any (ints ([] ++ [n]))])] rfl rfl ?zo ?zk
          case zo =>
            repeat' apply AllP.cons
            all_goals first | exact trivial | exact rfl | exact Int.natCast_nonneg _ | exact hgq | exact hpl | exact (show 0 + k * 1 < _ by rw [hlq]; exact hhv) | exact (show (k : Int) < (hrs s : Int) by omega)
          case zk =>
          refine Aw.em tab_ok mb0 [] rfl rfl ?zo ?zk
          case zo =>
            repeat' apply AllP.cons
            all_goals first | exact trivial | exact (by simp only [Ob.of, inR]; omega)
          case zk =>
          refine ⟨c + 1, ?zg, ?zm, ⟨?zc, ?zv, ?zh, Nat.le_of_ble_eq_true rfl⟩⟩
          case zg =>
            (repeat' (first | assumption | omega | exact (by rw [hrowc, hvc]; exact congrArg (fun x => some (B.cells x)) hsq) | (refine And.intro ?_ ?_)))
          case zm =>
            (repeat' (first | omega | exact (by rw [hrowc, hvc]; exact congrArg (fun x => some (B.cells x)) hsq) | (refine And.intro ?_ ?_)))
          case zc =>
            (repeat' (first | (refine And.intro ?_ ?_) | exact trivial | exact A.Le.refl _ | exact rfl | exact (by rw [hrowc, hvc]; exact congrArg (fun x => some (B.cells x)) hsq)))
          case zv =>
            (repeat' (first | (refine And.intro ?_ ?_) | exact trivial | exact A.Le.refl _ | exact rfl | exact (by rw [hrowc, hvc]; exact congrArg (fun x => some (B.cells x)) hsq)))
          case zh =>
            (repeat' (first | (refine And.intro ?_ ?_) | exact trivial | exact A.Le.refl _ | exact rfl | exact (by rw [hrowc, hvc]; exact congrArg (fun x => some (B.cells x)) hsq)))
        | cons y part =>
          have hpl := plus_o (y :: part) n (by omega)
          have hgq := hgp (y :: part)
          have hsq := hset (y :: part) ((y :: part) ++ [n]) y (part ++ [n]) rfl
          have hlq := bB_len (aRow s l k (y :: part)) (hrs s)
          have hhv : 0 + k * 1 < hrs s := by omega
          refine Aw.em tab_ok mb0 [(5, [outA (y :: part)]), (7, [.sl false .any (ints ((y :: part) ++ [n]))])] rfl rfl ?zo ?zk
          case zo =>
            repeat' apply AllP.cons
            all_goals first | exact trivial | exact rfl | exact Int.natCast_nonneg _ | exact hgq | exact hpl | exact (show 0 + k * 1 < _ by rw [hlq]; exact hhv) | exact (show (k : Int) < (hrs s : Int) by omega)
          case zk =>
          refine Aw.em tab_ok mb0 [] rfl rfl ?zo ?zk
          case zo =>
            repeat' apply AllP.cons
            all_goals first | exact trivial | exact (by simp only [Ob.of, inR]; omega)
          case zk =>
          refine ⟨c + 1, ?zg, ?zm, ⟨?zc, ?zv, ?zh, Nat.le_of_ble_eq_true rfl⟩⟩
          case zg =>
            (repeat' (first | assumption | omega | exact (by rw [hrowc, hvc]; exact congrArg (fun x => some (B.cells x)) hsq) | (refine And.intro ?_ ?_)))
          case zm =>
            (repeat' (first | omega | exact (by rw [hrowc, hvc]; exact congrArg (fun x => some (B.cells x)) hsq) | (refine And.intro ?_ ?_)))
          case zc =>
            (repeat' (first | (refine And.intro ?_ ?_) | exact trivial | exact A.Le.refl _ | exact rfl | exact (by rw [hrowc, hvc]; exact congrArg (fun x => some (B.cells x)) hsq)))
          case zv =>
            (repeat' (first | (refine And.intro ?_ ?_) | exact trivial | exact A.Le.refl _ | exact rfl | exact (by rw [hrowc, hvc]; exact congrArg (fun x => some (B.cells x)) hsq)))
          case zh =>
            (repeat' (first | (refine And.intro ?_ ?_) | exact trivial | exact A.Le.refl _ | exact rfl | exact (by rw [hrowc, hvc]; exact congrArg (fun x => some (B.cells x)) hsq)))
      | true =>
      rw [hw] at hwa hvc
      cases k with
      | zero =>
        have hvc : aheV s l (pvO s l 0) 0 c = 0 := hvc
        refine Aw.sm tab_ok mb0 [(2, [.bool true])] rfl rfl ?zo ?zk
        case zo =>
          repeat' apply AllP.cons
          all_goals first | exact trivial | exact id | exact fun _ => rfl | exact Nat.le_of_ble_eq_true rfl | exact hwa
        case zk =>
        refine Aw.cond rfl (fun _ => ?_) (fun h9 => absurd h9 (by decide))
        refine Aw.em tab_ok mb0 [] rfl rfl ?zo ?zk
        case zo =>
          repeat' apply AllP.cons
          all_goals first | exact trivial
        case zk =>
        refine Aw.seq ?_
        refine Aw.sm tab_ok mb0 [] rfl rfl ?zo ?zk
        case zo =>
          repeat' apply AllP.cons
          all_goals first | exact trivial
        case zk =>
        refine Aw.block (Aw.rounds 1 h1E [(1, .sl b .any (l.map Rep.c)), (2, .pt s.c), (5, .ms 0 0 (hrs s)), (6, .int ((0 : Nat) : Int)), (7, .int c)] (fun z : Unit => [(8, .int 0), (9, .int 0)]) (fun z => [(0, bB (aRow s l 0 part) (hrs s))]) (fun z => True) (fun z => 0) () ?zg ⟨?zc, ?zv, ?zh, Nat.le_of_ble_eq_true rfl⟩ ?zu (fun z zhk => ?zw) (fun z zhk => ?zx) fun z hk => ?zr)
        case zg =>
          (repeat' (first | exact Nat.zero_le _ | exact Nat.le_refl _ | exact trivial | exact us | exact ul | exact bB_under _ _ | exact Under.ms _ _ _ (by decide) | (refine And.intro ?_ ?_)))
        case zc =>
          (repeat' (first | (refine And.intro ?_ ?_) | exact trivial | exact A.Le.refl _ | exact rfl | exact us | exact ul | exact bB_under _ _ | exact Under.ms _ _ _ (by decide)))
        case zv =>
          (repeat' (first | (refine And.intro ?_ ?_) | exact trivial | exact A.Le.refl _ | exact rfl | exact us | exact ul | exact bB_under _ _ | exact Under.ms _ _ _ (by decide)))
        case zh =>
          (repeat' (first | (refine And.intro ?_ ?_) | exact trivial | exact A.Le.refl _ | exact rfl | exact us | exact ul | exact bB_under _ _ | exact Under.ms _ _ _ (by decide)))
        case zu =>
          (repeat' (first | exact trivial | exact Under.s _ | exact Under.un | assumption | exact (free_ints _ _ _).under | exact Under.ref _ _ (by decide) | exact Under.ms _ _ _ (by decide) | exact Under.mp _ (by decide) | exact (Free.agg _ (by assumption)).under | exact (Free.pt _ (by assumption)).under | exact grL_under _ | exact outA_under _ | exact Nat.le_of_ble_eq_true rfl | exact (fun _ _ => rfl) | exact us | exact ul | exact bB_under _ _ | (refine And.intro ?_ ?_)))
        case zw =>
          (repeat' (first | exact trivial | exact Under.s _ | exact Under.un | assumption | exact (free_ints _ _ _).under | exact Under.ref _ _ (by decide) | exact Under.ms _ _ _ (by decide) | exact Under.mp _ (by decide) | exact (Free.agg _ (by assumption)).under | exact (Free.pt _ (by assumption)).under | exact grL_under _ | exact outA_under _ | exact Nat.le_of_ble_eq_true rfl | exact (fun _ _ => rfl) | exact us | exact ul | exact bB_under _ _ | (refine And.intro ?_ ?_)))
        case zx =>
          (repeat' (first | exact trivial | exact Under.s _ | exact Under.un | assumption | exact (free_ints _ _ _).under | exact Under.ref _ _ (by decide) | exact Under.ms _ _ _ (by decide) | exact Under.mp _ (by decide) | exact (Free.agg _ (by assumption)).under | exact (Free.pt _ (by assumption)).under | exact grL_under _ | exact outA_under _ | exact Nat.le_of_ble_eq_true rfl | exact (fun _ _ => rfl) | exact us | exact ul | exact bB_under _ _ | (refine And.intro ?_ ?_)))
        case zr =>
        refine Aw.seq ?_
        refine Aw.sm tab_ok mb0 [(2, [.bool true])] rfl rfl ?zo ?zk
        case zo =>
          repeat' apply AllP.cons
          all_goals first | exact trivial | exact id | exact fun _ => rfl | exact Nat.le_of_ble_eq_true rfl | exact fun _ => Nat.le_of_ble_eq_true rfl | exact hwa | exact fun h => nomatch h
        case zk =>
        refine Aw.cond rfl (fun h9 => absurd h9 (by simp)) (fun _ => ?_)
        refine Aw.exit2 ?_
        obtain ⟨n, hn0⟩ : ∃ n : Int, n = 0 := ⟨0, rfl⟩
        rw [← hn0] at hvc
        have hn1 : A.int 0 = A.int n := by rw [hn0]
        rw [hn1]
        cases part with
        | nil =>
          have hpl := plus_o [] n (by omega)
          have hgq := hgp []
          have hsq := hset [] ([] ++ [n]) n [] rfl
          have hlq := bB_len (aRow s l 0 []) (hrs s)
          have hhv : 0 + 0 * 1 < hrs s := by omega
          refine Aw.em tab_ok mb0 [(5, [outA []]), (7, [.sl false .any (ints ([] ++ [n]))])] rfl rfl ?zo ?zk
          case zo =>
            repeat' apply AllP.cons
            all_goals first | exact trivial | exact rfl | exact Int.natCast_nonneg _ | exact hgq | exact hpl | exact (show 0 + 0 * 1 < _ by rw [hlq]; exact hhv) | exact (show ((0 : Nat) : Int) < (hrs s : Int) by omega)
          case zk =>
          refine Aw.em tab_ok mb0 [] rfl rfl ?zo ?zk
          case zo =>
            repeat' apply AllP.cons
            all_goals first | exact trivial | exact (by simp only [Ob.of, inR]; omega)
          case zk =>
          refine ⟨c + 1, ?zg, ?zm, ⟨?zc, ?zv, ?zh, Nat.le_of_ble_eq_true rfl⟩⟩
          case zg =>
            (repeat' (first | assumption | omega | exact (by rw [hrowc, hvc]; exact congrArg (fun x => some (B.cells x)) hsq) | (refine And.intro ?_ ?_)))
          case zm =>
            (repeat' (first | omega | exact (by rw [hrowc, hvc]; exact congrArg (fun x => some (B.cells x)) hsq) | (refine And.intro ?_ ?_)))
          case zc =>
            (repeat' (first | (refine And.intro ?_ ?_) | exact trivial | exact A.Le.refl _ | exact rfl | exact (by rw [hrowc, hvc]; exact congrArg (fun x => some (B.cells x)) hsq)))
          case zv =>
            (repeat' (first | (refine And.intro ?_ ?_) | exact trivial | exact A.Le.refl _ | exact rfl | exact (by rw [hrowc, hvc]; exact congrArg (fun x => some (B.cells x)) hsq)))
          case zh =>
            (repeat' (first | (refine And.intro ?_ ?_) | exact trivial | exact A.Le.refl _ | exact rfl | exact (by rw [hrowc, hvc]; exact congrArg (fun x => some (B.cells x)) hsq)))
        | cons y part =>
          have hpl := plus_o (y :: part) n (by omega)
          have hgq := hgp (y :: part)
          have hsq := hset (y :: part) ((y :: part) ++ [n]) y (part ++ [n]) rfl
          have hlq := bB_len (aRow s l 0 (y :: part)) (hrs s)
          have hhv : 0 + 0 * 1 < hrs s := by omega
          refine Aw.em tab_ok mb0 [(5, [outA (y :: part)]), (7, [.sl false .any (ints ((y :: part) ++ [n]))])] rfl rfl ?zo ?zk
          case zo =>
            repeat' apply AllP.cons
            all_goals first | exact trivial | exact rfl | exact Int.natCast_nonneg _ | exact hgq | exact hpl | exact (show 0 + 0 * 1 < _ by rw [hlq]; exact hhv) | exact (show ((0 : Nat) : Int) < (hrs s : Int) by omega)
          case zk =>
          refine Aw.em tab_ok mb0 [] rfl rfl ?zo ?zk
          case zo =>
            repeat' apply AllP.cons
            all_goals first | exact trivial | exact (by simp only [Ob.of, inR]; omega)
          case zk =>
          refine ⟨c + 1, ?zg, ?zm, ⟨?zc, ?zv, ?zh, Nat.le_of_ble_eq_true rfl⟩⟩
          case zg =>
            (repeat' (first | assumption | omega | exact (by rw [hrowc, hvc]; exact congrArg (fun x => some (B.cells x)) hsq) | (refine And.intro ?_ ?_)))
          case zm =>
            (repeat' (first | omega | exact (by rw [hrowc, hvc]; exact congrArg (fun x => some (B.cells x)) hsq) | (refine And.intro ?_ ?_)))
          case zc =>
            (repeat' (first | (refine And.intro ?_ ?_) | exact trivial | exact A.Le.refl _ | exact rfl | exact (by rw [hrowc, hvc]; exact congrArg (fun x => some (B.cells x)) hsq)))
          case zv =>
            (repeat' (first | (refine And.intro ?_ ?_) | exact trivial | exact A.Le.refl _ | exact rfl | exact (by rw [hrowc, hvc]; exact congrArg (fun x => some (B.cells x)) hsq)))
          case zh =>
            (repeat' (first | (refine And.intro ?_ ?_) | exact trivial | exact A.Le.refl _ | exact rfl | exact (by rw [hrowc, hvc]; exact congrArg (fun x => some (B.cells x)) hsq)))
      | succ k =>
        have hvc : aheV s l (pvO s l (k + 1)) (k + 1) c = refA s l (aheR s l k) k c s.many.toNat := hvc
        have hgn : (((List.range (hrs s)).map fun i => outA (aRow s l (k + 1) part i)).getD (0 + k * 1) .un).down = .sl false .any (ints (aheR s l k)) := by
          rw [bB_get (by omega)]
          have e : aRow s l (k + 1) part k = aheR s l k := by unfold aRow; rw [if_pos (by omega)]
          rw [e]; exact outA_cons (by rw [hlen]; omega)
        have hbd := fun o ho' => ahe_bd ho hl24 (h := k) (c := o) (by omega) ho'
        have e9 : (((k + 1 : Nat) : Int) == 0) = false := by rw [beq_eq_false_iff_ne]; omega
        have e10 : decide (((k + 1 : Nat) : Int) > 0) = true := decide_eq_true (by omega)
        refine Aw.sm tab_ok mb0 [(2, [.bool true])] rfl rfl ?zo ?zk
        case zo =>
          repeat' apply AllP.cons
          all_goals first | exact trivial | exact id | exact fun _ => rfl | exact Nat.le_of_ble_eq_true rfl | exact hwa
        case zk =>
        refine Aw.cond rfl (fun h9 => by have h9 : cond true (((k + 1 : Nat) : Int) == 0) false = true := h9; rw [e9] at h9; cases h9) (fun _ => Aw.skip ?_)
        refine Aw.seq ?_
        refine Aw.sm tab_ok mb0 [] rfl rfl ?zo ?zk
        case zo =>
          repeat' apply AllP.cons
          all_goals first | exact trivial
        case zk =>
        refine Aw.block (Aw.rounds 1 h1E [(1, .sl b .any (l.map Rep.c)), (2, .pt s.c), (5, .ms 0 0 (hrs s)), (6, .int ((k + 1 : Nat) : Int)), (7, .int c)] (fun o : Nat => [(8, .int (refA s l (aheR s l k) k c o)), (9, .int o)]) (fun o => [(0, bB (aRow s l (k + 1) part) (hrs s))]) (fun o => o ≤ s.many.toNat) (fun o => s.many.toNat - o) 0 ?zg ⟨?zc, ?zv, ?zh, Nat.le_of_ble_eq_true rfl⟩ ?zu (fun o zhk => ?zw) (fun o zhk => ?zx) fun o hk => ?zr)
        case zg =>
          (repeat' (first | exact Nat.zero_le _ | exact Nat.le_refl _ | exact trivial | exact us | exact ul | exact bB_under _ _ | exact Under.ms _ _ _ (by decide) | (refine And.intro ?_ ?_)))
        case zc =>
          (repeat' (first | (refine And.intro ?_ ?_) | exact trivial | exact A.Le.refl _ | exact rfl | exact us | exact ul | exact bB_under _ _ | exact Under.ms _ _ _ (by decide)))
        case zv =>
          (repeat' (first | (refine And.intro ?_ ?_) | exact trivial | exact A.Le.refl _ | exact rfl | exact us | exact ul | exact bB_under _ _ | exact Under.ms _ _ _ (by decide)))
        case zh =>
          (repeat' (first | (refine And.intro ?_ ?_) | exact trivial | exact A.Le.refl _ | exact rfl | exact us | exact ul | exact bB_under _ _ | exact Under.ms _ _ _ (by decide)))
        case zu =>
          (repeat' (first | exact trivial | exact Under.s _ | exact Under.un | assumption | exact (free_ints _ _ _).under | exact Under.ref _ _ (by decide) | exact Under.ms _ _ _ (by decide) | exact Under.mp _ (by decide) | exact (Free.agg _ (by assumption)).under | exact (Free.pt _ (by assumption)).under | exact grL_under _ | exact outA_under _ | exact Nat.le_of_ble_eq_true rfl | exact (fun _ _ => rfl) | exact us | exact ul | exact bB_under _ _ | (refine And.intro ?_ ?_)))
        case zw =>
          (repeat' (first | exact trivial | exact Under.s _ | exact Under.un | assumption | exact (free_ints _ _ _).under | exact Under.ref _ _ (by decide) | exact Under.ms _ _ _ (by decide) | exact Under.mp _ (by decide) | exact (Free.agg _ (by assumption)).under | exact (Free.pt _ (by assumption)).under | exact grL_under _ | exact outA_under _ | exact Nat.le_of_ble_eq_true rfl | exact (fun _ _ => rfl) | exact us | exact ul | exact bB_under _ _ | (refine And.intro ?_ ?_)))
        case zx =>
          (repeat' (first | exact trivial | exact Under.s _ | exact Under.un | assumption | exact (free_ints _ _ _).under | exact Under.ref _ _ (by decide) | exact Under.ms _ _ _ (by decide) | exact Under.mp _ (by decide) | exact (Free.agg _ (by assumption)).under | exact (Free.pt _ (by assumption)).under | exact grL_under _ | exact outA_under _ | exact Nat.le_of_ble_eq_true rfl | exact (fun _ _ => rfl) | exact us | exact ul | exact bB_under _ _ | (refine And.intro ?_ ?_)))
        case zr =>
        refine Aw.seq ?_
        refine Aw.sm tab_ok mb0 [(2, [.bool true])] rfl rfl ?zo ?zk
        case zo =>
          repeat' apply AllP.cons
          all_goals first | exact trivial | exact id | exact fun _ => rfl | exact Nat.le_of_ble_eq_true rfl | exact fun _ => Nat.le_of_ble_eq_true rfl | exact hwa | exact fun _ => (by simp only [Ob.of, inR]; omega)
        case zk =>
        refine Aw.cond rfl (fun h3 => Aw.skip ?_) (fun h3 => ?_)
        · have h3 : cond (cond true (decide (((k + 1 : Nat) : Int) > 0)) false) (decide ((o : Int) < s.wide * s.high)) false = true := h3
          have hlo : o < s.many.toNat := by have := of_decide_eq_true (ac2 h3); omega
          have hgo : (ints (aheR s l k))[o]? = some [.int ((aheR s l k).getD o 0)] := by
            have hx : o < (aheR s l k).length := by rw [hlen]; exact hlo
            rw [ints_get hx]; simp [List.getD_eq_getElem?_getD, hx]
          have hsu := refA_succ s l (aheR s l k) k c o
          have hb1 := hbd o hlo
          have hst := step_t s ho (((k + 1 : Nat) : Int) - 1) o c (by omega) (by omega) (by omega) (by omega)
          have th1 : ((k + 1 : Nat) : Int) - 1 = (k : Int) := by omega
          rw [th1] at hst
          have hsv : stp s k o c = s.steps k (placeP s.wide o) (placeP s.wide c) := rfl
          rw [← hsv] at hst
          have hli := lies_t s ho b l hl k o (by omega)
          have hun := unN_le s hl24 k o
          rw [unN_eq] at hli
          have hlq := bB_len (aRow s l (k + 1) part) (hrs s)
          generalize (aheR s l k).getD o 0 = v at *
          generalize stp s k o c = sv at *
          generalize refA s l (aheR s l k) k c o = bst at *
          generalize aheR s l k = nx at *
          have hu24 : 0 ≤ (unN s l k o : Int) ∧ (unN s l k o : Int) ≤ 24 := by omega
          generalize (unN s l k o : Int) = u at *
          have hhv : 0 + k * 1 < hrs s := by omega
          have th : (((k + 1 : Nat) : Int) - 1).toNat = k := by omega
          refine Aw.seq (Aw.block ?_)
          refine Aw.sm tab_ok mb0 [(4, [.sl false .any (ints nx)]), (6, [.int v]), (15, [.bool sv])] rfl rfl ?zo ?zk
          case zo =>
            repeat' apply AllP.cons
            all_goals first | exact trivial | exact id | exact rfl | exact fun _ => rfl | exact Nat.le_of_ble_eq_true rfl | exact fun _ => Nat.le_of_ble_eq_true rfl | exact Int.natCast_nonneg _ | exact (by rw [th]; exact hgn) | exact hgo | exact fun _ => (by rw [th1]; exact hst) | exact (show 0 + (((k + 1 : Nat) : Int) - 1).toNat * 1 < _ by rw [th, hlq]; exact hhv) | exact (show (((k + 1 : Nat) : Int) - 1) < (hrs s : Int) by omega) | exact (show (0 : Int) ≤ ((k + 1 : Nat) : Int) - 1 by omega) | exact (by simp only [Ob.of, inR]; omega)
          case zk =>
          refine Aw.cond rfl (fun h4 => ?_) (fun h4 => Aw.skip ?_)
          · have h4 : cond (decide (v < 1000)) sv false = true := h4
            have hv1 := of_decide_eq_true (ac1 h4)
            rw [if_pos ⟨hv1, ac2 h4⟩] at hsu
            refine Aw.ed tab_ok mixed mb0 [(14, [.int u]), (5, [.sl false .any (ints nx)]), (7, [.int v])] rfl (by kernel_rfl) rfl rfl ?zo ?zk
            case zo =>
              repeat' apply AllP.cons
              all_goals first | exact trivial | exact rfl | exact Nat.le_of_ble_eq_true rfl | exact Int.natCast_nonneg _ | exact (by rw [th1]; exact hli) | exact (by rw [th]; exact hgn) | exact hgo | exact (show 0 + (((k + 1 : Nat) : Int) - 1).toNat * 1 < _ by rw [th, hlq]; exact hhv) | exact (show (((k + 1 : Nat) : Int) - 1) < (hrs s : Int) by omega) | exact (show (0 : Int) ≤ ((k + 1 : Nat) : Int) - 1 by omega) | exact (by simp only [Ob.of, inR]; omega)
            case zk =>
            refine Aw.em tab_ok mb0 [] rfl rfl ?zo ?zk
            case zo =>
              repeat' apply AllP.cons
              all_goals first | exact trivial | exact (by simp only [Ob.of, inR]; omega)
            case zk =>
            refine ⟨o + 1, ?zg, ?zm, ⟨?zc, ?zv, ?zh, Nat.le_of_ble_eq_true rfl⟩⟩
            case zg =>
              (repeat' (first | assumption | omega | exact .of_eq (congrArg A.int hsu) | (refine And.intro ?_ ?_)))
            case zm =>
              (repeat' (first | omega | exact .of_eq (congrArg A.int hsu) | (refine And.intro ?_ ?_)))
            case zc =>
              (repeat' (first | (refine And.intro ?_ ?_) | exact trivial | exact A.Le.refl _ | exact rfl | exact .of_eq (congrArg A.int hsu)))
            case zv =>
              (repeat' (first | (refine And.intro ?_ ?_) | exact trivial | exact A.Le.refl _ | exact rfl | exact .of_eq (congrArg A.int hsu)))
            case zh =>
              (repeat' (first | (refine And.intro ?_ ?_) | exact trivial | exact A.Le.refl _ | exact rfl | exact .of_eq (congrArg A.int hsu)))
          · have h4 : cond (decide (v < 1000)) sv false = false := h4
            rw [if_neg (fun h5 => by rw [decide_eq_true (show v < 1000 from h5.1), h5.2] at h4; cases h4)] at hsu
            refine Aw.em tab_ok mb0 [] rfl rfl ?zo ?zk
            case zo =>
              repeat' apply AllP.cons
              all_goals first | exact trivial | exact (by simp only [Ob.of, inR]; omega)
            case zk =>
            refine ⟨o + 1, ?zg, ?zm, ⟨?zc, ?zv, ?zh, Nat.le_of_ble_eq_true rfl⟩⟩
            case zg =>
              (repeat' (first | assumption | omega | exact .of_eq (congrArg A.int hsu) | (refine And.intro ?_ ?_)))
            case zm =>
              (repeat' (first | omega | exact .of_eq (congrArg A.int hsu) | (refine And.intro ?_ ?_)))
            case zc =>
              (repeat' (first | (refine And.intro ?_ ?_) | exact trivial | exact A.Le.refl _ | exact rfl | exact .of_eq (congrArg A.int hsu)))
            case zv =>
              (repeat' (first | (refine And.intro ?_ ?_) | exact trivial | exact A.Le.refl _ | exact rfl | exact .of_eq (congrArg A.int hsu)))
            case zh =>
              (repeat' (first | (refine And.intro ?_ ?_) | exact trivial | exact A.Le.refl _ | exact rfl | exact .of_eq (congrArg A.int hsu)))
        have h3 : cond (cond true (decide (((k + 1 : Nat) : Int) > 0)) false) (decide ((o : Int) < s.wide * s.high)) false = false := h3
        rw [e10] at h3
        have hoe : o = s.many.toNat := by have := of_decide_eq_false (show decide ((o : Int) < s.wide * s.high) = false from h3); omega
        subst hoe
        refine Aw.exit2 ?_
        generalize refA s l (aheR s l k) k c s.many.toNat = n at *
        cases part with
        | nil =>
          have hpl := plus_o [] n (by omega)
          have hgq := hgp []
          have hsq := hset [] ([] ++ [n]) n [] rfl
          have hlq := bB_len (aRow s l (k + 1) []) (hrs s)
          have hhv : 0 + (k + 1) * 1 < hrs s := by omega
          refine Aw.em tab_ok mb0 [(5, [outA []]), (7, [.sl false .any (ints ([] ++ [n]))])] rfl rfl ?zo ?zk
          case zo =>
            repeat' apply AllP.cons
            all_goals first | exact trivial | exact rfl | exact Int.natCast_nonneg _ | exact hgq | exact hpl | exact (show 0 + (k + 1) * 1 < _ by rw [hlq]; exact hhv) | exact (show ((k + 1 : Nat) : Int) < (hrs s : Int) by omega)
          case zk =>
          refine Aw.em tab_ok mb0 [] rfl rfl ?zo ?zk
          case zo =>
            repeat' apply AllP.cons
            all_goals first | exact trivial | exact (by simp only [Ob.of, inR]; omega)
          case zk =>
          refine ⟨c + 1, ?zg, ?zm, ⟨?zc, ?zv, ?zh, Nat.le_of_ble_eq_true rfl⟩⟩
          case zg =>
            (repeat' (first | assumption | omega | exact (by rw [hrowc, hvc]; exact congrArg (fun x => some (B.cells x)) hsq) | (refine And.intro ?_ ?_)))
          case zm =>
            (repeat' (first | omega | exact (by rw [hrowc, hvc]; exact congrArg (fun x => some (B.cells x)) hsq) | (refine And.intro ?_ ?_)))
          case zc =>
            (repeat' (first | (refine And.intro ?_ ?_) | exact trivial | exact A.Le.refl _ | exact rfl | exact (by rw [hrowc, hvc]; exact congrArg (fun x => some (B.cells x)) hsq)))
          case zv =>
            (repeat' (first | (refine And.intro ?_ ?_) | exact trivial | exact A.Le.refl _ | exact rfl | exact (by rw [hrowc, hvc]; exact congrArg (fun x => some (B.cells x)) hsq)))
          case zh =>
            (repeat' (first | (refine And.intro ?_ ?_) | exact trivial | exact A.Le.refl _ | exact rfl | exact (by rw [hrowc, hvc]; exact congrArg (fun x => some (B.cells x)) hsq)))
        | cons y part =>
          have hpl := plus_o (y :: part) n (by omega)
          have hgq := hgp (y :: part)
          have hsq := hset (y :: part) ((y :: part) ++ [n]) y (part ++ [n]) rfl
          have hlq := bB_len (aRow s l (k + 1) (y :: part)) (hrs s)
          have hhv : 0 + (k + 1) * 1 < hrs s := by omega
          refine Aw.em tab_ok mb0 [(5, [outA (y :: part)]), (7, [.sl false .any (ints ((y :: part) ++ [n]))])] rfl rfl ?zo ?zk
          case zo =>
            repeat' apply AllP.cons
            all_goals first | exact trivial | exact rfl | exact Int.natCast_nonneg _ | exact hgq | exact hpl | exact (show 0 + (k + 1) * 1 < _ by rw [hlq]; exact hhv) | exact (show ((k + 1 : Nat) : Int) < (hrs s : Int) by omega)
          case zk =>
          refine Aw.em tab_ok mb0 [] rfl rfl ?zo ?zk
          case zo =>
            repeat' apply AllP.cons
            all_goals first | exact trivial | exact (by simp only [Ob.of, inR]; omega)
          case zk =>
          refine ⟨c + 1, ?zg, ?zm, ⟨?zc, ?zv, ?zh, Nat.le_of_ble_eq_true rfl⟩⟩
          case zg =>
            (repeat' (first | assumption | omega | exact (by rw [hrowc, hvc]; exact congrArg (fun x => some (B.cells x)) hsq) | (refine And.intro ?_ ?_)))
          case zm =>
            (repeat' (first | omega | exact (by rw [hrowc, hvc]; exact congrArg (fun x => some (B.cells x)) hsq) | (refine And.intro ?_ ?_)))
          case zc =>
            (repeat' (first | (refine And.intro ?_ ?_) | exact trivial | exact A.Le.refl _ | exact rfl | exact (by rw [hrowc, hvc]; exact congrArg (fun x => some (B.cells x)) hsq)))
          case zv =>
            (repeat' (first | (refine And.intro ?_ ?_) | exact trivial | exact A.Le.refl _ | exact rfl | exact (by rw [hrowc, hvc]; exact congrArg (fun x => some (B.cells x)) hsq)))
          case zh =>
            (repeat' (first | (refine And.intro ?_ ?_) | exact trivial | exact A.Le.refl _ | exact rfl | exact (by rw [hrowc, hvc]; exact congrArg (fun x => some (B.cells x)) hsq)))
    have hce : c = s.many.toNat := by have := of_decide_eq_false (show decide ((c : Int) < s.many) = false from h2); omega
    subst hce
    refine Aw.exit2 ?_
    rw [← hR]
    have hnext : bB (aRow s l k (aheR s l k)) (hrs s) = bB (aRow s l (k + 1) []) (hrs s) := bB_congr fun i hi => by
      unfold aRow
      by_cases e : i = k
      · rw [if_neg (by omega), if_pos e, if_pos (by omega), e]
      · rw [if_neg e]
        by_cases e2 : i < k
        · rw [if_pos e2, if_pos (by omega)]
        · rw [if_neg e2, if_neg (by omega)]; split <;> rfl
    refine Aw.em tab_ok mb0 [] rfl rfl ?zo ?zk
    case zo =>
      repeat' apply AllP.cons
      all_goals first | exact trivial | exact (by simp only [Ob.of, inR]; omega)
    case zk =>
    refine ⟨k + 1, ?zg, ?zm, ⟨?zc, ?zv, ?zh, Nat.le_of_ble_eq_true rfl⟩⟩
    case zg =>
      (repeat' (first | assumption | omega | exact congrArg some hnext | exact .of_eq (congrArg A.int (by omega)) | (refine And.intro ?_ ?_)))
    case zm =>
      (repeat' (first | omega | exact congrArg some hnext | exact .of_eq (congrArg A.int (by omega)) | (refine And.intro ?_ ?_)))
    case zc =>
      (repeat' (first | (refine And.intro ?_ ?_) | exact trivial | exact A.Le.refl _ | exact rfl | exact congrArg some hnext | exact .of_eq (congrArg A.int (by omega))))
    case zv =>
      (repeat' (first | (refine And.intro ?_ ?_) | exact trivial | exact A.Le.refl _ | exact rfl | exact congrArg some hnext | exact .of_eq (congrArg A.int (by omega))))
    case zh =>
      (repeat' (first | (refine And.intro ?_ ?_) | exact trivial | exact A.Le.refl _ | exact rfl | exact congrArg some hnext | exact .of_eq (congrArg A.int (by omega))))
  have hke : k = hrs s := by have := of_decide_eq_false (show decide (((k : Int) < s.hours)) = false from h1); omega
  subst hke
  refine Aw.exit2 ?_
  refine Aw.freezeS (id := 0) (t := 5) (n := hrs s) (sz := 1) (cs := (List.range (hrs s)).map fun i => outA (aRow s l (hrs s) [] i)) ((List.range (hrs s)).map fun i => [(outA (aRow s l (hrs s) [] i)).down]) rfl rfl (rows_one _) (by simp) ?_
  refine Aw.sm tab_ok mb0 [] rfl rfl ?zo ?zk
  case zo =>
    repeat' apply AllP.cons
    all_goals first | exact trivial
  case zk =>
  refine Aw.ret ⟨_, .cons (.tmp _) .nil, congrArg (A.sl false .any) (List.map_congr_left fun i hi => ?_)⟩
  have hi := List.mem_range.1 hi
  have e : aRow s l (hrs s) [] i = aheR s l i := by unfold aRow; rw [if_pos (by omega)]
  rw [e, outA_cons (by rw [hlen]; omega)]
  show [A.sl false .any (ints _)] = [A.sl (List.isEmpty _) .any (ints _)]
  cases hq : aheR s l i with
  | nil => have := hlen (i); rw [hq] at this; simp at this; omega
  | cons y q => rfl
end Go.Proofs.Ytohbjneaaahpcaa

namespace Go.Proofs.Ytohbjneaaahpcaa
open Go Go.AL Go.AL.Q Go.AL.Sh
theorem rows_get {f : Nat → A} {n k : Nat} (h : k < n) : ((List.range n).map fun i => [f i])[k]? = some [f k] := by simp [h]
theorem rows_lenI {f : Nat → A} {n : Nat} : ((((List.range n).map fun i => [f i]).length : Nat) : Int) = n := by simp
theorem rows_free {f : Nat → List Int} {n : Nat} : Free (.sl false .any ((List.range n).map fun i => [outW (f i)])) := .sl _ _ _ fun e he x hx => by
  obtain ⟨i, _, rfl⟩ := List.mem_map.1 he
  simp at hx; subst hx; exact outW_free _
theorem ints_at {l : List Int} {k : Nat} (h : k < l.length) : (ints l)[k]? = some [.int (l.getD k 0)] := by
  rw [ints_get h]; simp [List.getD_eq_getElem?_getD, h]
set_option maxRecDepth 20000 in
set_option maxHeartbeats 1000000 in
theorem rCan_a (s : Sea) (hf : SeaFit s) (b : Bool) (l : List Rep) (hl : (l.length : Int) ≤ 9223372036854775806) (wrong hour : Int) :
    Ans Try.prog 25 [.agg s.c, .sl b .any (l.map Rep.c), .int wrong, .int hour] (.tup [outA (CanR s l wrong hour).1, .int (CanR s l wrong hour).2]) := by
  have hfr : Free (.tup [outA (CanR s l wrong hour).1, .int (CanR s l wrong hour).2]) := .tup _ (allC (outA_free _) (all1 (.s _)))
  have us : ∀ {m : Nat}, Under m (A.pt s.c) := (Free.pt _ s.free).under
  have hck := asked_r s hf b l hl
  refine told Try.func25 rfl rfl (Pure.of tab_ok Try.func25 rfl Try.ntmps25 rfl (allC (.agg _ s.free) (allC (free_map Rep.free _ _ _) (allC (.s _) (all1 (.s _))))) (allC (fun _ => rfl) (allC (fun _ => rfl) (allC (fun _ => rfl) (all1 (fun _ => rfl))))) (by first | exact .s _ | assumption | exact .tup _ (by intro x hx; simp only [List.mem_cons, List.not_mem_nil, or_false] at hx; rcases hx with rfl | rfl | rfl | rfl <;> first | exact .s _ | (simp_all; done))) fun E hE => ?_)
  refine Aw.sm tab_ok mb0 [] rfl rfl ?zo ?zk
  case zo =>
    repeat' apply AllP.cons
    all_goals first | exact trivial
  case zk =>
  refine Aw.seq ?_
  refine Aw.sm tab_ok mb0 [(2, [.int (askR s l)])] rfl rfl ?zo ?zk
  case zo =>
    repeat' apply AllP.cons
    all_goals first | exact trivial | exact Nat.le_of_ble_eq_true rfl | exact hck
  case zk =>
  refine Aw.sm tab_ok mb0 [] rfl rfl ?zo ?zk
  case zo =>
    repeat' apply AllP.cons
    all_goals first | exact trivial
  case zk =>
  cases hok : s.ok with
  | false =>
    have e : askR s l = 10 := by unfold askR; rw [hok]; rfl
    have e2 : CanR s l wrong hour = ([], 10) := by unfold CanR; rw [hok]; rfl
    rw [e, e2]
    refine Aw.cond rfl (fun _ => ?_) (fun h => absurd h (by decide))
    refine Aw.sm tab_ok mb0 [] rfl rfl ?zo ?zk
    case zo =>
      repeat' apply AllP.cons
      all_goals first | exact trivial
    case zk =>
    exact Aw.ret ⟨_, .cons (.tmp _) (.cons (.tmp _) .nil), rfl⟩
  | true =>
  cases hr : s.repsOk l with
  | false =>
    have e : askR s l = 11 := by unfold askR; rw [hok, hr]; rfl
    have e2 : CanR s l wrong hour = ([], 11) := by unfold CanR; rw [hok, hr]; rfl
    rw [e, e2]
    refine Aw.cond rfl (fun _ => ?_) (fun h => absurd h (by decide))
    refine Aw.sm tab_ok mb0 [] rfl rfl ?zo ?zk
    case zo =>
      repeat' apply AllP.cons
      all_goals first | exact trivial
    case zk =>
    exact Aw.ret ⟨_, .cons (.tmp _) (.cons (.tmp _) .nil), rfl⟩
  | true =>
  have e : askR s l = 0 := by unfold askR; rw [hok, hr]; rfl
  have e2 : CanR s l wrong hour = if askedB s wrong hour then (canF s l wrong hour, canE (canF s l wrong hour)) else ([], 7) := by unfold CanR; rw [hok, hr]; rfl
  have ho := Sea.ok_of hok
  have hrf := reps_fit hr
  have hp := hrs_pos ho
  have hm := ho.many
  have hmm : s.wide * s.high = s.many := rfl
  have hl24 : l.length ≤ 24 := by have := hrf.len; omega
  rw [e, e2]
  refine Aw.cond rfl (fun h => absurd h (by decide)) (fun _ => Aw.skip ?_)
  have i1 := in_t wrong 0 24
  have i2 := in_t hour 0 (s.hours - 1)
  have hab : askedB s wrong hour = cond (wi wrong 0 24) (wi hour 0 (s.hours - 1)) false := rfl
  have hai := asked_iff (s := s) (wrong := wrong) (hour := hour)
  generalize wi wrong 0 24 = w1 at *
  generalize wi hour 0 (s.hours - 1) = w2 at *
  refine Aw.seq ?_
  refine Aw.sm tab_ok mb0 [(1, [.bool w1]), (8, [.bool w2])] rfl rfl ?zo ?zk
  case zo =>
    repeat' apply AllP.cons
    all_goals first | exact trivial | exact id | exact fun _ => rfl | exact fun _ => Nat.le_of_ble_eq_true rfl | exact gq_f | exact i1 | exact fun _ => i2 | exact fun _ => (by simp only [Ob.of, inR]; omega)
  case zk =>
  refine Aw.cond rfl (fun h => ?_) (fun h => Aw.skip ?_)
  · have h : cond (!w1) true (!w2) = true := h
    have hno : askedB s wrong hour = false := by rw [hab]; cases w1 <;> cases w2 <;> simp_all
    rw [hno]
    refine Aw.sm tab_ok mb0 [] rfl rfl ?zo ?zk
    case zo =>
      repeat' apply AllP.cons
      all_goals first | exact trivial
    case zk =>
    exact Aw.ret ⟨_, .cons (.tmp _) (.cons (.tmp _) .nil), rfl⟩
  have h : cond (!w1) true (!w2) = false := h
  have hyes : askedB s wrong hour = true := by rw [hab]; cases w1 <;> cases w2 <;> simp_all
  rw [hyes]
  obtain ⟨g1, g2, g3⟩ := hai.1 hyes
  have hcan := rcan_is ho hl24 (wrong := wrong) (hour := hour) g1.2 g2 g3
  have hah := ahead_t s hf ho b l hrf
  have hbe := behind_t s hf ho b l hrf
  have fa := rows_free (f := fun h => aheR s l h) (n := hrs s)
  have fb := rows_free (f := fun h => behR s l (hrs s - 1 - h)) (n := hrs s)
  have ga := rows_get (f := fun h => outW (aheR s l h)) (n := hrs s) (k := hour.toNat) (by omega)
  have gb := rows_get (f := fun h => outW (behR s l (hrs s - 1 - h))) (n := hrs s) (k := hour.toNat) (by omega)
  have la := rows_lenI (f := fun h => outW (aheR s l h)) (n := hrs s)
  have lb := rows_lenI (f := fun h => outW (behR s l (hrs s - 1 - h))) (n := hrs s)
  generalize ((List.range (hrs s)).map fun h => [outW (aheR s l h)]) = RA at *
  generalize ((List.range (hrs s)).map fun h => [outW (behR s l (hrs s - 1 - h))]) = RB at *
  have ua : ∀ {m : Nat}, Under m (.sl false .any RA) := fa.under
  have ub : ∀ {m : Nat}, Under m (.sl false .any RB) := fb.under
  refine Aw.sd tab_ok mixed mb0 [(2, [.sl false .any RA]), (5, [.sl false .any RB])] rfl (by kernel_rfl) rfl rfl ?zo ?zk
  case zo =>
    repeat' apply AllP.cons
    all_goals first | exact trivial | exact Nat.le_of_ble_eq_true rfl | exact hah | exact hbe
  case zk =>
  refine Aw.sm tab_ok mb0 [] rfl rfl ?zo ?zk
  case zo =>
    repeat' apply AllP.cons
    all_goals first | exact trivial
  case zk =>
  refine Aw.seq ?_
  refine Aw.sm tab_ok mb0 [] rfl rfl ?zo ?zk
  case zo =>
    repeat' apply AllP.cons
    all_goals first | exact trivial
  case zk =>
  refine Aw.block (Aw.rounds 0 hE [(2, .int wrong), (3, .int hour), (4, .pt s.c), (11, .sl false .any RA), (12, .sl false .any RB)] (fun c : Nat => [(13, grL 3 (rcanK s l wrong hour.toNat c)), (14, .int c)]) (fun c => []) (fun c => c ≤ s.many.toNat) (fun c => s.many.toNat - c) 0 ?zg ⟨?zc, ?zv, ?zh, Nat.le_of_ble_eq_true rfl⟩ ?zu (fun c zhk => ?zw) (fun c zhk => ?zx) fun c hk => ?zr)
  case zg =>
    (repeat' (first | exact Nat.zero_le _ | exact Nat.le_refl _ | exact trivial | exact us | exact ua | exact ub | (refine And.intro ?_ ?_)))
  case zc =>
    (repeat' (first | (refine And.intro ?_ ?_) | exact trivial | exact A.Le.refl _ | exact rfl | exact us | exact ua | exact ub))
  case zv =>
    (repeat' (first | (refine And.intro ?_ ?_) | exact trivial | exact A.Le.refl _ | exact rfl | exact us | exact ua | exact ub))
  case zh =>
    (repeat' (first | (refine And.intro ?_ ?_) | exact trivial | exact A.Le.refl _ | exact rfl | exact us | exact ua | exact ub))
  case zu =>
    (repeat' (first | exact trivial | exact Under.s _ | exact Under.un | assumption | exact (free_ints _ _ _).under | exact Under.ref _ _ (by decide) | exact Under.ms _ _ _ (by decide) | exact Under.mp _ (by decide) | exact (Free.agg _ (by assumption)).under | exact (Free.pt _ (by assumption)).under | exact grL_under _ | exact outA_under _ | exact Nat.le_of_ble_eq_true rfl | exact (fun _ _ => rfl) | exact us | exact ua | exact ub | (refine And.intro ?_ ?_)))
  case zw =>
    (repeat' (first | exact trivial | exact Under.s _ | exact Under.un | assumption | exact (free_ints _ _ _).under | exact Under.ref _ _ (by decide) | exact Under.ms _ _ _ (by decide) | exact Under.mp _ (by decide) | exact (Free.agg _ (by assumption)).under | exact (Free.pt _ (by assumption)).under | exact grL_under _ | exact outA_under _ | exact Nat.le_of_ble_eq_true rfl | exact (fun _ _ => rfl) | exact us | exact ua | exact ub | (refine And.intro ?_ ?_)))
  case zx =>
    (repeat' (first | exact trivial | exact Under.s _ | exact Under.un | assumption | exact (free_ints _ _ _).under | exact Under.ref _ _ (by decide) | exact Under.ms _ _ _ (by decide) | exact Under.mp _ (by decide) | exact (Free.agg _ (by assumption)).under | exact (Free.pt _ (by assumption)).under | exact grL_under _ | exact outA_under _ | exact Nat.le_of_ble_eq_true rfl | exact (fun _ _ => rfl) | exact us | exact ua | exact ub | (refine And.intro ?_ ?_)))
  case zr =>
  refine Aw.seq ?_
  refine Aw.sm tab_ok mb0 [] rfl rfl ?zo ?zk
  case zo =>
    repeat' apply AllP.cons
    all_goals first | exact trivial | exact Nat.le_of_ble_eq_true rfl | exact (by simp only [Ob.of, inR]; omega)
  case zk =>
  refine Aw.cond rfl (fun h2 => Aw.skip ?_) (fun h2 => ?_)
  · have hlc : c < s.many.toNat := by have := of_decide_eq_true (show decide ((c : Int) < s.many) = true from h2); omega
    have hsu := rcanK_succ s l wrong hour.toNat c
    have hgl := rcanK_len s l wrong hour.toNat c
    have hrp : rcanP s l wrong hour.toNat c = decide ((aheR s l hour.toNat).getD c 0 + (behR s l (hrs s - 1 - hour.toNat)).getD c 0 ≤ wrong) := rfl
    have b1 := ahe_bd ho hl24 (h := hour.toNat) (c := c) (by omega) hlc
    have b2 := beh_bd ho hl24 (j := hrs s - 1 - hour.toNat) (c := c) (by omega) hlc
    have p1 := ints_at (l := aheR s l hour.toNat) (k := c) (by rw [aheR_len]; exact hlc)
    have p2 := ints_at (l := behR s l (hrs s - 1 - hour.toNat)) (k := c) (by rw [behR_len]; exact hlc)
    generalize (aheR s l hour.toNat).getD c 0 = va at *
    generalize (behR s l (hrs s - 1 - hour.toNat)).getD c 0 = vb at *
    generalize aheR s l hour.toNat = ra at *
    generalize behR s l (hrs s - 1 - hour.toNat) = rb at *
    generalize rcanK s l wrong hour.toNat c = N at *
    refine Aw.seq (Aw.block ?_)
    refine Aw.sd tab_ok mixed mb0 [(2, [outW ra]), (5, [.int va]), (9, [outW rb]), (12, [.int vb])] rfl (by kernel_rfl) rfl rfl ?zo ?zk
    case zo =>
      repeat' apply AllP.cons
      all_goals first | exact trivial | exact rfl | exact Nat.le_of_ble_eq_true rfl | exact Int.natCast_nonneg _ | exact ga | exact gb | exact p1 | exact p2 | exact g2 | exact (by simp only [Ob.of, inR]; omega)
    case zk =>
    refine Aw.cond rfl (fun h3 => ?_) (fun h3 => Aw.skip ?_)
    · have h3 : decide (va + vb ≤ wrong) = true := h3
      rw [hrp, h3, if_pos rfl] at hsu
      cases N with
      | nil =>
        refine Aw.em tab_ok mb0 [] rfl rfl ?zo ?zk
        case zo =>
          repeat' apply AllP.cons
          all_goals first | exact trivial | exact Nat.le_of_ble_eq_true rfl | exact (show ∀ z ∈ [] ++ [[A.int _]], z.length = 1 from fun z hz => by simp at hz; subst hz; rfl)
        case zk =>
        refine Aw.em tab_ok mb0 [] rfl rfl ?zo ?zk
        case zo =>
          repeat' apply AllP.cons
          all_goals first | exact trivial | exact (by simp only [Ob.of, inR]; omega)
        case zk =>
        refine ⟨c + 1, ?zg, ?zm, ⟨?zc, ?zv, ?zh, Nat.le_of_ble_eq_true rfl⟩⟩
        case zg =>
          (repeat' (first | assumption | omega | exact .of_eq (by rw [hsu]; rfl) | (refine And.intro ?_ ?_)))
        case zm =>
          (repeat' (first | omega | exact .of_eq (by rw [hsu]; rfl) | (refine And.intro ?_ ?_)))
        case zc =>
          (repeat' (first | (refine And.intro ?_ ?_) | exact trivial | exact A.Le.refl _ | exact rfl | exact .of_eq (by rw [hsu]; rfl)))
        case zv =>
          (repeat' (first | (refine And.intro ?_ ?_) | exact trivial | exact A.Le.refl _ | exact rfl | exact .of_eq (by rw [hsu]; rfl)))
        case zh =>
          (repeat' (first | (refine And.intro ?_ ?_) | exact trivial | exact A.Le.refl _ | exact rfl | exact .of_eq (by rw [hsu]; rfl)))
      | cons y N =>
        have hz : ∀ z ∈ ints (y :: N), z.length = 1 := fun z hz => by obtain ⟨i, _, rfl⟩ := List.mem_map.1 hz; rfl
        have hl2 : (ints (y :: N)).length ≤ c := by simp only [ints, List.length_map]; exact hgl
        refine Aw.em tab_ok mb0 [] rfl rfl ?zo ?zk
        case zo =>
          repeat' apply AllP.cons
          all_goals first | exact trivial | exact Nat.le_of_ble_eq_true rfl | exact (show ∀ z ∈ [[A.int _]], z.length = 1 from fun z hz => by simp at hz; subst hz; rfl) | exact hz | exact (show ((ints (y :: N)).length + 1) * 8 ≤ 140737488355328 by omega) | exact (show (ints (y :: N)).length + 1 ≤ maxLen by unfold maxLen; omega)
        case zk =>
        refine Aw.em tab_ok mb0 [] rfl rfl ?zo ?zk
        case zo =>
          repeat' apply AllP.cons
          all_goals first | exact trivial | exact (by simp only [Ob.of, inR]; omega)
        case zk =>
        refine ⟨c + 1, ?zg, ?zm, ⟨?zc, ?zv, ?zh, Nat.le_of_ble_eq_true rfl⟩⟩
        case zg =>
          (repeat' (first | assumption | omega | exact .of_eq (hsu ▸ (show grL 3 ((y :: N) ++ [(c : Int)]) = A.sl false (.own 3) (ints (y :: N) ++ [[A.int c]]) by simp [grL, ints])) | (refine And.intro ?_ ?_)))
        case zm =>
          (repeat' (first | omega | exact .of_eq (hsu ▸ (show grL 3 ((y :: N) ++ [(c : Int)]) = A.sl false (.own 3) (ints (y :: N) ++ [[A.int c]]) by simp [grL, ints])) | (refine And.intro ?_ ?_)))
        case zc =>
          (repeat' (first | (refine And.intro ?_ ?_) | exact trivial | exact A.Le.refl _ | exact rfl | exact .of_eq (hsu ▸ (show grL 3 ((y :: N) ++ [(c : Int)]) = A.sl false (.own 3) (ints (y :: N) ++ [[A.int c]]) by simp [grL, ints]))))
        case zv =>
          (repeat' (first | (refine And.intro ?_ ?_) | exact trivial | exact A.Le.refl _ | exact rfl | exact .of_eq (hsu ▸ (show grL 3 ((y :: N) ++ [(c : Int)]) = A.sl false (.own 3) (ints (y :: N) ++ [[A.int c]]) by simp [grL, ints]))))
        case zh =>
          (repeat' (first | (refine And.intro ?_ ?_) | exact trivial | exact A.Le.refl _ | exact rfl | exact .of_eq (hsu ▸ (show grL 3 ((y :: N) ++ [(c : Int)]) = A.sl false (.own 3) (ints (y :: N) ++ [[A.int c]]) by simp [grL, ints]))))
    · have h3 : decide (va + vb ≤ wrong) = false := h3
      rw [hrp, h3, if_neg (by decide)] at hsu
      refine Aw.em tab_ok mb0 [] rfl rfl ?zo ?zk
      case zo =>
        repeat' apply AllP.cons
        all_goals first | exact trivial | exact (by simp only [Ob.of, inR]; omega)
      case zk =>
      refine ⟨c + 1, ?zg, ?zm, ⟨?zc, ?zv, ?zh, Nat.le_of_ble_eq_true rfl⟩⟩
      case zg =>
        (repeat' (first | assumption | omega | exact .of_eq (by rw [hsu]; rfl) | (refine And.intro ?_ ?_)))
      case zm =>
        (repeat' (first | omega | exact .of_eq (by rw [hsu]; rfl) | (refine And.intro ?_ ?_)))
      case zc =>
        (repeat' (first | (refine And.intro ?_ ?_) | exact trivial | exact A.Le.refl _ | exact rfl | exact .of_eq (by rw [hsu]; rfl)))
      case zv =>
        (repeat' (first | (refine And.intro ?_ ?_) | exact trivial | exact A.Le.refl _ | exact rfl | exact .of_eq (by rw [hsu]; rfl)))
      case zh =>
        (repeat' (first | (refine And.intro ?_ ?_) | exact trivial | exact A.Le.refl _ | exact rfl | exact .of_eq (by rw [hsu]; rfl)))
  have hce : c = s.many.toNat := by have := of_decide_eq_false (show decide ((c : Int) < s.many) = false from h2); omega
  subst hce
  refine Aw.exit2 ?_
  rw [hcan]
  generalize canF s l wrong hour = G at *
  refine Aw.seq ?_
  cases G with
  | nil =>
    refine Aw.sm tab_ok mb0 [] rfl rfl ?zo ?zk
    case zo =>
      repeat' apply AllP.cons
      all_goals first | exact trivial
    case zk =>
    refine Aw.cond rfl (fun _ => ?_) (fun h => absurd h (by decide))
    refine Aw.sm tab_ok mb0 [] rfl rfl ?zo ?zk
    case zo =>
      repeat' apply AllP.cons
      all_goals first | exact trivial
    case zk =>
    exact Aw.ret ⟨_, .cons (.tmp _) (.cons (.tmp _) .nil), rfl⟩
  | cons y G =>
    refine Aw.sm tab_ok mb0 [] rfl rfl ?zo ?zk
    case zo =>
      repeat' apply AllP.cons
      all_goals first | exact trivial
    case zk =>
    refine Aw.cond rfl (fun h => ?_) (fun _ => Aw.skip ?_)
    · have h := of_decide_eq_true (show decide (((ints (y :: G)).length : Int) = 0) = true from h)
      simp [ints] at h; omega
    refine Aw.sm tab_ok mb0 [] rfl rfl ?zo ?zk
    case zo =>
      repeat' apply AllP.cons
      all_goals first | exact trivial
    case zk =>
    exact Aw.ret ⟨_, .cons (.tmp _) (.cons (.tmp _) .nil), rfl⟩
theorem rCan_t (s : Sea) (hf : SeaFit s) (b : Bool) (l : List Rep) (hl : (l.length : Int) ≤ 9223372036854775806) (wrong hour : Int) :
    Ans Try.prog 25 [.agg s.c, .sl b .any (l.map Rep.c), .int wrong, .int hour] (.tup [outW (CanR s l wrong hour).1, .int (CanR s l wrong hour).2]) := Ans_out (rCan_a s hf b l hl wrong hour) (leT2 (outA_le _) (.refl _))
theorem tI_snoc (t : List Nat) (c : Nat) : tI (t ++ [c]) = tI t ++ [(c : Int)] := by simp [tI]
def trk01 (t : List Nat) (c0 c : Nat) : List Nat := if c ≤ c0 then t else t ++ [c0]
theorem trk01_next {t : List Nat} {c0 c : Nat} (h : c = c0) : outW (tI (trk01 t c0 (c + 1))) = A.sl false .any (ints (tI t ++ [(c : Int)])) := by
  subst h
  unfold trk01; rw [if_neg (by omega), tI_snoc]
  cases tI t <;> rfl
theorem gz {q : Bool} (h : cond (gq q true) (gq (((0 : Nat) : Int) == 0) false) false = true) : False := by cases q <;> cases h
set_option maxRecDepth 20000 in
set_option maxHeartbeats 1000000 in
theorem rLeast_a (s : Sea) (hf : SeaFit s) (b : Bool) (l : List Rep) (hl : (l.length : Int) ≤ 9223372036854775806) :
    Ans Try.prog 21 [.agg s.c, .sl b .any (l.map Rep.c)] (.tup [.int (LeastR s l).1, outW (LeastR s l).2.1, .int (LeastR s l).2.2]) := by
  have hfr : Free (.tup [.int (LeastR s l).1, outW (LeastR s l).2.1, .int (LeastR s l).2.2]) := .tup _ (allC (.s _) (allC (outW_free _) (all1 (.s _))))
  have hfr2 : Free (.tup [.int (LeastR s l).1, outA (LeastR s l).2.1, .int (LeastR s l).2.2]) := .tup _ (allC (.s _) (allC (outA_free _) (all1 (.s _))))
  have us : ∀ {m : Nat}, Under m (A.pt s.c) := (Free.pt _ s.free).under
  have ul : ∀ {m : Nat}, Under m (.sl b .any (l.map Rep.c)) := (free_map Rep.free _ _ _).under
  have hck := asked_r s hf b l hl
  cases hok : s.ok with
  | false =>
    have e : askR s l = 10 := by unfold askR; rw [hok]; rfl
    have e2 : LeastR s l = (0, [], 10) := by unfold LeastR; rw [hok]; rfl
    rw [e] at hck
    rw [e2] at hfr2 ⊢
    refine Ans_out (v := .tup [.int 0, outA [], .int 10]) ?_ (leT3 (.refl _) (outA_le _) (.refl _))
    refine told Try.func21 rfl rfl (Pure.of tab_ok Try.func21 rfl Try.ntmps21 rfl (allC (.agg _ s.free) (all1 (free_map Rep.free _ _ _))) (allC (fun _ => rfl) (all1 (fun _ => rfl))) (by first | exact .s _ | assumption | exact .tup _ (by intro x hx; simp only [List.mem_cons, List.not_mem_nil, or_false] at hx; rcases hx with rfl | rfl | rfl | rfl <;> first | exact .s _ | (simp_all; done))) fun E hE => ?_)
    refine Aw.sm tab_ok mb0 [] rfl rfl ?zo ?zk
    case zo =>
      repeat' apply AllP.cons
      all_goals first | exact trivial
    case zk =>
    refine Aw.seq ?_
    refine Aw.sm tab_ok mb0 [(2, [.int 10])] rfl rfl ?zo ?zk
    case zo =>
      repeat' apply AllP.cons
      all_goals first | exact trivial | exact Nat.le_of_ble_eq_true rfl | exact hck
    case zk =>
    refine Aw.sm tab_ok mb0 [] rfl rfl ?zo ?zk
    case zo =>
      repeat' apply AllP.cons
      all_goals first | exact trivial
    case zk =>
    refine Aw.cond rfl (fun _ => ?_) (fun h => absurd h (by decide))
    refine Aw.sm tab_ok mb0 [] rfl rfl ?zo ?zk
    case zo =>
      repeat' apply AllP.cons
      all_goals first | exact trivial
    case zk =>
    exact Aw.ret ⟨_, .cons (.tmp _) (.cons (.tmp _) (.cons (.tmp _) .nil)), rfl⟩
  | true =>
  cases hr : s.repsOk l with
  | false =>
    have e : askR s l = 11 := by unfold askR; rw [hok, hr]; rfl
    have e2 : LeastR s l = (0, [], 11) := by unfold LeastR; rw [hok, hr]; rfl
    rw [e] at hck
    rw [e2] at hfr2 ⊢
    refine Ans_out (v := .tup [.int 0, outA [], .int 11]) ?_ (leT3 (.refl _) (outA_le _) (.refl _))
    refine told Try.func21 rfl rfl (Pure.of tab_ok Try.func21 rfl Try.ntmps21 rfl (allC (.agg _ s.free) (all1 (free_map Rep.free _ _ _))) (allC (fun _ => rfl) (all1 (fun _ => rfl))) (by first | exact .s _ | assumption | exact .tup _ (by intro x hx; simp only [List.mem_cons, List.not_mem_nil, or_false] at hx; rcases hx with rfl | rfl | rfl | rfl <;> first | exact .s _ | (simp_all; done))) fun E hE => ?_)
    refine Aw.sm tab_ok mb0 [] rfl rfl ?zo ?zk
    case zo =>
      repeat' apply AllP.cons
      all_goals first | exact trivial
    case zk =>
    refine Aw.seq ?_
    refine Aw.sm tab_ok mb0 [(2, [.int 11])] rfl rfl ?zo ?zk
    case zo =>
      repeat' apply AllP.cons
      all_goals first | exact trivial | exact Nat.le_of_ble_eq_true rfl | exact hck
    case zk =>
    refine Aw.sm tab_ok mb0 [] rfl rfl ?zo ?zk
    case zo =>
      repeat' apply AllP.cons
      all_goals first | exact trivial
    case zk =>
    refine Aw.cond rfl (fun _ => ?_) (fun h => absurd h (by decide))
    refine Aw.sm tab_ok mb0 [] rfl rfl ?zo ?zk
    case zo =>
      repeat' apply AllP.cons
      all_goals first | exact trivial
    case zk =>
    exact Aw.ret ⟨_, .cons (.tmp _) (.cons (.tmp _) (.cons (.tmp _) .nil)), rfl⟩
  | true =>
  have e : askR s l = 0 := by unfold askR; rw [hok, hr]; rfl
  rw [e] at hck
  have ho := Sea.ok_of hok
  have hrf := reps_fit hr
  have hp := hrs_pos ho
  have hdl := ho.dl
  have hm := ho.many
  have hl24 : l.length ≤ 24 := by have := hrf.len; omega
  have hbe := behind_t s hf ho b l hrf
  have fb := rows_free (f := fun h => behR s l (hrs s - 1 - h)) (n := hrs s)
  have gb := fun k (h : k < hrs s) => rows_get (f := fun h => outW (behR s l (hrs s - 1 - h))) (n := hrs s) (k := k) h
  have lb := rows_lenI (f := fun h => outW (behR s l (hrs s - 1 - h))) (n := hrs s)
  generalize ((List.range (hrs s)).map fun h => [outW (behR s l (hrs s - 1 - h))]) = RB at *
  have ub : ∀ {m : Nat}, Under m (.sl false .any RB) := fb.under
  have hlst := lst_is ho hl24
  have g0 : RB[Int.toNat 0]? = some [outW (behR s l (hrs s - 1))] := by have := gb 0 hp.1; rwa [Nat.sub_zero] at this
  have hl0 : (ints (behR s l (hrs s - 1))).length = s.many.toNat := by simp [ints, behR_len]
  have hfr3 : Free (.tup [.int (LeastR s l).1, .sl (LeastR s l).2.1.isEmpty .any (ints (LeastR s l).2.1), .int (LeastR s l).2.2]) := hfr
  by_cases hfw : fewF s l < 1048576
  · have hl1 : lstK s l s.many.toNat = fewF s l := by rcases hlst with h | h; exact h.2.1; exact absurd hfw h.1
    have hfb := few_288 ho hl24 hfw
    have hI := trkN_inv ho hl24 hfw
    have hS := fun h hh => sel_succ ho hl24 (hI h (Nat.le_of_lt hh)) hh
    rw [LeastR_ok hok hr hfw] at hfr3 ⊢
    refine told Try.func21 rfl rfl (Pure.of tab_ok Try.func21 rfl Try.ntmps21 rfl (allC (.agg _ s.free) (all1 (free_map Rep.free _ _ _))) (allC (fun _ => rfl) (all1 (fun _ => rfl))) (by first | exact .s _ | assumption | exact .tup _ (by intro x hx; simp only [List.mem_cons, List.not_mem_nil, or_false] at hx; rcases hx with rfl | rfl | rfl | rfl <;> first | exact .s _ | (simp_all; done))) fun E hE => ?_)
    refine Aw.sm tab_ok mb0 [] rfl rfl ?zo ?zk
    case zo =>
      repeat' apply AllP.cons
      all_goals first | exact trivial
    case zk =>
    refine Aw.seq ?_
    refine Aw.sm tab_ok mb0 [(2, [.int 0])] rfl rfl ?zo ?zk
    case zo =>
      repeat' apply AllP.cons
      all_goals first | exact trivial | exact Nat.le_of_ble_eq_true rfl | exact hck
    case zk =>
    refine Aw.sm tab_ok mb0 [] rfl rfl ?zo ?zk
    case zo =>
      repeat' apply AllP.cons
      all_goals first | exact trivial
    case zk =>
    refine Aw.cond rfl (fun h => absurd h (by decide)) (fun _ => Aw.skip ?_)
    refine Aw.sm tab_ok mb0 [(2, [.sl false .any RB])] rfl rfl ?zo ?zk
    case zo =>
      repeat' apply AllP.cons
      all_goals first | exact trivial | exact Nat.le_of_ble_eq_true rfl | exact hbe
    case zk =>
    refine Aw.sm tab_ok mb0 [] rfl rfl ?zo ?zk
    case zo =>
      repeat' apply AllP.cons
      all_goals first | exact trivial
    case zk =>
    refine Aw.seq ?_
    refine Aw.sm tab_ok mb0 [] rfl rfl ?zo ?zk
    case zo =>
      repeat' apply AllP.cons
      all_goals first | exact trivial
    case zk =>
    refine Aw.block (Aw.rounds 0 hE [(1, .sl b .any (l.map Rep.c)), (2, .pt s.c), (8, .sl false .any RB)] (fun c : Nat => [(9, .int (lstK s l c)), (10, .int c)]) (fun c => []) (fun c => c ≤ s.many.toNat) (fun c => s.many.toNat - c) 0 ?zg ⟨?zc, ?zv, ?zh, Nat.le_of_ble_eq_true rfl⟩ ?zu (fun c zhk => ?zw) (fun c zhk => ?zx) fun c hk => ?zr)
    case zg =>
      (repeat' (first | exact Nat.zero_le _ | exact Nat.le_refl _ | exact trivial | exact us | exact ul | exact ub | (refine And.intro ?_ ?_)))
    case zc =>
      (repeat' (first | (refine And.intro ?_ ?_) | exact trivial | exact A.Le.refl _ | exact rfl | exact us | exact ul | exact ub))
    case zv =>
      (repeat' (first | (refine And.intro ?_ ?_) | exact trivial | exact A.Le.refl _ | exact rfl | exact us | exact ul | exact ub))
    case zh =>
      (repeat' (first | (refine And.intro ?_ ?_) | exact trivial | exact A.Le.refl _ | exact rfl | exact us | exact ul | exact ub))
    case zu =>
      (repeat' (first | exact trivial | exact Under.s _ | exact Under.un | assumption | exact (free_ints _ _ _).under | exact Under.ref _ _ (by decide) | exact Under.ms _ _ _ (by decide) | exact Under.mp _ (by decide) | exact (Free.agg _ (by assumption)).under | exact (Free.pt _ (by assumption)).under | exact grL_under _ | exact outA_under _ | exact Nat.le_of_ble_eq_true rfl | exact (fun _ _ => rfl) | exact us | exact ul | exact ub | (refine And.intro ?_ ?_)))
    case zw =>
      (repeat' (first | exact trivial | exact Under.s _ | exact Under.un | assumption | exact (free_ints _ _ _).under | exact Under.ref _ _ (by decide) | exact Under.ms _ _ _ (by decide) | exact Under.mp _ (by decide) | exact (Free.agg _ (by assumption)).under | exact (Free.pt _ (by assumption)).under | exact grL_under _ | exact outA_under _ | exact Nat.le_of_ble_eq_true rfl | exact (fun _ _ => rfl) | exact us | exact ul | exact ub | (refine And.intro ?_ ?_)))
    case zx =>
      (repeat' (first | exact trivial | exact Under.s _ | exact Under.un | assumption | exact (free_ints _ _ _).under | exact Under.ref _ _ (by decide) | exact Under.ms _ _ _ (by decide) | exact Under.mp _ (by decide) | exact (Free.agg _ (by assumption)).under | exact (Free.pt _ (by assumption)).under | exact grL_under _ | exact outA_under _ | exact Nat.le_of_ble_eq_true rfl | exact (fun _ _ => rfl) | exact us | exact ul | exact ub | (refine And.intro ?_ ?_)))
    case zr =>
    refine Aw.seq ?_
    refine Aw.sm tab_ok mb0 [(2, [outW (behR s l (hrs s - 1))])] rfl rfl ?zo ?zk
    case zo =>
      repeat' apply AllP.cons
      all_goals first | exact trivial | exact rfl | exact Nat.le_of_ble_eq_true rfl | exact Int.natCast_nonneg _ | exact g0
    case zk =>
    refine Aw.cond rfl (fun h2 => Aw.skip ?_) (fun h2 => ?_)
    · have hlc : c < s.many.toNat := by have := of_decide_eq_true (show decide ((c : Int) < ((ints (behR s l (hrs s - 1))).length : Int)) = true from h2); omega
      have hsu := lstK_succ s l c
      have p2 := ints_at (l := behR s l (hrs s - 1)) (k := c) (by rw [behR_len]; exact hlc)
      generalize (behR s l (hrs s - 1)).getD c 0 = vb at *
      generalize behR s l (hrs s - 1) = rb at *
      generalize lstK s l c = bst at *
      refine Aw.seq (Aw.block ?_)
      refine Aw.em tab_ok mb0 [(2, [outW rb]), (5, [.int vb])] rfl rfl ?zo ?zk
      case zo =>
        repeat' apply AllP.cons
        all_goals first | exact trivial | exact rfl | exact Nat.le_of_ble_eq_true rfl | exact Int.natCast_nonneg _ | exact g0 | exact p2
      case zk =>
      refine Aw.em tab_ok mb0 [] rfl rfl ?zo ?zk
      case zo =>
        repeat' apply AllP.cons
        all_goals first | exact trivial | exact (by simp only [Ob.of, inR]; omega)
      case zk =>
      refine ⟨c + 1, ?zg, ?zm, ⟨?zc, ?zv, ?zh, Nat.le_of_ble_eq_true rfl⟩⟩
      case zg =>
        (repeat' (first | assumption | omega | exact .of_eq (congrArg A.int hsu) | (refine And.intro ?_ ?_)))
      case zm =>
        (repeat' (first | omega | exact .of_eq (congrArg A.int hsu) | (refine And.intro ?_ ?_)))
      case zc =>
        (repeat' (first | (refine And.intro ?_ ?_) | exact trivial | exact A.Le.refl _ | exact rfl | exact .of_eq (congrArg A.int hsu)))
      case zv =>
        (repeat' (first | (refine And.intro ?_ ?_) | exact trivial | exact A.Le.refl _ | exact rfl | exact .of_eq (congrArg A.int hsu)))
      case zh =>
        (repeat' (first | (refine And.intro ?_ ?_) | exact trivial | exact A.Le.refl _ | exact rfl | exact .of_eq (congrArg A.int hsu)))
    have hce : c = s.many.toNat := by have := of_decide_eq_false (show decide ((c : Int) < ((ints (behR s l (hrs s - 1))).length : Int)) = false from h2); omega
    subst hce
    refine Aw.exit2 ?_
    rw [hl1]
    have hT0 : trkN s l (fewF s l) 0 = ([], fewF s l) := rfl
    generalize hfe : fewF s l = fw at *
    refine Aw.seq ?_
    refine Aw.sm tab_ok mb0 [] rfl rfl ?zo ?zk
    case zo =>
      repeat' apply AllP.cons
      all_goals first | exact trivial
    case zk =>
    refine Aw.cond rfl (fun h => ?_) (fun _ => Aw.skip ?_)
    · have h := eq_of_beq (show (fw == (1000 : Int)) = true from h); omega
    refine Aw.sm tab_ok mb0 [] rfl rfl ?zo ?zk
    case zo =>
      repeat' apply AllP.cons
      all_goals first | exact trivial
    case zk =>
    refine Aw.sm tab_ok mb0 [] rfl rfl ?zo ?zk
    case zo =>
      repeat' apply AllP.cons
      all_goals first | exact trivial
    case zk =>
    refine Aw.seq ?_
    refine Aw.sm tab_ok mb0 [] rfl rfl ?zo ?zk
    case zo =>
      repeat' apply AllP.cons
      all_goals first | exact trivial
    case zk =>
    refine Aw.block (Aw.rounds 0 hE [(1, .sl b .any (l.map Rep.c)), (2, .pt s.c), (8, .sl false .any RB), (9, .int fw)] (fun h : Nat => [(11, outW (tI (trkN s l fw h).1)), (12, .int (trkN s l fw h).2), (13, .int h)]) (fun h => []) (fun h => h ≤ hrs s) (fun h => hrs s - h) 0 ?zg ⟨?zc, ?zv, ?zh, Nat.le_of_ble_eq_true rfl⟩ ?zu (fun h zhk => ?zw) (fun h zhk => ?zx) fun h hk => ?zr)
    case zg =>
      (repeat' (first | exact Nat.zero_le _ | exact Nat.le_refl _ | exact trivial | exact us | exact ul | exact ub | exact .any _ _ _ | exact (outW_free _).under | (refine And.intro ?_ ?_)))
    case zc =>
      (repeat' (first | (refine And.intro ?_ ?_) | exact trivial | exact A.Le.refl _ | exact rfl | exact us | exact ul | exact ub | exact .any _ _ _ | exact (outW_free _).under))
    case zv =>
      (repeat' (first | (refine And.intro ?_ ?_) | exact trivial | exact A.Le.refl _ | exact rfl | exact us | exact ul | exact ub | exact .any _ _ _ | exact (outW_free _).under))
    case zh =>
      (repeat' (first | (refine And.intro ?_ ?_) | exact trivial | exact A.Le.refl _ | exact rfl | exact us | exact ul | exact ub | exact .any _ _ _ | exact (outW_free _).under))
    case zu =>
      (repeat' (first | exact trivial | exact Under.s _ | exact Under.un | assumption | exact (free_ints _ _ _).under | exact Under.ref _ _ (by decide) | exact Under.ms _ _ _ (by decide) | exact Under.mp _ (by decide) | exact (Free.agg _ (by assumption)).under | exact (Free.pt _ (by assumption)).under | exact grL_under _ | exact outA_under _ | exact Nat.le_of_ble_eq_true rfl | exact (fun _ _ => rfl) | exact us | exact ul | exact ub | exact .any _ _ _ | exact (outW_free _).under | (refine And.intro ?_ ?_)))
    case zw =>
      (repeat' (first | exact trivial | exact Under.s _ | exact Under.un | assumption | exact (free_ints _ _ _).under | exact Under.ref _ _ (by decide) | exact Under.ms _ _ _ (by decide) | exact Under.mp _ (by decide) | exact (Free.agg _ (by assumption)).under | exact (Free.pt _ (by assumption)).under | exact grL_under _ | exact outA_under _ | exact Nat.le_of_ble_eq_true rfl | exact (fun _ _ => rfl) | exact us | exact ul | exact ub | exact .any _ _ _ | exact (outW_free _).under | (refine And.intro ?_ ?_)))
    case zx =>
      (repeat' (first | exact trivial | exact Under.s _ | exact Under.un | assumption | exact (free_ints _ _ _).under | exact Under.ref _ _ (by decide) | exact Under.ms _ _ _ (by decide) | exact Under.mp _ (by decide) | exact (Free.agg _ (by assumption)).under | exact (Free.pt _ (by assumption)).under | exact grL_under _ | exact outA_under _ | exact Nat.le_of_ble_eq_true rfl | exact (fun _ _ => rfl) | exact us | exact ul | exact ub | exact .any _ _ _ | exact (outW_free _).under | (refine And.intro ?_ ?_)))
    case zr =>
    refine Aw.seq ?_
    refine Aw.sm tab_ok mb0 [] rfl rfl ?zo ?zk
    case zo =>
      repeat' apply AllP.cons
      all_goals first | exact trivial | exact Nat.le_of_ble_eq_true rfl
    case zk =>
    refine Aw.cond rfl (fun h2 => Aw.skip ?_) (fun h2 => ?_)
    · have hlh : h < hrs s := by have := of_decide_eq_true (show decide ((h : Int) < s.hours) = true from h2); omega
      have hIh := hI h (by omega)
      obtain ⟨c0, hf0, hcm, hI1⟩ := hS h hlh
      have hbd := hIh.bd
      have htl := hIh.len
      have htok := hIh.ok
      obtain ⟨q1, q2, q3⟩ := rfind_is ho hl24 hlh hbd.2 hf0
      have e1 : trkN s l fw (h + 1) = ((trkN s l fw h).1 ++ [c0], (trkN s l fw h).2 - untrueF s.wide l h (placeP s.wide c0)) := by rw [trkN, hf0]
      have gh := gb h hlh
      have hr80 : ∀ c, c < s.many.toNat → (ints (behR s l (hrs s - 1 - h)))[c]? = some [.int ((behR s l (hrs s - 1 - h)).getD c 0)] := fun c hc => ints_at (by rw [behR_len]; exact hc)
      have hrp : ∀ c, rselP s l h (trkN s l fw h).1 (trkN s l fw h).2 c = cond ((behR s l (hrs s - 1 - h)).getD c 0 == (trkN s l fw h).2) (h == 0 || stp s (h - 1) ((trkN s l fw h).1.getD (h - 1) 0) c) false := fun c => by
        unfold rselP; cases ((behR s l (hrs s - 1 - h)).getD c 0 == (trkN s l fw h).2) <;> rfl
      generalize hte : trkN s l fw h = tp at *
      obtain ⟨t, left⟩ := tp
      simp only at hrp q2 q3 e1 htl htok hbd
      generalize behR s l (hrs s - 1 - h) = rb at *
      refine Aw.seq (Aw.block ?_)
      refine Aw.seq ?_
      refine Aw.sm tab_ok mb0 [] rfl rfl ?zo ?zk
      case zo =>
        repeat' apply AllP.cons
        all_goals first | exact trivial
      case zk =>
      refine Aw.block (Aw.rounds 0 hE [(1, .sl b .any (l.map Rep.c)), (2, .pt s.c), (8, .sl false .any RB), (9, .int fw), (12, .int left), (13, .int h)] (fun c : Nat => [(11, outW (tI (trk01 t c0 c))), (14, .int c)]) (fun c => []) (fun c => c ≤ c0 + 1) (fun c => c0 + 1 - c) 0 ?zg ⟨?zc, ?zv, ?zh, Nat.le_of_ble_eq_true rfl⟩ ?zu (fun c zhk => ?zw) (fun c zhk => ?zx) fun c hk => ?zr)
      case zg =>
        (repeat' (first | exact Nat.zero_le _ | exact Nat.le_refl _ | exact trivial | exact us | exact ul | exact ub | exact (outW_free _).under | exact .of_eq (by unfold trk01; rw [if_pos (Nat.zero_le _)]) | (refine And.intro ?_ ?_)))
      case zc =>
        (repeat' (first | (refine And.intro ?_ ?_) | exact trivial | exact A.Le.refl _ | exact rfl | exact us | exact ul | exact ub | exact (outW_free _).under | exact .of_eq (by unfold trk01; rw [if_pos (Nat.zero_le _)])))
      case zv =>
        (repeat' (first | (refine And.intro ?_ ?_) | exact trivial | exact A.Le.refl _ | exact rfl | exact us | exact ul | exact ub | exact (outW_free _).under | exact .of_eq (by unfold trk01; rw [if_pos (Nat.zero_le _)])))
      case zh =>
        (repeat' (first | (refine And.intro ?_ ?_) | exact trivial | exact A.Le.refl _ | exact rfl | exact us | exact ul | exact ub | exact (outW_free _).under | exact .of_eq (by unfold trk01; rw [if_pos (Nat.zero_le _)])))
      case zu =>
        (repeat' (first | exact trivial | exact Under.s _ | exact Under.un | assumption | exact (free_ints _ _ _).under | exact Under.ref _ _ (by decide) | exact Under.ms _ _ _ (by decide) | exact Under.mp _ (by decide) | exact (Free.agg _ (by assumption)).under | exact (Free.pt _ (by assumption)).under | exact grL_under _ | exact outA_under _ | exact Nat.le_of_ble_eq_true rfl | exact (fun _ _ => rfl) | exact us | exact ul | exact ub | exact (outW_free _).under | exact .of_eq (by unfold trk01; rw [if_pos (Nat.zero_le _)]) | (refine And.intro ?_ ?_)))
      case zw =>
        (repeat' (first | exact trivial | exact Under.s _ | exact Under.un | assumption | exact (free_ints _ _ _).under | exact Under.ref _ _ (by decide) | exact Under.ms _ _ _ (by decide) | exact Under.mp _ (by decide) | exact (Free.agg _ (by assumption)).under | exact (Free.pt _ (by assumption)).under | exact grL_under _ | exact outA_under _ | exact Nat.le_of_ble_eq_true rfl | exact (fun _ _ => rfl) | exact us | exact ul | exact ub | exact (outW_free _).under | exact .of_eq (by unfold trk01; rw [if_pos (Nat.zero_le _)]) | (refine And.intro ?_ ?_)))
      case zx =>
        (repeat' (first | exact trivial | exact Under.s _ | exact Under.un | assumption | exact (free_ints _ _ _).under | exact Under.ref _ _ (by decide) | exact Under.ms _ _ _ (by decide) | exact Under.mp _ (by decide) | exact (Free.agg _ (by assumption)).under | exact (Free.pt _ (by assumption)).under | exact grL_under _ | exact outA_under _ | exact Nat.le_of_ble_eq_true rfl | exact (fun _ _ => rfl) | exact us | exact ul | exact ub | exact (outW_free _).under | exact .of_eq (by unfold trk01; rw [if_pos (Nat.zero_le _)]) | (refine And.intro ?_ ?_)))
      case zr =>
      refine Aw.seq ?_
      refine Aw.sm tab_ok mb0 [] rfl rfl ?zo ?zk
      case zo =>
        repeat' apply AllP.cons
        all_goals first | exact trivial
      case zk =>
      have lt1 : ((ints (tI (trk01 t c0 c))).length : Int) = if c ≤ c0 then (h : Int) else h + 1 := by
        rw [ints_lenI, tI_len]; unfold trk01; split
        · omega
        · rw [List.length_append]; simp; omega
      refine Aw.cond rfl (fun h3 => Aw.skip ?_) (fun h3 => ?_)
      · have h3 : (((ints (tI (trk01 t c0 c))).length : Int) == (h : Int)) = true := h3
        have hlc : c ≤ c0 := by
          have h4 := eq_of_beq h3
          rw [lt1] at h4; split at h4
          · assumption
          · omega
        rw [show trk01 t c0 c = t from if_pos hlc]
        have hgv := hr80 c (by omega)
        have hrpc := hrp c
        have hq3 := q3 c
        generalize rb.getD c 0 = vb at *
        have hpl := plus_t (tI t).isEmpty (tI t) c (by rw [tI_len]; omega)
        refine Aw.seq (Aw.block ?_)
        cases h with
        | zero =>
          have hrpc : rselP s l 0 t left c = cond (vb == left) true false := hrpc
          refine Aw.sd tab_ok mixed mb0 [(2, [outW rb]), (5, [.int vb]), (19, [.int 0]), (22, [.bool false])] rfl (by kernel_rfl) rfl rfl ?zo ?zk
          case zo =>
            repeat' apply AllP.cons
            all_goals first | exact trivial | exact id | exact rfl | exact fun _ => rfl | exact Nat.le_of_ble_eq_true rfl | exact fun _ => Nat.le_of_ble_eq_true rfl | exact Int.natCast_nonneg _ | exact gq_c | exact fun _ _ => rfl | exact gh | exact hgv | exact fun h => (gz h).elim
          case zk =>
          refine Aw.cond rfl (fun h5 => ?_) (fun h5 => Aw.skip ?_)
          · have h5 : cond (vb == left) true false = true := h5
            have hce : c = c0 := by
              rcases Nat.lt_or_ge c c0 with h6 | h6
              · have := hq3 h6; rw [hrpc, h5] at this; cases this
              · omega
            refine Aw.em tab_ok mb0 [(2, [.sl false .any (ints (tI t ++ [(c : Int)]))])] rfl rfl ?zo ?zk
            case zo =>
              repeat' apply AllP.cons
              all_goals first | exact trivial | exact hpl
            case zk =>
            refine Aw.em tab_ok mb0 [] rfl rfl ?zo ?zk
            case zo =>
              repeat' apply AllP.cons
              all_goals first | exact trivial | exact (by simp only [Ob.of, inR]; omega)
            case zk =>
            refine ⟨c + 1, ?zg, ?zm, ⟨?zc, ?zv, ?zh, Nat.le_of_ble_eq_true rfl⟩⟩
            case zg =>
              (repeat' (first | assumption | omega | exact .of_eq (trk01_next hce) | (refine And.intro ?_ ?_)))
            case zm =>
              (repeat' (first | omega | exact .of_eq (trk01_next hce) | (refine And.intro ?_ ?_)))
            case zc =>
              (repeat' (first | (refine And.intro ?_ ?_) | exact trivial | exact A.Le.refl _ | exact rfl | exact .of_eq (trk01_next hce)))
            case zv =>
              (repeat' (first | (refine And.intro ?_ ?_) | exact trivial | exact A.Le.refl _ | exact rfl | exact .of_eq (trk01_next hce)))
            case zh =>
              (repeat' (first | (refine And.intro ?_ ?_) | exact trivial | exact A.Le.refl _ | exact rfl | exact .of_eq (trk01_next hce)))
          · have h5 : cond (vb == left) true false = false := h5
            have hce : c ≠ c0 := fun h6 => by subst h6; rw [hrpc, h5] at q2; cases q2
            refine Aw.em tab_ok mb0 [] rfl rfl ?zo ?zk
            case zo =>
              repeat' apply AllP.cons
              all_goals first | exact trivial | exact (by simp only [Ob.of, inR]; omega)
            case zk =>
            refine ⟨c + 1, ?zg, ?zm, ⟨?zc, ?zv, ?zh, Nat.le_of_ble_eq_true rfl⟩⟩
            case zg =>
              (repeat' (first | assumption | omega | exact .of_eq (by unfold trk01; rw [if_pos (by omega)]; rfl) | (refine And.intro ?_ ?_)))
            case zm =>
              (repeat' (first | omega | exact .of_eq (by unfold trk01; rw [if_pos (by omega)]; rfl) | (refine And.intro ?_ ?_)))
            case zc =>
              (repeat' (first | (refine And.intro ?_ ?_) | exact trivial | exact A.Le.refl _ | exact rfl | exact .of_eq (by unfold trk01; rw [if_pos (by omega)]; rfl)))
            case zv =>
              (repeat' (first | (refine And.intro ?_ ?_) | exact trivial | exact A.Le.refl _ | exact rfl | exact .of_eq (by unfold trk01; rw [if_pos (by omega)]; rfl)))
            case zh =>
              (repeat' (first | (refine And.intro ?_ ?_) | exact trivial | exact A.Le.refl _ | exact rfl | exact .of_eq (by unfold trk01; rw [if_pos (by omega)]; rfl)))
        | succ j =>
          have hlj : j < t.length := by omega
          have hgj : (ints (tI t))[Int.toNat (((j + 1 : Nat) : Int) - 1)]? = some [.int (t[j] : Nat)] := by
            rw [show Int.toNat (((j + 1 : Nat) : Int) - 1) = j by omega]; simp [ints, tI, hlj]
          have hgdj : t.getD j 0 = t[j] := by simp [List.getD_eq_getElem?_getD, hlj]
          have hp80 := wat_lt ho (okW_mem s htok t[j] (List.getElem_mem hlj))
          have hst := step_t s ho (((j + 1 : Nat) : Int) - 1) (t[j] : Nat) c (by omega) (by omega) (by omega) (by omega)
          have hsv : stp s j t[j] c = s.steps (((j + 1 : Nat) : Int) - 1) (placeP s.wide (t[j] : Nat)) (placeP s.wide c) := by
            rw [show ((j + 1 : Nat) : Int) - 1 = (j : Int) by omega]; rfl
          rw [← hsv] at hst
          have hrpc : rselP s l (j + 1) t left c = cond (vb == left) (stp s j (t.getD j 0) c) false := hrpc
          rw [hgdj] at hrpc
          generalize stp s j t[j] c = sv at *
          generalize t[j] = pp at *
          have e0 : (((j + 1 : Nat) : Int) == 0) = false := by rw [beq_eq_false_iff_ne]; omega
          refine Aw.sd tab_ok mixed mb0 [(2, [outW rb]), (5, [.int vb]), (19, [.int pp]), (22, [.bool sv])] rfl (by kernel_rfl) rfl rfl ?zo ?zk
          case zo =>
            repeat' apply AllP.cons
            all_goals first | exact trivial | exact id | exact rfl | exact fun _ => rfl | exact Nat.le_of_ble_eq_true rfl | exact fun _ => Nat.le_of_ble_eq_true rfl | exact Int.natCast_nonneg _ | exact gq_c | exact fun _ _ => rfl | exact gh | exact hgv | exact fun _ => hgj | exact fun _ => hst | exact fun _ => (by simp only [Ob.of, inR]; omega)
          case zk =>
          refine Aw.cond rfl (fun h5 => ?_) (fun h5 => Aw.skip ?_)
          · have h5 : cond (vb == left) (cond (((j + 1 : Nat) : Int) == 0) true sv) false = true := h5
            rw [e0] at h5
            have hce : c = c0 := by
              rcases Nat.lt_or_ge c c0 with h6 | h6
              · have h7 := hq3 h6; rw [hrpc] at h7; rw [show cond (vb == left) sv false = true from h5] at h7; cases h7
              · omega
            refine Aw.em tab_ok mb0 [(2, [.sl false .any (ints (tI t ++ [(c : Int)]))])] rfl rfl ?zo ?zk
            case zo =>
              repeat' apply AllP.cons
              all_goals first | exact trivial | exact hpl
            case zk =>
            refine Aw.em tab_ok mb0 [] rfl rfl ?zo ?zk
            case zo =>
              repeat' apply AllP.cons
              all_goals first | exact trivial | exact (by simp only [Ob.of, inR]; omega)
            case zk =>
            refine ⟨c + 1, ?zg, ?zm, ⟨?zc, ?zv, ?zh, Nat.le_of_ble_eq_true rfl⟩⟩
            case zg =>
              (repeat' (first | assumption | omega | exact .of_eq (trk01_next hce) | (refine And.intro ?_ ?_)))
            case zm =>
              (repeat' (first | omega | exact .of_eq (trk01_next hce) | (refine And.intro ?_ ?_)))
            case zc =>
              (repeat' (first | (refine And.intro ?_ ?_) | exact trivial | exact A.Le.refl _ | exact rfl | exact .of_eq (trk01_next hce)))
            case zv =>
              (repeat' (first | (refine And.intro ?_ ?_) | exact trivial | exact A.Le.refl _ | exact rfl | exact .of_eq (trk01_next hce)))
            case zh =>
              (repeat' (first | (refine And.intro ?_ ?_) | exact trivial | exact A.Le.refl _ | exact rfl | exact .of_eq (trk01_next hce)))
          · have h5 : cond (vb == left) (cond (((j + 1 : Nat) : Int) == 0) true sv) false = false := h5
            rw [e0] at h5
            have hce : c ≠ c0 := fun h6 => by subst h6; rw [hrpc, show cond (vb == left) sv false = false from h5] at q2; cases q2
            refine Aw.em tab_ok mb0 [] rfl rfl ?zo ?zk
            case zo =>
              repeat' apply AllP.cons
              all_goals first | exact trivial | exact (by simp only [Ob.of, inR]; omega)
            case zk =>
            refine ⟨c + 1, ?zg, ?zm, ⟨?zc, ?zv, ?zh, Nat.le_of_ble_eq_true rfl⟩⟩
            case zg =>
              (repeat' (first | assumption | omega | exact .of_eq (by unfold trk01; rw [if_pos (by omega)]; rfl) | (refine And.intro ?_ ?_)))
            case zm =>
              (repeat' (first | omega | exact .of_eq (by unfold trk01; rw [if_pos (by omega)]; rfl) | (refine And.intro ?_ ?_)))
            case zc =>
              (repeat' (first | (refine And.intro ?_ ?_) | exact trivial | exact A.Le.refl _ | exact rfl | exact .of_eq (by unfold trk01; rw [if_pos (by omega)]; rfl)))
            case zv =>
              (repeat' (first | (refine And.intro ?_ ?_) | exact trivial | exact A.Le.refl _ | exact rfl | exact .of_eq (by unfold trk01; rw [if_pos (by omega)]; rfl)))
            case zh =>
              (repeat' (first | (refine And.intro ?_ ?_) | exact trivial | exact A.Le.refl _ | exact rfl | exact .of_eq (by unfold trk01; rw [if_pos (by omega)]; rfl)))
      have h3 : (((ints (tI (trk01 t c0 c))).length : Int) == (h : Int)) = false := h3
      have hce : ¬ c ≤ c0 := fun h6 => by rw [lt1, if_pos h6] at h3; simp at h3
      refine Aw.exit2 ?_
      rw [show trk01 t c0 c = t ++ [c0] from if_neg hce]
      have hgh : (ints (tI (t ++ [c0])))[h]? = some [.int c0] := by
        rw [← htl]; simp [ints, tI]
      have hlx : ((ints (tI (t ++ [c0]))).length : Int) = h + 1 := by rw [ints_lenI, tI_len, List.length_append]; simp; omega
      have hc80 := wat_lt ho hcm
      have hli := lies_t s ho b l hrf h c0 (by omega)
      have hub := untrue_bd s l hrf (h : Int) (placeP s.wide c0)
      generalize untrueF s.wide l (h : Int) (placeP s.wide (c0 : Int)) = u at *
      refine Aw.ed tab_ok mixed mb0 [(6, [.int c0]), (8, [.int u])] rfl (by kernel_rfl) rfl rfl ?zo ?zk
      case zo =>
        repeat' apply AllP.cons
        all_goals first | exact trivial | exact rfl | exact Nat.le_of_ble_eq_true rfl | exact Int.natCast_nonneg _ | exact hgh | exact hli | exact (by simp only [Ob.of, inR]; omega)
      case zk =>
      refine Aw.em tab_ok mb0 [] rfl rfl ?zo ?zk
      case zo =>
        repeat' apply AllP.cons
        all_goals first | exact trivial | exact (by simp only [Ob.of, inR]; omega)
      case zk =>
      refine ⟨h + 1, ?zg, ?zm, ⟨?zc, ?zv, ?zh, Nat.le_of_ble_eq_true rfl⟩⟩
      case zg =>
        (repeat' (first | assumption | omega | exact .of_eq (by rw [e1]; rfl) | (refine And.intro ?_ ?_)))
      case zm =>
        (repeat' (first | omega | exact .of_eq (by rw [e1]; rfl) | (refine And.intro ?_ ?_)))
      case zc =>
        (repeat' (first | (refine And.intro ?_ ?_) | exact trivial | exact A.Le.refl _ | exact rfl | exact .of_eq (by rw [e1]; rfl)))
      case zv =>
        (repeat' (first | (refine And.intro ?_ ?_) | exact trivial | exact A.Le.refl _ | exact rfl | exact .of_eq (by rw [e1]; rfl)))
      case zh =>
        (repeat' (first | (refine And.intro ?_ ?_) | exact trivial | exact A.Le.refl _ | exact rfl | exact .of_eq (by rw [e1]; rfl)))
    have hhe : h = hrs s := by have := of_decide_eq_false (show decide ((h : Int) < s.hours) = false from h2); omega
    subst hhe
    refine Aw.exit2 ?_
    refine Aw.sm tab_ok mb0 [] rfl rfl ?zo ?zk
    case zo =>
      repeat' apply AllP.cons
      all_goals first | exact trivial
    case zk =>
    exact Aw.ret ⟨_, .cons (.tmp _) (.cons (.tmp _) (.cons (.tmp _) .nil)), rfl⟩
  · have hl1 : lstK s l s.many.toNat = 1000 := by rcases hlst with h | h; exact absurd h.1 hfw; exact h.2
    rw [LeastR_no hok hr hfw] at hfr2 ⊢
    refine Ans_out (v := .tup [.int 0, outA [], .int 4]) ?_ (leT3 (.refl _) (outA_le _) (.refl _))
    refine told Try.func21 rfl rfl (Pure.of tab_ok Try.func21 rfl Try.ntmps21 rfl (allC (.agg _ s.free) (all1 (free_map Rep.free _ _ _))) (allC (fun _ => rfl) (all1 (fun _ => rfl))) (by first | exact .s _ | assumption | exact .tup _ (by intro x hx; simp only [List.mem_cons, List.not_mem_nil, or_false] at hx; rcases hx with rfl | rfl | rfl | rfl <;> first | exact .s _ | (simp_all; done))) fun E hE => ?_)
    refine Aw.sm tab_ok mb0 [] rfl rfl ?zo ?zk
    case zo =>
      repeat' apply AllP.cons
      all_goals first | exact trivial
    case zk =>
    refine Aw.seq ?_
    refine Aw.sm tab_ok mb0 [(2, [.int 0])] rfl rfl ?zo ?zk
    case zo =>
      repeat' apply AllP.cons
      all_goals first | exact trivial | exact Nat.le_of_ble_eq_true rfl | exact hck
    case zk =>
    refine Aw.sm tab_ok mb0 [] rfl rfl ?zo ?zk
    case zo =>
      repeat' apply AllP.cons
      all_goals first | exact trivial
    case zk =>
    refine Aw.cond rfl (fun h => absurd h (by decide)) (fun _ => Aw.skip ?_)
    refine Aw.sm tab_ok mb0 [(2, [.sl false .any RB])] rfl rfl ?zo ?zk
    case zo =>
      repeat' apply AllP.cons
      all_goals first | exact trivial | exact Nat.le_of_ble_eq_true rfl | exact hbe
    case zk =>
    refine Aw.sm tab_ok mb0 [] rfl rfl ?zo ?zk
    case zo =>
      repeat' apply AllP.cons
      all_goals first | exact trivial
    case zk =>
    refine Aw.seq ?_
    refine Aw.sm tab_ok mb0 [] rfl rfl ?zo ?zk
    case zo =>
      repeat' apply AllP.cons
      all_goals first | exact trivial
    case zk =>
    refine Aw.block (Aw.rounds 0 hE [(1, .sl b .any (l.map Rep.c)), (2, .pt s.c), (8, .sl false .any RB)] (fun c : Nat => [(9, .int (lstK s l c)), (10, .int c)]) (fun c => []) (fun c => c ≤ s.many.toNat) (fun c => s.many.toNat - c) 0 ?zg ⟨?zc, ?zv, ?zh, Nat.le_of_ble_eq_true rfl⟩ ?zu (fun c zhk => ?zw) (fun c zhk => ?zx) fun c hk => ?zr)
    case zg =>
      (repeat' (first | exact Nat.zero_le _ | exact Nat.le_refl _ | exact trivial | exact us | exact ul | exact ub | (refine And.intro ?_ ?_)))
    case zc =>
      (repeat' (first | (refine And.intro ?_ ?_) | exact trivial | exact A.Le.refl _ | exact rfl | exact us | exact ul | exact ub))
    case zv =>
      (repeat' (first | (refine And.intro ?_ ?_) | exact trivial | exact A.Le.refl _ | exact rfl | exact us | exact ul | exact ub))
    case zh =>
      (repeat' (first | (refine And.intro ?_ ?_) | exact trivial | exact A.Le.refl _ | exact rfl | exact us | exact ul | exact ub))
    case zu =>
      (repeat' (first | exact trivial | exact Under.s _ | exact Under.un | assumption | exact (free_ints _ _ _).under | exact Under.ref _ _ (by decide) | exact Under.ms _ _ _ (by decide) | exact Under.mp _ (by decide) | exact (Free.agg _ (by assumption)).under | exact (Free.pt _ (by assumption)).under | exact grL_under _ | exact outA_under _ | exact Nat.le_of_ble_eq_true rfl | exact (fun _ _ => rfl) | exact us | exact ul | exact ub | (refine And.intro ?_ ?_)))
    case zw =>
      (repeat' (first | exact trivial | exact Under.s _ | exact Under.un | assumption | exact (free_ints _ _ _).under | exact Under.ref _ _ (by decide) | exact Under.ms _ _ _ (by decide) | exact Under.mp _ (by decide) | exact (Free.agg _ (by assumption)).under | exact (Free.pt _ (by assumption)).under | exact grL_under _ | exact outA_under _ | exact Nat.le_of_ble_eq_true rfl | exact (fun _ _ => rfl) | exact us | exact ul | exact ub | (refine And.intro ?_ ?_)))
    case zx =>
      (repeat' (first | exact trivial | exact Under.s _ | exact Under.un | assumption | exact (free_ints _ _ _).under | exact Under.ref _ _ (by decide) | exact Under.ms _ _ _ (by decide) | exact Under.mp _ (by decide) | exact (Free.agg _ (by assumption)).under | exact (Free.pt _ (by assumption)).under | exact grL_under _ | exact outA_under _ | exact Nat.le_of_ble_eq_true rfl | exact (fun _ _ => rfl) | exact us | exact ul | exact ub | (refine And.intro ?_ ?_)))
    case zr =>
    refine Aw.seq ?_
    refine Aw.sm tab_ok mb0 [(2, [outW (behR s l (hrs s - 1))])] rfl rfl ?zo ?zk
    case zo =>
      repeat' apply AllP.cons
      all_goals first | exact trivial | exact rfl | exact Nat.le_of_ble_eq_true rfl | exact Int.natCast_nonneg _ | exact g0
    case zk =>
    refine Aw.cond rfl (fun h2 => Aw.skip ?_) (fun h2 => ?_)
    · have hlc : c < s.many.toNat := by have := of_decide_eq_true (show decide ((c : Int) < ((ints (behR s l (hrs s - 1))).length : Int)) = true from h2); omega
      have hsu := lstK_succ s l c
      have p2 := ints_at (l := behR s l (hrs s - 1)) (k := c) (by rw [behR_len]; exact hlc)
      generalize (behR s l (hrs s - 1)).getD c 0 = vb at *
      generalize behR s l (hrs s - 1) = rb at *
      generalize lstK s l c = bst at *
      refine Aw.seq (Aw.block ?_)
      refine Aw.em tab_ok mb0 [(2, [outW rb]), (5, [.int vb])] rfl rfl ?zo ?zk
      case zo =>
        repeat' apply AllP.cons
        all_goals first | exact trivial | exact rfl | exact Nat.le_of_ble_eq_true rfl | exact Int.natCast_nonneg _ | exact g0 | exact p2
      case zk =>
      refine Aw.em tab_ok mb0 [] rfl rfl ?zo ?zk
      case zo =>
        repeat' apply AllP.cons
        all_goals first | exact trivial | exact (by simp only [Ob.of, inR]; omega)
      case zk =>
      refine ⟨c + 1, ?zg, ?zm, ⟨?zc, ?zv, ?zh, Nat.le_of_ble_eq_true rfl⟩⟩
      case zg =>
        (repeat' (first | assumption | omega | exact .of_eq (congrArg A.int hsu) | (refine And.intro ?_ ?_)))
      case zm =>
        (repeat' (first | omega | exact .of_eq (congrArg A.int hsu) | (refine And.intro ?_ ?_)))
      case zc =>
        (repeat' (first | (refine And.intro ?_ ?_) | exact trivial | exact A.Le.refl _ | exact rfl | exact .of_eq (congrArg A.int hsu)))
      case zv =>
        (repeat' (first | (refine And.intro ?_ ?_) | exact trivial | exact A.Le.refl _ | exact rfl | exact .of_eq (congrArg A.int hsu)))
      case zh =>
        (repeat' (first | (refine And.intro ?_ ?_) | exact trivial | exact A.Le.refl _ | exact rfl | exact .of_eq (congrArg A.int hsu)))
    have hce : c = s.many.toNat := by have := of_decide_eq_false (show decide ((c : Int) < ((ints (behR s l (hrs s - 1))).length : Int)) = false from h2); omega
    subst hce
    refine Aw.exit2 ?_
    rw [hl1]
    refine Aw.seq ?_
    refine Aw.sm tab_ok mb0 [] rfl rfl ?zo ?zk
    case zo =>
      repeat' apply AllP.cons
      all_goals first | exact trivial
    case zk =>
    refine Aw.cond rfl (fun _ => ?_) (fun h => absurd h (by decide))
    refine Aw.sm tab_ok mb0 [] rfl rfl ?zo ?zk
    case zo =>
      repeat' apply AllP.cons
      all_goals first | exact trivial
    case zk =>
    exact Aw.ret ⟨_, .cons (.tmp _) (.cons (.tmp _) (.cons (.tmp _) .nil)), rfl⟩
end Go.Proofs.Ytohbjneaaahpcaa

namespace Go.Proofs.Ytohbjneaaahpcaa
open Go Go.AL Go.AL.Q Go.AL.Sh
end Go.Proofs.Ytohbjneaaahpcaa

namespace Go.Proofs.Ytohbjneaaahpcaa
open Go Go.AL Go.AL.Q Go.AL.Sh
theorem canF_l80 {s : Sea} (ho : s.Ok) (l : List Rep) (wrong hour : Int) : (canF s l wrong hour).length ≤ 80 := Nat.le_trans (goL_len _ _ _) (cellsL_len _ ho)
structure MoreIs (G A B C : List Int) (e f g h : Int) : Prop where
  e : e = canE G
  a : ∀ c ∈ A, c ∈ G
  b : ∀ c ∈ B, c ∈ G
  c : ∀ c ∈ C, c ∈ G
  f : (f = 11 ∧ A = []) ∨ f = canE A
  g : g = canE B
  h : h = canE C
  la : A.length ≤ 80
  lb : B.length ≤ 80
  lc : C.length ≤ 80
  lG : G.length ≤ 80
end Go.Proofs.Ytohbjneaaahpcaa

namespace Go.Proofs.Ytohbjneaaahpcaa
open Go Go.AL Go.AL.Q Go.AL.Sh
theorem LiarsR_bad {s : Sea} {l : List Rep} (h : (LeastR s l).2.2 ≠ 0) : LiarsR s l = ([], (LeastR s l).2.2) := by
  unfold LeastR at h ⊢; unfold LiarsR
  cases h1 : s.ok <;> cases h2 : s.repsOk l <;> by_cases h3 : fewF s l < 1048576 <;> simp [h1, h2, h3] at h ⊢
theorem LiarsR_ok {s : Sea} {l : List Rep} (hok : s.ok = true) (hr : s.repsOk l = true) (h : fewF s l < 1048576) : LiarsR s l = (liarK s l (fewF s l) l.length, 0) := by
  unfold LiarsR; rw [hok, hr]; simp only [if_true]; rw [if_pos h]
structure TrkIs (s : Sea) (l : List Rep) (NM : List Int) (fw : Int) (T : List Nat) (n : Int) (is : Bool) : Prop where
  r : TrackR s l (tI T) = (n, is, 0)
  c : ∀ c ∈ tI T, 0 ≤ c ∧ c ≤ 1000
  len : T.length ≤ 12
  h : is = true → n = fw → (T.length : Int) = s.hours ∧ ∀ i ∈ NM, ∃ k : Nat, i = k ∧ ∃ hk : k < l.length, lieB s.wide T l[k] = true
end Go.Proofs.Ytohbjneaaahpcaa

namespace Go.Proofs.Ytohbjneaaahpcaa
open Go Go.AL Go.AL.Q Go.AL.Sh
set_option maxRecDepth 20000 in
set_option maxHeartbeats 1000000 in
theorem rLiars_a (s : Sea) (hf : SeaFit s) (b : Bool) (l : List Rep) (hl : (l.length : Int) ≤ 9223372036854775806) :
    Ans Try.prog 27 [.agg s.c, .sl b .any (l.map Rep.c)] (.tup [outA (LiarsR s l).1, .int (LiarsR s l).2]) := by
  have hfr : Free (.tup [outA (LiarsR s l).1, .int (LiarsR s l).2]) := .tup _ (allC (outA_free _) (all1 (.s _)))
  have us : ∀ {m : Nat}, Under m (A.pt s.c) := (Free.pt _ s.free).under
  have ul : ∀ {m : Nat}, Under m (.sl b .any (l.map Rep.c)) := (free_map Rep.free _ _ _).under
  have ll : ((l.map Rep.c).length : Int) = l.length := by simp
  have hle := rLeast_a s hf b l hl
  refine told Try.func27 rfl rfl (Pure.of tab_ok Try.func27 rfl Try.ntmps27 rfl (allC (.agg _ s.free) (all1 (free_map Rep.free _ _ _))) (allC (fun _ => rfl) (all1 (fun _ => rfl))) (by first | exact .s _ | assumption | exact .tup _ (by intro x hx; simp only [List.mem_cons, List.not_mem_nil, or_false] at hx; rcases hx with rfl | rfl | rfl | rfl <;> first | exact .s _ | (simp_all; done))) fun E hE => ?_)
  refine Aw.sm tab_ok mb0 [] rfl rfl ?zo ?zk
  case zo =>
    repeat' apply AllP.cons
    all_goals first | exact trivial
  case zk =>
  by_cases he : (LeastR s l).2.2 = 0
  · obtain ⟨hok, hr, hfw⟩ := LeastR_good he
    rw [LeastR_ok hok hr hfw] at hle
    rw [LiarsR_ok hok hr hfw]
    have ho := Sea.ok_of hok
    have hrf := reps_fit hr
    have hp := hrs_pos ho
    have hm := ho.many
    have hl24 : l.length ≤ 24 := by have := hrf.len; omega
    have hf24 := few_24 ho hrf hfw
    have hnn := few_nn ho hl24
    have hliar := fun r hr => liar_is ho hl24 hf24 (r := r) hr
    have hcan := fun hour => rCan_t s hf b l hl (fewF s l) hour
    have hGi := fun hour c hc => canF_in ho (l := l) (wrong := fewF s l) (hour := hour) (c := c) hc
    have hcok := fun hour (h0 : 0 ≤ hour) (h1 : hour < s.hours) => CanR_ok hok hr (asked_iff.2 ⟨⟨hnn, hf24⟩, h0, h1⟩)
    have hG80 := fun hour => canF_l80 ho l (fewF s l) hour
    have hlks := fun k (h : k < l.length) => liarK_succ s l (fewF s l) h
    have hlkl := liarK_len s l (fewF s l)
    generalize (trkN s l (fewF s l) (hrs s)).1 = T2 at *
    generalize hfe : fewF s l = fw at *
    refine Aw.sm tab_ok mb0 [(2, [.tup [.int fw, outW (tI T2), .int 0]])] rfl rfl ?zo ?zk
    case zo =>
      repeat' apply AllP.cons
      all_goals first | exact trivial | exact Nat.le_of_ble_eq_true rfl | exact hle
    case zk =>
    refine Aw.seq ?_
    refine Aw.sm tab_ok mb0 [] rfl rfl ?zo ?zk
    case zo =>
      repeat' apply AllP.cons
      all_goals first | exact trivial
    case zk =>
    refine Aw.cond rfl (fun h => absurd h (by decide)) (fun _ => Aw.skip ?_)
    refine Aw.sm tab_ok mb0 [] rfl rfl ?zo ?zk
    case zo =>
      repeat' apply AllP.cons
      all_goals first | exact trivial
    case zk =>
    refine Aw.seq ?_
    refine Aw.sm tab_ok mb0 [] rfl rfl ?zo ?zk
    case zo =>
      repeat' apply AllP.cons
      all_goals first | exact trivial
    case zk =>
    refine Aw.block (Aw.rounds 0 hE [(1, .sl b .any (l.map Rep.c)), (2, .pt s.c), (6, .int fw)] (fun i : Nat => [(9, grL 3 (liarK s l fw i)), (10, .int i)]) (fun i => []) (fun i => i ≤ l.length) (fun i => l.length - i) 0 ?zg ⟨?zc, ?zv, ?zh, Nat.le_of_ble_eq_true rfl⟩ ?zu (fun i zhk => ?zw) (fun i zhk => ?zx) fun i hk => ?zr)
    case zg =>
      (repeat' (first | exact Nat.zero_le _ | exact Nat.le_refl _ | exact trivial | exact us | exact ul | (refine And.intro ?_ ?_)))
    case zc =>
      (repeat' (first | (refine And.intro ?_ ?_) | exact trivial | exact A.Le.refl _ | exact rfl | exact us | exact ul))
    case zv =>
      (repeat' (first | (refine And.intro ?_ ?_) | exact trivial | exact A.Le.refl _ | exact rfl | exact us | exact ul))
    case zh =>
      (repeat' (first | (refine And.intro ?_ ?_) | exact trivial | exact A.Le.refl _ | exact rfl | exact us | exact ul))
    case zu =>
      (repeat' (first | exact trivial | exact Under.s _ | exact Under.un | assumption | exact (free_ints _ _ _).under | exact Under.ref _ _ (by decide) | exact Under.ms _ _ _ (by decide) | exact Under.mp _ (by decide) | exact (Free.agg _ (by assumption)).under | exact (Free.pt _ (by assumption)).under | exact grL_under _ | exact outA_under _ | exact Nat.le_of_ble_eq_true rfl | exact (fun _ _ => rfl) | exact us | exact ul | (refine And.intro ?_ ?_)))
    case zw =>
      (repeat' (first | exact trivial | exact Under.s _ | exact Under.un | assumption | exact (free_ints _ _ _).under | exact Under.ref _ _ (by decide) | exact Under.ms _ _ _ (by decide) | exact Under.mp _ (by decide) | exact (Free.agg _ (by assumption)).under | exact (Free.pt _ (by assumption)).under | exact grL_under _ | exact outA_under _ | exact Nat.le_of_ble_eq_true rfl | exact (fun _ _ => rfl) | exact us | exact ul | (refine And.intro ?_ ?_)))
    case zx =>
      (repeat' (first | exact trivial | exact Under.s _ | exact Under.un | assumption | exact (free_ints _ _ _).under | exact Under.ref _ _ (by decide) | exact Under.ms _ _ _ (by decide) | exact Under.mp _ (by decide) | exact (Free.agg _ (by assumption)).under | exact (Free.pt _ (by assumption)).under | exact grL_under _ | exact outA_under _ | exact Nat.le_of_ble_eq_true rfl | exact (fun _ _ => rfl) | exact us | exact ul | (refine And.intro ?_ ?_)))
    case zr =>
    refine Aw.seq ?_
    refine Aw.sm tab_ok mb0 [] rfl rfl ?zo ?zk
    case zo =>
      repeat' apply AllP.cons
      all_goals first | exact trivial
    case zk =>
    refine Aw.cond rfl (fun h2 => Aw.skip ?_) (fun h2 => ?_)
    · have hlt : i < l.length := by have := of_decide_eq_true (show decide ((i : Int) < ((l.map Rep.c).length : Int)) = true from h2); omega
      have hget := get_map (f := Rep.c) hlt
      have hin := hrf.at' l[i] (List.getElem_mem hlt)
      have hst := hlks i hlt
      have hgl := hlkl i
      generalize l[i] = r at *
      have hli := hliar r hin.1
      have hca := hcan r.hour
      rw [hcok r.hour (by omega) (by omega)] at hca
      have hGr := hGi r.hour
      have hGl := hG80 r.hour
      generalize canE (canF s l fw r.hour) = e at *
      generalize canF s l fw r.hour = G at *
      generalize liarB s l fw r = lb at *
      generalize liarK s l fw i = N at *
      have lG := ints_lenI G
      have uG : ∀ {m : Nat}, Under m (outW G) := (outW_free G).under
      have uN : ∀ {m : Nat}, Under m (grL 3 N) := grL_under _
      refine Aw.seq (Aw.block ?_)
      refine Aw.sd tab_ok mixed mb0 [(5, r.c), (8, [.tup [outW G, .int e]])] rfl (by kernel_rfl) rfl rfl ?zo ?zk
      case zo =>
        repeat' apply AllP.cons
        all_goals first | exact trivial | exact rfl | exact Nat.le_of_ble_eq_true rfl | exact Int.natCast_nonneg _ | exact hget | exact hca
      case zk =>
      refine Aw.sm tab_ok mb0 [] rfl rfl ?zo ?zk
      case zo =>
        repeat' apply AllP.cons
        all_goals first | exact trivial
      case zk =>
      refine Aw.seq ?_
      refine Aw.sm tab_ok mb0 [] rfl rfl ?zo ?zk
      case zo =>
        repeat' apply AllP.cons
        all_goals first | exact trivial
      case zk =>
      refine Aw.block (Aw.rounds 0 hE [(1, .sl b .any (l.map Rep.c)), (2, .pt s.c), (6, .int fw), (9, grL 3 N), (10, .int i), (11, outW G)] (fun k : Nat => [(13, .bool ((G.take k).any fun c => isTrueF s.wide r (placeP s.wide c))), (14, .int k)]) (fun k => []) (fun k => k ≤ G.length) (fun k => G.length - k) 0 ?zg ⟨?zc, ?zv, ?zh, Nat.le_of_ble_eq_true rfl⟩ ?zu (fun k zhk => ?zw) (fun k zhk => ?zx) fun k hk => ?zr)
      case zg =>
        (repeat' (first | exact Nat.zero_le _ | exact Nat.le_refl _ | exact trivial | exact us | exact ul | exact uG | exact uN | (refine And.intro ?_ ?_)))
      case zc =>
        (repeat' (first | (refine And.intro ?_ ?_) | exact trivial | exact A.Le.refl _ | exact rfl | exact us | exact ul | exact uG | exact uN))
      case zv =>
        (repeat' (first | (refine And.intro ?_ ?_) | exact trivial | exact A.Le.refl _ | exact rfl | exact us | exact ul | exact uG | exact uN))
      case zh =>
        (repeat' (first | (refine And.intro ?_ ?_) | exact trivial | exact A.Le.refl _ | exact rfl | exact us | exact ul | exact uG | exact uN))
      case zu =>
        (repeat' (first | exact trivial | exact Under.s _ | exact Under.un | assumption | exact (free_ints _ _ _).under | exact Under.ref _ _ (by decide) | exact Under.ms _ _ _ (by decide) | exact Under.mp _ (by decide) | exact (Free.agg _ (by assumption)).under | exact (Free.pt _ (by assumption)).under | exact grL_under _ | exact outA_under _ | exact Nat.le_of_ble_eq_true rfl | exact (fun _ _ => rfl) | exact us | exact ul | exact uG | exact uN | (refine And.intro ?_ ?_)))
      case zw =>
        (repeat' (first | exact trivial | exact Under.s _ | exact Under.un | assumption | exact (free_ints _ _ _).under | exact Under.ref _ _ (by decide) | exact Under.ms _ _ _ (by decide) | exact Under.mp _ (by decide) | exact (Free.agg _ (by assumption)).under | exact (Free.pt _ (by assumption)).under | exact grL_under _ | exact outA_under _ | exact Nat.le_of_ble_eq_true rfl | exact (fun _ _ => rfl) | exact us | exact ul | exact uG | exact uN | (refine And.intro ?_ ?_)))
      case zx =>
        (repeat' (first | exact trivial | exact Under.s _ | exact Under.un | assumption | exact (free_ints _ _ _).under | exact Under.ref _ _ (by decide) | exact Under.ms _ _ _ (by decide) | exact Under.mp _ (by decide) | exact (Free.agg _ (by assumption)).under | exact (Free.pt _ (by assumption)).under | exact grL_under _ | exact outA_under _ | exact Nat.le_of_ble_eq_true rfl | exact (fun _ _ => rfl) | exact us | exact ul | exact uG | exact uN | (refine And.intro ?_ ?_)))
      case zr =>
      refine Aw.seq ?_
      refine Aw.sm tab_ok mb0 [] rfl rfl ?zo ?zk
      case zo =>
        repeat' apply AllP.cons
        all_goals first | exact trivial
      case zk =>
      refine Aw.cond rfl (fun h3 => Aw.skip ?_) (fun h3 => ?_)
      · have hlk : k < G.length := by have := of_decide_eq_true (show decide ((k : Int) < ((ints G).length : Int)) = true from h3); omega
        have hget2 := ints_get hlk
        have hci := hGr G[k] (List.getElem_mem hlk)
        have hany := any_take (p := fun c : Int => isTrueF s.wide r (placeP s.wide c)) hlk
        generalize G[k] = c at *
        have hru := runtrue_t s ho r (by omega) c (by omega)
        generalize isTrueF s.wide r (placeP s.wide c) = tv at *
        generalize (G.take k).any (fun c => isTrueF s.wide r (placeP s.wide c)) = m at *
        refine Aw.seq (Aw.block ?_)
        refine Aw.ed tab_ok mixed mb0 [(5, r.c), (9, [.int c]), (11, [.bool (!tv)])] rfl (by kernel_rfl) rfl rfl ?zo ?zk
        case zo =>
          repeat' apply AllP.cons
          all_goals first | exact trivial | exact id | exact fun _ => rfl | exact fun _ => Nat.le_of_ble_eq_true rfl | exact fun _ => Int.natCast_nonneg _ | exact gq_f | exact fun _ => hget | exact fun _ => hget2 | exact fun _ => hru
        case zk =>
        refine Aw.em tab_ok mb0 [] rfl rfl ?zo ?zk
        case zo =>
          repeat' apply AllP.cons
          all_goals first | exact trivial | exact (by simp only [Ob.of, inR]; omega)
        case zk =>
        refine ⟨k + 1, ?zg, ?zm, ⟨?zc, ?zv, ?zh, Nat.le_of_ble_eq_true rfl⟩⟩
        case zg =>
          (repeat' (first | assumption | omega | exact .of_eq (by rw [hany]; exact congrArg A.bool (by cases tv <;> rfl)) | (refine And.intro ?_ ?_)))
        case zm =>
          (repeat' (first | omega | exact .of_eq (by rw [hany]; exact congrArg A.bool (by cases tv <;> rfl)) | (refine And.intro ?_ ?_)))
        case zc =>
          (repeat' (first | (refine And.intro ?_ ?_) | exact trivial | exact A.Le.refl _ | exact rfl | exact .of_eq (by rw [hany]; exact congrArg A.bool (by cases tv <;> rfl))))
        case zv =>
          (repeat' (first | (refine And.intro ?_ ?_) | exact trivial | exact A.Le.refl _ | exact rfl | exact .of_eq (by rw [hany]; exact congrArg A.bool (by cases tv <;> rfl))))
        case zh =>
          (repeat' (first | (refine And.intro ?_ ?_) | exact trivial | exact A.Le.refl _ | exact rfl | exact .of_eq (by rw [hany]; exact congrArg A.bool (by cases tv <;> rfl))))
      have hke : k = G.length := by have := of_decide_eq_false (show decide ((k : Int) < ((ints G).length : Int)) = false from h3); omega
      subst hke
      refine Aw.exit2 ?_
      rw [List.take_length, hli]
      refine Aw.sm tab_ok mb0 [] rfl rfl ?zo ?zk
      case zo =>
        repeat' apply AllP.cons
        all_goals first | exact trivial
      case zk =>
      cases lb with
      | true =>
        refine Aw.cond rfl (fun _ => ?_) (fun h => absurd h (by decide))
        rw [if_pos rfl] at hst
        cases N with
        | nil =>
          refine Aw.em tab_ok mb0 [] rfl rfl ?zo ?zk
          case zo =>
            repeat' apply AllP.cons
            all_goals first | exact trivial | exact Nat.le_of_ble_eq_true rfl | exact (show ∀ z ∈ [] ++ [[A.int _]], z.length = 1 from fun z hz => by simp at hz; subst hz; rfl)
          case zk =>
          refine Aw.em tab_ok mb0 [] rfl rfl ?zo ?zk
          case zo =>
            repeat' apply AllP.cons
            all_goals first | exact trivial | exact (by simp only [Ob.of, inR]; omega)
          case zk =>
          refine ⟨i + 1, ?zg, ?zm, ⟨?zc, ?zv, ?zh, Nat.le_of_ble_eq_true rfl⟩⟩
          case zg =>
            (repeat' (first | assumption | omega | exact .of_eq (by rw [hst]; rfl) | (refine And.intro ?_ ?_)))
          case zm =>
            (repeat' (first | omega | exact .of_eq (by rw [hst]; rfl) | (refine And.intro ?_ ?_)))
          case zc =>
            (repeat' (first | (refine And.intro ?_ ?_) | exact trivial | exact A.Le.refl _ | exact rfl | exact .of_eq (by rw [hst]; rfl)))
          case zv =>
            (repeat' (first | (refine And.intro ?_ ?_) | exact trivial | exact A.Le.refl _ | exact rfl | exact .of_eq (by rw [hst]; rfl)))
          case zh =>
            (repeat' (first | (refine And.intro ?_ ?_) | exact trivial | exact A.Le.refl _ | exact rfl | exact .of_eq (by rw [hst]; rfl)))
        | cons y N =>
          have hz : ∀ z ∈ ints (y :: N), z.length = 1 := fun z hz => by obtain ⟨i, _, rfl⟩ := List.mem_map.1 hz; rfl
          have hl2 : (ints (y :: N)).length ≤ i := by simp only [ints, List.length_map]; exact hgl
          refine Aw.em tab_ok mb0 [] rfl rfl ?zo ?zk
          case zo =>
            repeat' apply AllP.cons
            all_goals first | exact trivial | exact Nat.le_of_ble_eq_true rfl | exact (show ∀ z ∈ [[A.int _]], z.length = 1 from fun z hz => by simp at hz; subst hz; rfl) | exact hz | exact (show ((ints (y :: N)).length + 1) * 8 ≤ 140737488355328 by omega) | exact (show (ints (y :: N)).length + 1 ≤ maxLen by unfold maxLen; omega)
          case zk =>
          refine Aw.em tab_ok mb0 [] rfl rfl ?zo ?zk
          case zo =>
            repeat' apply AllP.cons
            all_goals first | exact trivial | exact (by simp only [Ob.of, inR]; omega)
          case zk =>
          refine ⟨i + 1, ?zg, ?zm, ⟨?zc, ?zv, ?zh, Nat.le_of_ble_eq_true rfl⟩⟩
          case zg =>
            (repeat' (first | assumption | omega | exact .of_eq (hst ▸ (show grL 3 ((y :: N) ++ [(i : Int)]) = A.sl false (.own 3) (ints (y :: N) ++ [[A.int i]]) by simp [grL, ints])) | (refine And.intro ?_ ?_)))
          case zm =>
            (repeat' (first | omega | exact .of_eq (hst ▸ (show grL 3 ((y :: N) ++ [(i : Int)]) = A.sl false (.own 3) (ints (y :: N) ++ [[A.int i]]) by simp [grL, ints])) | (refine And.intro ?_ ?_)))
          case zc =>
            (repeat' (first | (refine And.intro ?_ ?_) | exact trivial | exact A.Le.refl _ | exact rfl | exact .of_eq (hst ▸ (show grL 3 ((y :: N) ++ [(i : Int)]) = A.sl false (.own 3) (ints (y :: N) ++ [[A.int i]]) by simp [grL, ints]))))
          case zv =>
            (repeat' (first | (refine And.intro ?_ ?_) | exact trivial | exact A.Le.refl _ | exact rfl | exact .of_eq (hst ▸ (show grL 3 ((y :: N) ++ [(i : Int)]) = A.sl false (.own 3) (ints (y :: N) ++ [[A.int i]]) by simp [grL, ints]))))
          case zh =>
            (repeat' (first | (refine And.intro ?_ ?_) | exact trivial | exact A.Le.refl _ | exact rfl | exact .of_eq (hst ▸ (show grL 3 ((y :: N) ++ [(i : Int)]) = A.sl false (.own 3) (ints (y :: N) ++ [[A.int i]]) by simp [grL, ints]))))
      | false =>
        refine Aw.cond rfl (fun h => absurd h (by decide)) (fun _ => Aw.skip ?_)
        rw [if_neg (by decide)] at hst
        refine Aw.em tab_ok mb0 [] rfl rfl ?zo ?zk
        case zo =>
          repeat' apply AllP.cons
          all_goals first | exact trivial | exact (by simp only [Ob.of, inR]; omega)
        case zk =>
        refine ⟨i + 1, ?zg, ?zm, ⟨?zc, ?zv, ?zh, Nat.le_of_ble_eq_true rfl⟩⟩
        case zg =>
          (repeat' (first | assumption | omega | exact .of_eq (by rw [hst]; rfl) | (refine And.intro ?_ ?_)))
        case zm =>
          (repeat' (first | omega | exact .of_eq (by rw [hst]; rfl) | (refine And.intro ?_ ?_)))
        case zc =>
          (repeat' (first | (refine And.intro ?_ ?_) | exact trivial | exact A.Le.refl _ | exact rfl | exact .of_eq (by rw [hst]; rfl)))
        case zv =>
          (repeat' (first | (refine And.intro ?_ ?_) | exact trivial | exact A.Le.refl _ | exact rfl | exact .of_eq (by rw [hst]; rfl)))
        case zh =>
          (repeat' (first | (refine And.intro ?_ ?_) | exact trivial | exact A.Le.refl _ | exact rfl | exact .of_eq (by rw [hst]; rfl)))
    have hie : i = l.length := by have := of_decide_eq_false (show decide ((i : Int) < ((l.map Rep.c).length : Int)) = false from h2); omega
    subst hie
    refine Aw.exit2 ?_
    generalize liarK s l fw l.length = N at *
    cases N with
    | nil =>
      refine Aw.sm tab_ok mb0 [] rfl rfl ?zo ?zk
      case zo =>
        repeat' apply AllP.cons
        all_goals first | exact trivial
      case zk =>
      exact Aw.ret ⟨_, .cons (.tmp _) (.cons (.tmp _) .nil), rfl⟩
    | cons y N =>
      refine Aw.sm tab_ok mb0 [] rfl rfl ?zo ?zk
      case zo =>
        repeat' apply AllP.cons
        all_goals first | exact trivial
      case zk =>
      exact Aw.ret ⟨_, .cons (.tmp _) (.cons (.tmp _) .nil), rfl⟩
  · rw [LiarsR_bad he]
    rw [LeastR_bad he] at hle
    simp only at hle ⊢
    generalize (LeastR s l).2.2 = e at *
    have he' : (e != 0) = true := by simpa using he
    refine Aw.sm tab_ok mb0 [(2, [.tup [.int 0, outW [], .int e]])] rfl rfl ?zo ?zk
    case zo =>
      repeat' apply AllP.cons
      all_goals first | exact trivial | exact Nat.le_of_ble_eq_true rfl | exact hle
    case zk =>
    refine Aw.seq ?_
    refine Aw.sm tab_ok mb0 [] rfl rfl ?zo ?zk
    case zo =>
      repeat' apply AllP.cons
      all_goals first | exact trivial
    case zk =>
    refine Aw.cond rfl (fun _ => ?_) (fun h => ?_)
    · refine Aw.sm tab_ok mb0 [] rfl rfl ?zo ?zk
      case zo =>
        repeat' apply AllP.cons
        all_goals first | exact trivial
      case zk =>
      exact Aw.ret ⟨_, .cons (.tmp _) (.cons (.tmp _) .nil), rfl⟩
    · have h : (e != 0) = false := h
      rw [he'] at h; cases h
theorem rLiars_t (s : Sea) (hf : SeaFit s) (b : Bool) (l : List Rep) (hl : (l.length : Int) ≤ 9223372036854775806) :
    Ans Try.prog 27 [.agg s.c, .sl b .any (l.map Rep.c)] (.tup [outW (LiarsR s l).1, .int (LiarsR s l).2]) := Ans_out (rLiars_a s hf b l hl) (leT2 (outA_le _) (.refl _))
end Go.Proofs.Ytohbjneaaahpcaa

namespace Go.Proofs.Ytohbjneaaahpcaa
open Go Go.AL Go.AL.Q Go.AL.Sh
end Go.Proofs.Ytohbjneaaahpcaa

namespace Go.Proofs.Ytohbjneaaahpcaa
open Go Go.AL Go.AL.Q Go.AL.Sh
theorem same_w (l : List Int) (hl : (l.length : Int) ≤ 9223372036854775806) : Ans Try.prog 22 [outW l, outW l] (.bool true) := by
  have := same_t l.isEmpty l.isEmpty l l hl
  rwa [beq_self_eq_true] at this
theorem LiarsR_l (x : Srch) (hx : SrFit x) : ((LiarsR x.s x.l).1.length : Int) ≤ 9223372036854775806 := by
  have := hx.l
  unfold LiarsR
  split
  · split
    · split
      · have := liarK_len x.s x.l (fewF x.s x.l) x.l.length
        show ((liarK x.s x.l (fewF x.s x.l) x.l.length).length : Int) ≤ _; omega
      · show ((0 : Nat) : Int) ≤ _; decide
    · show ((0 : Nat) : Int) ≤ _; decide
  · show ((0 : Nat) : Int) ≤ _; decide
theorem law_lies (x : Srch) (hx : SrFit x) : Ans Try.prog 5 [.agg x.c] (.bool true) := by
  have c1 := Liars_w x hx
  have c2 : Ans Try.prog 27 [.agg x.s.c, x.rA] _ := rLiars_t x.s hx.s x.rn x.l hx.l
  have c3 := same_w _ (LiarsR_l x hx)
  refine told Try.func5 rfl rfl (Pure.of tab_ok Try.func5 rfl Try.ntmps5 rfl (all1 (.agg _ x.free)) (all1 (fun _ => rfl)) (by first | exact .s _ | assumption | exact .tup _ (by intro x hx; simp only [List.mem_cons, List.not_mem_nil, or_false] at hx; rcases hx with rfl | rfl | rfl | rfl <;> first | exact .s _ | (simp_all; done))) fun E hE => ?_)
  generalize LiarsR x.s x.l = R at *
  obtain ⟨G, e⟩ := R
  simp only at c1 c2 c3
  refine Aw.sm tab_ok mb0 [] rfl rfl ?zo ?zk
  case zo =>
    repeat' apply AllP.cons
    all_goals first | exact trivial
  case zk =>
  refine Aw.sm tab_ok mb0 [(4, [.tup [outW G, .int e]])] rfl rfl ?zo ?zk
  case zo =>
    repeat' apply AllP.cons
    all_goals first | exact trivial | exact Nat.le_of_ble_eq_true rfl | exact c1
  case zk =>
  refine Aw.sm tab_ok mb0 [(4, [.tup [outW G, .int e]])] rfl rfl ?zo ?zk
  case zo =>
    repeat' apply AllP.cons
    all_goals first | exact trivial | exact Nat.le_of_ble_eq_true rfl | exact c2
  case zk =>
  refine Aw.sm tab_ok mb0 [(2, [.bool true]), (9, [.bool true])] rfl rfl ?zo ?zk
  case zo =>
    repeat' apply AllP.cons
    all_goals first | exact trivial | exact id | exact fun _ => rfl | exact fun _ => works_t | exact c3
  case zk =>
  have hfin : cond (cond true (e == e) false) true false = true := by simp
  exact Aw.ret ⟨_, .cons (.tmp _) .nil, congrArg A.bool hfin⟩
theorem lies_l (x : Srch) (hx : SrFit2 x) : Ans Try.prog 5 [.agg x.c] (.bool true) := law_lies x hx.fit
end Go.Proofs.Ytohbjneaaahpcaa

namespace Go.Proofs.Ytohbjneaaahpcaa
open Go Go.AL Go.ChangeShapes Go.WideShapes Go.ChangeAt Go.RowKit
set_option maxRecDepth 100000 in
theorem shoalLies_lifted (os : Os) (started : os.Started) (H : Type) (enc : TypeId × Value → H) :
    ReturnsInHanded {} Try.checked os 5 .any (Rows.shoalLiesSpec.pre6 enc Try.prog Try.f5 [] false) (Rows.shoalLiesSpec.post enc Try.prog Try.f5 false true false false) := by
  refine lifted2 (tb := 4) (C := Try.checked) own started (by kernel_rfl) Try.func5
    (ChangeSpec.witness6 (enc := enc) (C := Try.checked) false ⟨#[], #[.agg #[.int .i64 0, .int .i64 0, .slice none 0 0, .int .i64 0, .slice none 0 0, .int .i64 0, .slice none 0 0]], []⟩ 8 (by kernel_rfl) (by kernel_rfl) (by kernel_rfl) (by kernel_rfl))
    laidOut ?_ rfl rfl (by kernel_rfl) uBool ?_ ?_
  · rw [Try.params5]; exact all1t (p := fun t => Try.prog.readableRec t = true ∧ t < Try.prog.types.size) t28
  · intro ds hd
    rw [Try.params5] at hd
    match ds, hd with
    | [d0], _ => rfl
  · intro W base args ds p hval hA hwt
    rw [Try.params5] at hA hval
    obtain ⟨v0, d0, rfl, rfl, h0⟩ := trodAll_one hA
    obtain ⟨y0, q0, s0⟩ := arg_srch (φ := fun _ => none) (hval 0 28 v0 rfl rfl) h0 fun k hk => hwt k (List.mem_append.2 (.inl hk))
    exact ⟨_, _, vrs1 q0, lies_l y0 s0⟩
theorem shoalLies_holds : Rows.ShoalLiesSaid :=
  OpenClaim.holds_of_wide 5 Try.f5 rfl rfl rfl rfl rfl rfl rfl ⟨rfl, rfl, rfl, rfl, rfl⟩ rfl rfl rfl rfl rfl (by kernel_rfl) Try.func5 (by kernel_rfl)
    (of_decide_eq_true (by kernel_rfl)) (by unfold Func.isWrapper; first | (rw [if_pos (by decide +kernel)]; kernel_rfl) | (rw [if_neg (by decide +kernel)]; exact ⟨rfl, rfl⟩))
    (fun os started H enc _ => shoalLies_lifted os started H enc)
end Go.Proofs.Ytohbjneaaahpcaa

