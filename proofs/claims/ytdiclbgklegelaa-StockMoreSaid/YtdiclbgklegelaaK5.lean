/- What the proof leans on, part 5: S9 S13 S14 S10 S11 S12 S15. -/
import Derived.Test.YtdiclbgklegelaaK4
set_option linter.all false
namespace Go.Proofs.Ytdiclbgklegelaa
open Go Go.AL Go.AL.Q
theorem areSigns_t (b : Bool) (l : List Sp) (many : Nat) (hl : (l.length : Int) ≤ 9223372036854775806) : Ans Try.prog 63 [.sl b .any (l.map Sp.c), .int many] (.bool (signsOk l many)) := by
  have lz : ((l.map Sp.c).length : Int) = l.length := by simp
  have usl : Under 0 (A.sl b .any (l.map Sp.c)) := (free_map Sp.free _ _ _).under
  refine told Try.func63 rfl rfl (Pure.of tab_ok Try.func63 rfl Try.ntmps63 rfl (allC (free_map Sp.free _ _ _) (all1 (.s _))) (allC (fun _ => rfl) (all1 (fun _ => rfl))) (by first | exact .s _ | assumption | exact .tup _ (by intro x hx; simp only [List.mem_cons, List.not_mem_nil, or_false] at hx; rcases hx with rfl | rfl | rfl | rfl <;> first | exact .s _ | (simp_all; done))) fun E hE => ?_)
  refine Aw.sm tab_ok mb0 [] rfl rfl ?zo ?zk
  case zo =>
    repeat' apply AllP.cons
    all_goals first | exact trivial | exact id | exact rfl | exact fun _ => rfl | exact Nat.le_of_ble_eq_true rfl | exact fun _ => Nat.le_of_ble_eq_true rfl | exact Int.natCast_nonneg _ | exact fun _ => Int.natCast_nonneg _ | exact within_t _ _ _ | exact (within_t _ _ _).un
  case zk =>
  refine Aw.sm tab_ok mb0 [(1, [.bool (wi many 1 6)])] rfl rfl ?zo ?zk
  case zo =>
    repeat' apply AllP.cons
    all_goals first | exact trivial | exact id | exact rfl | exact fun _ => rfl | exact Nat.le_of_ble_eq_true rfl | exact fun _ => Nat.le_of_ble_eq_true rfl | exact Int.natCast_nonneg _ | exact fun _ => Int.natCast_nonneg _ | exact within_t _ _ _ | exact (within_t _ _ _).un
  case zk =>
  have hd : A.bool (cond (wi many 1 6) ((l.length : Int) == many) false) = A.bool (cond (wi many 1 6) (((l.map Sp.c).length : Int) == many) false) := by rw [lz]
  unfold signsOk
  generalize cond (wi many 1 6) ((l.length : Int) == many) false = b0 at *
  refine Aw.seq ?_
  refine Aw.sm tab_ok mb0 [] rfl rfl ?zo ?zk
  case zo =>
    repeat' apply AllP.cons
    all_goals first | exact trivial | exact id | exact rfl | exact fun _ => rfl | exact Nat.le_of_ble_eq_true rfl | exact fun _ => Nat.le_of_ble_eq_true rfl | exact Int.natCast_nonneg _ | exact fun _ => Int.natCast_nonneg _ | exact within_t _ _ _ | exact (within_t _ _ _).un
  case zk =>
  refine Aw.block (Aw.rounds 0 hE [(16, .sl b .any (l.map Sp.c)), (17, .int (l.map Sp.c).length)] (fun k : Nat => [(5, .bool (andAll b0 pctOk l k)), (18, .int k)]) (fun _ => []) (fun k => k ≤ l.length) (fun k => l.length - k) 0
    (Nat.zero_le _) ⟨⟨.refl _, .refl _, trivial⟩, ⟨.of_eq (by rw [andAll_zero]; exact hd), .refl _, trivial⟩, trivial, Nat.zero_le _⟩ ⟨usl, .s _, trivial⟩ (fun _ _ => ⟨.s _, .s _, trivial⟩) (fun _ _ => trivial) fun k hk => ?_)
  refine Aw.sm tab_ok mb0 [] rfl rfl ?zo ?zk
  case zo =>
    repeat' apply AllP.cons
    all_goals first | exact trivial | exact id | exact rfl | exact fun _ => rfl | exact Nat.le_of_ble_eq_true rfl | exact fun _ => Nat.le_of_ble_eq_true rfl | exact Int.natCast_nonneg _ | exact fun _ => Int.natCast_nonneg _ | exact within_t _ _ _ | exact (within_t _ _ _).un
  case zk =>
  refine Aw.seq (Aw.cond rfl (fun h1 => Aw.skip1 ?_) (fun h1 => Aw.exit2 ?_))
  · have hlt : k < l.length := by have := of_decide_eq_true h1; omega
    have hstep := andAll_step (b := b0) (p := pctOk) hlt
    refine Aw.seq (Aw.block ?_)
    refine Aw.sm tab_ok mb0 [(0, l[k].c)] rfl rfl ?zo ?zk
    case zo =>
      repeat' apply AllP.cons
      all_goals first | exact trivial | exact id | exact rfl | exact fun _ => rfl | exact Nat.le_of_ble_eq_true rfl | exact fun _ => Nat.le_of_ble_eq_true rfl | exact Int.natCast_nonneg _ | exact fun _ => Int.natCast_nonneg _ | exact within_t _ _ _ | exact (within_t _ _ _).un | exact get_map hlt
    case zk =>
    refine Aw.em tab_ok mb0 [(2, [.agg l[k].c]), (3, [.bool (pctOk l[k])])] rfl rfl ?zo ?zk
    case zo =>
      repeat' apply AllP.cons
      all_goals first | exact trivial | exact id | exact rfl | exact fun _ => rfl | exact Nat.le_of_ble_eq_true rfl | exact fun _ => Nat.le_of_ble_eq_true rfl | exact Int.natCast_nonneg _ | exact fun _ => Int.natCast_nonneg _ | exact within_t _ _ _ | exact (within_t _ _ _).un | exact fun _ => spanned_t _ _ _
    case zk =>
    refine Aw.em tab_ok mb0 [] rfl rfl ?zo ?zk
    case zo =>
      repeat' apply AllP.cons
      all_goals first | exact trivial | exact id | exact rfl | exact fun _ => rfl | exact Nat.le_of_ble_eq_true rfl | exact fun _ => Nat.le_of_ble_eq_true rfl | exact Int.natCast_nonneg _ | exact fun _ => Int.natCast_nonneg _ | exact within_t _ _ _ | exact (within_t _ _ _).un | exact inrk k (by omega)
    case zk =>
    exact ⟨k + 1, hlt, by omega, ⟨.refl _, .refl _, trivial⟩, ⟨.of_eq (congrArg A.bool hstep), .refl _, trivial⟩, trivial, Nat.zero_le _⟩
  have hle : k = l.length := by have := of_decide_eq_false h1; omega
  subst hle
  rw [andAll_full]
  refine Aw.sm tab_ok mb0 [] rfl rfl ?zo ?zk
  case zo =>
    repeat' apply AllP.cons
    all_goals first | exact trivial | exact id | exact rfl | exact fun _ => rfl | exact Nat.le_of_ble_eq_true rfl | exact fun _ => Nat.le_of_ble_eq_true rfl | exact Int.natCast_nonneg _ | exact fun _ => Int.natCast_nonneg _ | exact within_t _ _ _ | exact (within_t _ _ _).un
  case zk =>
  exact Aw.ret ⟨_, .cons (.tmp _) .nil, rfl⟩
theorem lo_t (s : Sp) : Ans Try.prog 64 [.agg s.c] (.int s.lo) := by
  refine told Try.func64 rfl rfl (Pure.of tab_ok Try.func64 rfl Try.ntmps64 rfl (all1 (.agg _ s.free)) (all1 (fun _ => rfl)) (by first | exact .s _ | assumption | exact .tup _ (by intro x hx; simp only [List.mem_cons, List.not_mem_nil, or_false] at hx; rcases hx with rfl | rfl | rfl | rfl <;> first | exact .s _ | (simp_all; done))) fun E hE => ?_)
  refine Aw.sm tab_ok mb0 [] rfl rfl ?zo ?zk
  case zo =>
    repeat' apply AllP.cons
    all_goals first | exact trivial | exact id | exact rfl | exact fun _ => rfl | exact Nat.le_of_ble_eq_true rfl | exact fun _ => Nat.le_of_ble_eq_true rfl | exact Int.natCast_nonneg _ | exact fun _ => Int.natCast_nonneg _ | exact within_t _ _ _ | exact (within_t _ _ _).un
  case zk =>
  refine Aw.sm tab_ok mb0 [] rfl rfl ?zo ?zk
  case zo =>
    repeat' apply AllP.cons
    all_goals first | exact trivial | exact id | exact rfl | exact fun _ => rfl | exact Nat.le_of_ble_eq_true rfl | exact fun _ => Nat.le_of_ble_eq_true rfl | exact Int.natCast_nonneg _ | exact fun _ => Int.natCast_nonneg _ | exact within_t _ _ _ | exact (within_t _ _ _).un
  case zk =>
  exact Aw.ret ⟨_, .cons (.tmp _) .nil, rfl⟩
theorem hi_t (s : Sp) : Ans Try.prog 65 [.agg s.c] (.int s.hi) := by
  refine told Try.func65 rfl rfl (Pure.of tab_ok Try.func65 rfl Try.ntmps65 rfl (all1 (.agg _ s.free)) (all1 (fun _ => rfl)) (by first | exact .s _ | assumption | exact .tup _ (by intro x hx; simp only [List.mem_cons, List.not_mem_nil, or_false] at hx; rcases hx with rfl | rfl | rfl | rfl <;> first | exact .s _ | (simp_all; done))) fun E hE => ?_)
  refine Aw.sm tab_ok mb0 [] rfl rfl ?zo ?zk
  case zo =>
    repeat' apply AllP.cons
    all_goals first | exact trivial | exact id | exact rfl | exact fun _ => rfl | exact Nat.le_of_ble_eq_true rfl | exact fun _ => Nat.le_of_ble_eq_true rfl | exact Int.natCast_nonneg _ | exact fun _ => Int.natCast_nonneg _ | exact within_t _ _ _ | exact (within_t _ _ _).un
  case zk =>
  refine Aw.sm tab_ok mb0 [] rfl rfl ?zo ?zk
  case zo =>
    repeat' apply AllP.cons
    all_goals first | exact trivial | exact id | exact rfl | exact fun _ => rfl | exact Nat.le_of_ble_eq_true rfl | exact fun _ => Nat.le_of_ble_eq_true rfl | exact Int.natCast_nonneg _ | exact fun _ => Int.natCast_nonneg _ | exact within_t _ _ _ | exact (within_t _ _ _).un
  case zk =>
  exact Aw.ret ⟨_, .cons (.tmp _) .nil, rfl⟩
structure EndOk (g : Nat) (e : Sp → Int) : Prop where
  call : ∀ s : Sp, Ans Try.prog g [.agg s.c] (.int (e s))
  low : ∀ s : Sp, pctOk s = true → 0 ≤ e s ∧ e s ≤ 100
theorem pct_in {s : Sp} (h : pctOk s = true) : 0 ≤ s.lo ∧ s.lo ≤ s.hi ∧ s.hi ≤ 100 := by
  unfold pctOk spannedF at h
  have a := wi_iff.1 (ac1 h)
  have b := wi_iff.1 (ac2 h)
  omega
theorem lo_ok : EndOk 64 Sp.lo := ⟨lo_t, fun s h => by have := pct_in h; omega⟩
theorem hi_ok : EndOk 65 Sp.hi := ⟨hi_t, fun s h => by have := pct_in h; omega⟩
structure SharesIn (races : List NS) (seen : List Sp) : Prop where
  n1 : 1 ≤ races.length
  n3 : races.length ≤ 3
  s1 : 1 ≤ seen.length
  s6 : seen.length ≤ 6
  sn : ∀ s ∈ seen, pctOk s = true
  len : ∀ x ∈ races, x.l.length = seen.length
  all : ∀ x ∈ races, ∀ s ∈ x.l, pctOk s = true
theorem signs_in {l : List Sp} {many : Nat} (h : signsOk l many = true) : 1 ≤ many ∧ many ≤ 6 ∧ l.length = many ∧ ∀ s ∈ l, pctOk s = true := by
  unfold signsOk at h
  have a := wi_iff.1 (ac1 (ac1 h))
  have b := eq_of_beq (ac2 (ac1 h))
  exact ⟨by omega, by omega, by omega, fun s hs => List.all_eq_true.1 (ac2 h) s hs⟩
theorem SharesIn.of {races : List NS} {seen : List Sp} (h : sharesOk races seen = true) : SharesIn races seen := by
  unfold sharesOk at h
  have a := wi_iff.1 (ac1 (ac1 h))
  have b := signs_in (ac2 (ac1 h))
  have c := fun x hx => signs_in (List.all_eq_true.1 (ac2 h) x hx)
  exact ⟨by omega, by omega, b.1, b.2.1, b.2.2.2, fun x hx => (c x hx).2.2.1, fun x hx => (c x hx).2.2.2⟩
theorem mixedL_succ (e : Sp → Int) (mix : List Int) (races : List NS) (k n : Nat) : mixedL e mix races k (n + 1) = mixedL e mix races k n ++ [mix.getD n 0 * e ((races.getD n ⟨false, []⟩).l.getD k ⟨0, 0⟩)] := by
  unfold mixedL; rw [List.range_succ, List.map_append]; rfl
theorem mixedL_len (e : Sp → Int) (mix : List Int) (races : List NS) (k n : Nat) : (mixedL e mix races k n).length = n := by simp [mixedL]
theorem mixed_bd {races : List NS} {seen : List Sp} (hs : SharesIn races seen) {e : Sp → Int} (he : ∀ s, pctOk s = true → 0 ≤ e s ∧ e s ≤ 100) {mix : List Int} (hm : mix.length = races.length) (hmb : ∀ x ∈ mix, 0 ≤ x ∧ x ≤ 100) {k : Nat} (hk : k < seen.length) (n : Nat) (hn : n < mix.length) :
    0 ≤ mix.getD n 0 * e ((races.getD n ⟨false, []⟩).l.getD k ⟨0, 0⟩) ∧ mix.getD n 0 * e ((races.getD n ⟨false, []⟩).l.getD k ⟨0, 0⟩) ≤ 10000 := by
  have h1 : 0 ≤ mix.getD n 0 ∧ mix.getD n 0 ≤ 100 := hmb _ (by rw [List.getD_eq_getElem?_getD, List.getElem?_eq_getElem hn]; exact List.getElem_mem hn)
  have h2 : races.getD n ⟨false, []⟩ ∈ races := by rw [List.getD_eq_getElem?_getD, List.getElem?_eq_getElem (by omega)]; exact List.getElem_mem _
  have h3 := hs.len _ h2
  generalize races.getD n ⟨false, []⟩ = x at *
  have h4 : x.l.getD k ⟨0, 0⟩ ∈ x.l := by rw [List.getD_eq_getElem?_getD, List.getElem?_eq_getElem (by omega)]; exact List.getElem_mem _
  exact mul_bd (x := 100) (y := 100) h1 (he _ (hs.all x h2 _ h4))
theorem mixed_t (g : Nat) (e : Sp → Int) (he : EndOk g e) (races : List NS) (seen : List Sp) (hs : SharesIn races seen) (b p : Bool) (mix : List Int) (hm : mix.length = races.length) (hmb : ∀ x ∈ mix, 0 ≤ x ∧ x ≤ 100) (k : Nat) (hk : k < seen.length) :
    Ans Try.prog 67 [.agg [.fn (.func g) [] []], .sl p .any (ints mix), .sl b .any (races.map NS.c), .int k] (.int (mixedF e mix races k)) := by
  have n3 := hs.n3
  have n1 := hs.n1
  have lm := ints_lenI mix
  have hfn : ∀ x ∈ [A.fn (.func g) [] []], Free x := all1 (.fn _ _ _ allN allN)
  have um : ∀ {n}, Under n (A.sl p .any (ints mix)) := (free_ints _ _ _).under
  have ur : ∀ {n}, Under n (A.sl b .any (races.map NS.c)) := (free_map NS.free _ _ _).under
  have uf : ∀ {n}, Under n (A.pt [A.fn (.func g) [] []]) := (Free.pt _ hfn).under
  refine told Try.func67 rfl rfl (Pure.of tab_ok Try.func67 rfl Try.ntmps67 rfl (allC (.agg _ hfn) (allC (free_ints _ _ _) (allC (free_map NS.free _ _ _) (all1 (.s _))))) (allC (fun _ => rfl) (allC (fun _ => rfl) (allC (fun _ => rfl) (all1 (fun _ => rfl))))) (by first | exact .s _ | assumption | exact .tup _ (by intro x hx; simp only [List.mem_cons, List.not_mem_nil, or_false] at hx; rcases hx with rfl | rfl | rfl | rfl <;> first | exact .s _ | (simp_all; done))) fun E hE => ?_)
  refine Aw.sm tab_ok mb0 [] rfl rfl ?zo ?zk
  case zo =>
    repeat' apply AllP.cons
    all_goals first | exact trivial | exact id | exact rfl | exact fun _ => rfl | exact Nat.le_of_ble_eq_true rfl | exact fun _ => Nat.le_of_ble_eq_true rfl | exact Int.natCast_nonneg _ | exact fun _ => Int.natCast_nonneg _ | exact within_t _ _ _ | exact (within_t _ _ _).un
  case zk =>
  refine Aw.sm tab_ok mb0 [] rfl rfl ?zo ?zk
  case zo =>
    repeat' apply AllP.cons
    all_goals first | exact trivial | exact id | exact rfl | exact fun _ => rfl | exact Nat.le_of_ble_eq_true rfl | exact fun _ => Nat.le_of_ble_eq_true rfl | exact Int.natCast_nonneg _ | exact fun _ => Int.natCast_nonneg _ | exact within_t _ _ _ | exact (within_t _ _ _).un
  case zk =>
  refine Aw.seq ?_
  refine Aw.sm tab_ok mb0 [] rfl rfl ?zo ?zk
  case zo =>
    repeat' apply AllP.cons
    all_goals first | exact trivial | exact id | exact rfl | exact fun _ => rfl | exact Nat.le_of_ble_eq_true rfl | exact fun _ => Nat.le_of_ble_eq_true rfl | exact Int.natCast_nonneg _ | exact fun _ => Int.natCast_nonneg _ | exact within_t _ _ _ | exact (within_t _ _ _).un
  case zk =>
  refine Aw.block (Aw.rounds (ι := Nat) 0 hE [(2, .sl b .any (races.map NS.c)), (3, .int k), (4, .pt [.fn (.func g) [] []]), (12, .sl p .any (ints mix)), (13, .int (ints mix).length)] (fun n => [(9, grL 3 (mixedL e mix races k n)), (14, .int n)]) (fun _ => []) (fun n => n ≤ mix.length) (fun n => mix.length - n) 0
    (Nat.zero_le _) ⟨⟨.refl _, .refl _, .refl _, .refl _, .refl _, trivial⟩, ⟨.refl _, .refl _, trivial⟩, trivial, Nat.zero_le _⟩ ⟨ur, .s _, uf, um, .s _, trivial⟩ (fun _ _ => ⟨grL_under _, .s _, trivial⟩) (fun _ _ => trivial) fun n hn => ?_)
  refine Aw.sm tab_ok mb0 [] rfl rfl ?zo ?zk
  case zo =>
    repeat' apply AllP.cons
    all_goals first | exact trivial | exact id | exact rfl | exact fun _ => rfl | exact Nat.le_of_ble_eq_true rfl | exact fun _ => Nat.le_of_ble_eq_true rfl | exact Int.natCast_nonneg _ | exact fun _ => Int.natCast_nonneg _ | exact within_t _ _ _ | exact (within_t _ _ _).un
  case zk =>
  refine Aw.seq (Aw.cond rfl (fun h1 => Aw.skip1 ?_) (fun h1 => Aw.exit2 ?_))
  · have hlt : n < mix.length := by have := of_decide_eq_true h1; omega
    have hbd := mixed_bd hs he.low hm hmb hk n hlt
    have es := mixedL_succ e mix races k n
    have el := mixedL_len e mix races k n
    have hg : (races.map NS.c)[n]? = some (races.getD n ⟨false, []⟩).c := by rw [get_map (by omega)]; simp [List.getD_eq_getElem?_getD, show n < races.length by omega]
    have hx : (races.getD n ⟨false, []⟩).l.length = seen.length := hs.len (races.getD n ⟨false, []⟩) (by rw [List.getD_eq_getElem?_getD, List.getElem?_eq_getElem (show n < races.length by omega)]; exact List.getElem_mem _)
    generalize races.getD n ⟨false, []⟩ = x at *
    have hg2 : (x.l.map Sp.c)[k]? = some (x.l.getD k ⟨0, 0⟩).c := by rw [get_map (by omega)]; simp [List.getD_eq_getElem?_getD, show k < x.l.length by omega]
    generalize x.l.getD k ⟨0, 0⟩ = sp at *
    have om : inR (mix.getD n 0 * e sp) := by simp only [inR]; omega
    refine Aw.seq (Aw.block ?_)
    refine Aw.sm tab_ok mb0 [(1, [.int (mix.getD n 0)])] rfl rfl ?zo ?zk
    case zo =>
      repeat' apply AllP.cons
      all_goals first | exact trivial | exact id | exact rfl | exact fun _ => rfl | exact Nat.le_of_ble_eq_true rfl | exact fun _ => Nat.le_of_ble_eq_true rfl | exact Int.natCast_nonneg _ | exact fun _ => Int.natCast_nonneg _ | exact within_t _ _ _ | exact (within_t _ _ _).un | exact ints_getD hlt
    case zk =>
    cases hsp : mixedL e mix races k n with
    | nil =>
      rw [hsp] at es
      refine Aw.ed tab_ok mixed mb0 [(6, x.c), (9, sp.c), (10, [.agg sp.c]), (11, [.int (e sp)])] rfl (by kernel_rfl) rfl rfl ?zo ?zk
      case zo =>
        repeat' apply AllP.cons
        all_goals first | exact trivial | exact id | exact rfl | exact fun _ => rfl | exact Nat.le_of_ble_eq_true rfl | exact fun _ => Nat.le_of_ble_eq_true rfl | exact Int.natCast_nonneg _ | exact fun _ => Int.natCast_nonneg _ | exact within_t _ _ _ | exact (within_t _ _ _).un | exact hg | exact hg2 | exact he.call sp | exact om | exact (show ∀ z ∈ [] ++ [[A.int _]], z.length = 1 from fun z hz => by simp at hz; subst hz; rfl) | exact (by simp only [Ob.of]; decide)
      case zk =>
      refine Aw.em tab_ok mb0 [] rfl rfl ?zo ?zk
      case zo =>
        repeat' apply AllP.cons
        all_goals first | exact trivial | exact id | exact rfl | exact fun _ => rfl | exact Nat.le_of_ble_eq_true rfl | exact fun _ => Nat.le_of_ble_eq_true rfl | exact Int.natCast_nonneg _ | exact fun _ => Int.natCast_nonneg _ | exact within_t _ _ _ | exact (within_t _ _ _).un | exact inrk n (by omega)
      case zk =>
      exact ⟨n + 1, hlt, by omega, ⟨.refl _, .refl _, .refl _, .refl _, .refl _, trivial⟩, ⟨.of_eq (show grL 3 (mixedL e mix races k (n + 1)) = A.sl false (.own 3) ([] ++ [[A.int (mix.getD n 0 * e sp)]]) by rw [es]; rfl), .refl _, trivial⟩, trivial, Nat.zero_le _⟩
    | cons y ys =>
      rw [hsp] at es el
      have hlen2 : (ints (y :: ys)).length = n := by rw [ints_len]; exact el
      have hz := ints_one (y :: ys)
      refine Aw.ed tab_ok mixed mb0 [(6, x.c), (9, sp.c), (10, [.agg sp.c]), (11, [.int (e sp)])] rfl (by kernel_rfl) rfl rfl ?zo ?zk
      case zo =>
        repeat' apply AllP.cons
        all_goals first | exact trivial | exact id | exact rfl | exact fun _ => rfl | exact Nat.le_of_ble_eq_true rfl | exact fun _ => Nat.le_of_ble_eq_true rfl | exact Int.natCast_nonneg _ | exact fun _ => Int.natCast_nonneg _ | exact within_t _ _ _ | exact (within_t _ _ _).un | exact hg | exact hg2 | exact he.call sp | exact om | exact (show ∀ z ∈ [[A.int _]], z.length = 1 from fun z hz => by simp at hz; subst hz; rfl) | exact hz | exact (show ((ints (y :: ys)).length + 1) * 8 ≤ 140737488355328 by omega) | exact (show (ints (y :: ys)).length + 1 ≤ maxLen by unfold maxLen; omega)
      case zk =>
      refine Aw.em tab_ok mb0 [] rfl rfl ?zo ?zk
      case zo =>
        repeat' apply AllP.cons
        all_goals first | exact trivial | exact id | exact rfl | exact fun _ => rfl | exact Nat.le_of_ble_eq_true rfl | exact fun _ => Nat.le_of_ble_eq_true rfl | exact Int.natCast_nonneg _ | exact fun _ => Int.natCast_nonneg _ | exact within_t _ _ _ | exact (within_t _ _ _).un | exact inrk n (by omega)
      case zk =>
      exact ⟨n + 1, hlt, by omega, ⟨.refl _, .refl _, .refl _, .refl _, .refl _, trivial⟩, ⟨.of_eq (show grL 3 (mixedL e mix races k (n + 1)) = A.sl false (.own 3) (ints (y :: ys) ++ [[A.int (mix.getD n 0 * e sp)]]) by rw [es]; simp [grL, ints]), .refl _, trivial⟩, trivial, Nat.zero_le _⟩
  have hle : n = mix.length := by have := of_decide_eq_false h1; omega
  subst hle
  have el := mixedL_len e mix races k mix.length
  have hbd : ∀ y ∈ mixedL e mix races k mix.length, 0 ≤ y ∧ y ≤ 10000 := fun y hy => by
    obtain ⟨i, hi, rfl⟩ := List.mem_map.1 hy
    exact mixed_bd hs he.low hm hmb hk i (List.mem_range.1 hi)
  have hsum := sum_out (mixedL e mix races k mix.length) (sum_g _ 10000 (by omega) (by decide) hbd) (by omega)
  have hd : (grL 3 (mixedL e mix races k mix.length)).down = outA (mixedL e mix races k mix.length) := grL_down _
  unfold mixedF
  cases hsp : mixedL e mix races k mix.length with
  | nil => rw [hsp] at el; simp at el; omega
  | cons y ys =>
    rw [hsp] at hsum
    refine Aw.sm tab_ok mb0 [(1, [.int (y :: ys).sum])] rfl rfl ?zo ?zk
    case zo =>
      repeat' apply AllP.cons
      all_goals first | exact trivial | exact id | exact rfl | exact fun _ => rfl | exact Nat.le_of_ble_eq_true rfl | exact fun _ => Nat.le_of_ble_eq_true rfl | exact Int.natCast_nonneg _ | exact fun _ => Int.natCast_nonneg _ | exact within_t _ _ _ | exact (within_t _ _ _).un | exact hsum
    case zk =>
    exact Aw.ret ⟨_, .cons (.tmp _) .nil, rfl⟩
theorem mixings_t (n : Int) : Ans Try.prog 66 [.int n] (.fn (.func 87) [] [.pt [.int n]]) := by
  have hfr : Free (.fn (.func 87) [] [.pt [.int n]]) := .fn _ _ _ allN (all1 (.pt _ (all1 (.s _))))
  refine told Try.func66 rfl rfl (Pure.of tab_ok Try.func66 rfl Try.ntmps66 rfl (all1 (.s _)) (all1 (fun _ => rfl)) (by first | exact .s _ | assumption | exact .tup _ (by intro x hx; simp only [List.mem_cons, List.not_mem_nil, or_false] at hx; rcases hx with rfl | rfl | rfl | rfl <;> first | exact .s _ | (simp_all; done))) fun E hE => ?_)
  refine Aw.sm tab_ok mb0 [] rfl rfl ?zo ?zk
  case zo =>
    repeat' apply AllP.cons
    all_goals first | exact trivial | exact id | exact rfl | exact fun _ => rfl | exact Nat.le_of_ble_eq_true rfl | exact fun _ => Nat.le_of_ble_eq_true rfl | exact Int.natCast_nonneg _ | exact fun _ => Int.natCast_nonneg _ | exact within_t _ _ _ | exact (within_t _ _ _).un
  case zk =>
  refine Aw.sm tab_ok mb0 [] rfl rfl ?zo ?zk
  case zo =>
    repeat' apply AllP.cons
    all_goals first | exact trivial | exact id | exact rfl | exact fun _ => rfl | exact Nat.le_of_ble_eq_true rfl | exact fun _ => Nat.le_of_ble_eq_true rfl | exact Int.natCast_nonneg _ | exact fun _ => Int.natCast_nonneg _ | exact within_t _ _ _ | exact (within_t _ _ _).un
  case zk =>
  exact Aw.ret ⟨_, .cons (.tmp _) .nil, rfl⟩
end Go.Proofs.Ytdiclbgklegelaa

namespace Go.Proofs.Ytdiclbgklegelaa
open Go Go.AL Go.AL.Q
set_option maxRecDepth 100000 in
theorem eq125 (a c : Int) : pureRun Try.prog (Op.equal 125 (.agg #[.int .i64 a]) (.agg #[.int .i64 c])) = some (a == c) := by
  have h1 : pureRun Try.prog (underlying 125) = Try.prog.underlying 125 := rfl
  have h2 : pureRun Try.prog program = some Try.prog := rfl
  have h3 : Try.prog.stoodInHeld 125 = false := by kernel_rfl
  have p1 : ∀ x : Value, pureRun Try.prog (part 3 #[x] 0) = some x := fun x => rfl
  have pp : ∀ {α : Type} (x : α), pureRun Try.prog (pure x) = some x := fun x => rfl
  rw [Op.equal, Op.maxDepth, show (10000 : Nat) = 9999 + 1 from rfl, Op.equalIn, pureRun_bind, h1, Try.underlying125]
  simp only [Option.bind_some, pureRun_bind, h2, h3]
  by_cases h : a = c
  · subst h
    simp [pureRun_bind, p1, eq3, pp]
  · have e : (a == c) = false := by simpa using h
    simp [pureRun_bind, p1, eq3, pp, e]
def setE (n : Int) : List Value := [.int .i64 n]
def valC (c : Cel) : A := .agg c.c
set_option maxRecDepth 100000 in
theorem ktyS : KeyTy Try.prog 125 setE where
  und := ⟨_, Try.underlying125, fun _ _ => rfl⟩
  eq := fun a b => by
    show pureRun Try.prog (Op.equal 125 (.agg #[.int .i64 _]) (.agg #[.int .i64 _])) = _
    rw [eq125]
  ck := fun e a => rfl
  bits := fun a => by simp [Instr.sameBits, setE]
theorem lk_spare (m : List (Int × Cel)) (x : Int) : LkIs Try.prog tab 125 122 (encM setE valC m) (keyA setE x) (.agg ((mget m x).getD ⟨0, 0⟩).c) (mget m x).isSome :=
  ktyS.lk valC m x (by cases mget m x <;> rfl) rfl
theorem eg125 : Try.prog.eqGuardType Try.prog.depth 125 = false := by kernel_rfl
set_option maxRecDepth 100000 in
theorem eqSet (x y : Operand) (a b : Int) : EqIs tab .eql 125 x y (.agg [.int a]) (.agg [.int b]) (a == b) := by
  refine ⟨.agg #[.int .i64 a], .agg #[.int .i64 b], rfl, rfl, (congrFun (congrFun (congrFun (congrFun (congrFun (congrFun (show tab.eqv = pureEq Try.prog from rfl) _) _) _) _) _) _).trans ?_⟩
  show pureEq Try.prog .eql 125 x y (.agg #[.int .i64 a]) (.agg #[.int .i64 b]) = _
  have hp : pureRun Try.prog program = some Try.prog := rfl
  have pp : ∀ {α : Type} (x : α), pureRun Try.prog (pure x) = some x := fun x => rfl
  have e1 : pureRun Try.prog (eqGuard .eql 125 x y (.agg #[.int .i64 a]) (.agg #[.int .i64 b])) = some () := by
    simp [eqGuard, pureRun_bind, hp, eg125, pp]
  have e2 : pureRun Try.prog (binOp .eql 125 (.agg #[.int .i64 a]) (.agg #[.int .i64 b])) = some (.bool (a == b)) := by
    have : binOp .eql 125 (.agg #[.int .i64 a]) (.agg #[.int .i64 b]) = (Op.equal 125 (.agg #[.int .i64 a]) (.agg #[.int .i64 b]) >>= fun b => pure (.bool b)) := rfl
    rw [this, pureRun_bind, eq125]; rfl
  unfold pureEq
  rw [pureRun_bind, e1]
  exact e2
def memH (m : List (Int × Cel)) : List (Nat × B) := [(5, .map (encM setE valC m))]
theorem encM_free (m : List (Int × Cel)) : ∀ p ∈ encM setE valC m, Free p.1 ∧ Free p.2 := fun p hp => by
  obtain ⟨q, _, rfl⟩ := List.mem_map.1 hp
  exact ⟨.agg _ (all1 (.s _)), .agg _ q.2.free⟩
theorem memH_under (m : List (Int × Cel)) {n : Nat} (h : 5 < n) : UnderH n (memH m) := ⟨⟨h, .map _ fun p hp => ⟨(encM_free m p hp).1.under, (encM_free m p hp).2.under⟩⟩, trivial⟩
theorem spared_t (b : Bool) (cells : List Cel) (hc : CelsIn cells) (x : Int) (m : List (Int × Cel)) (hm : MemoOk cells m) :
    SCall Try.prog 83 [.agg [.sl b .any (cells.map Cel.c), .mp 5], .agg [.int x]] (ofH (memH m)) 8 (fun v H' _ => v = .agg (spareF cells x).c ∧ ∃ m', MemoOk cells m' ∧ H' = ofH (memH m')) := by
  have n12 := hc.n
  have zc : ((cells.map Cel.c).length : Int) = cells.length := by simp
  have usl : ∀ {n}, Under n (A.sl b .any (cells.map Cel.c)) := (free_map Cel.free _ _ _).under
  have u2 : ∀ {n}, 5 < n → Under n (A.pt [.sl b .any (cells.map Cel.c), .mp 5]) := fun h => .pt _ (allC usl (all1 (.mp _ h)))
  have ux : ∀ {n}, Under n (A.pt [A.int x]) := .pt _ (all1 (.s _))
  refine SCall.drop (post := fun v H' _ => v = .agg (spareF cells x).c ∧ ∃ m', MemoOk cells m' ∧ HasH H' (memH m')) (SCall.of_bodyN tab_ok Try.func83 rfl Try.ntmps83 (Nat.le_of_ble_eq_true rfl) (allC (fun _ => rfl) (all1 fun _ => rfl)) fun E hE => ?_)
    (fun v H' c' h => by obtain ⟨h1, m', h2, h3⟩ := h; exact ⟨ofH (memH m'), h3.ofH, h1, m', h2, rfl⟩)
  refine Aw.sm tab_ok mb0 [] rfl rfl ?zo ?zk
  case zo =>
    repeat' apply AllP.cons
    all_goals first | exact trivial | exact id | exact rfl | exact fun _ => rfl | exact Nat.le_of_ble_eq_true rfl | exact fun _ => Nat.le_of_ble_eq_true rfl | exact Int.natCast_nonneg _ | exact fun _ => Int.natCast_nonneg _ | exact within_t _ _ _ | exact (within_t _ _ _).un
  case zk =>
  refine Aw.sm tab_ok mb0 [(3, [.agg ((mget m x).getD ⟨0, 0⟩).c, .bool (mget m x).isSome])] rfl rfl ?zo ?zk
  case zo =>
    repeat' apply AllP.cons
    all_goals first | exact trivial | exact id | exact rfl | exact fun _ => rfl | exact Nat.le_of_ble_eq_true rfl | exact fun _ => Nat.le_of_ble_eq_true rfl | exact Int.natCast_nonneg _ | exact fun _ => Int.natCast_nonneg _ | exact within_t _ _ _ | exact (within_t _ _ _).un | exact lk_spare m x
  case zk =>
  refine Aw.keep (n := 10) (cst := [(2, .pt [.sl b .any (cells.map Cel.c), .mp 5]), (3, .pt [.int x]), (4, .ref 8 0), (5, .ref 9 0), (6, .bool (mget m x).isSome)]) (v := []) (Hl := [(5, .map (encM setE valC m)), (8, .cells [.int 0, .int 0]), (9, .cells ((mget m x).getD ⟨0, 0⟩).c)]) (fun i h => hE i (by omega)) ⟨u2 (by decide), ux, .ref _ _ (by decide), .ref _ _ (by decide), .s _, trivial⟩ trivial ⟨(memH_under m (by decide)).1, ⟨by decide, .cells _ (allC (.s _) (all1 (.s _)))⟩, ⟨by decide, .cells _ (allC (.s _) (all1 (.s _)))⟩, trivial⟩
    ⟨⟨.refl _, .refl _, .refl _, .refl _, .refl _, trivial⟩, trivial, ⟨rfl, rfl, rfl, trivial⟩, Nat.le_of_ble_eq_true rfl⟩ ?_
  refine Aw.seq ?_
  refine Aw.sm tab_ok mb0 [(4, [.bool (x == 0)])] rfl rfl ?zo ?zk
  case zo =>
    repeat' apply AllP.cons
    all_goals first | exact trivial | exact id | exact rfl | exact fun _ => rfl | exact Nat.le_of_ble_eq_true rfl | exact fun _ => Nat.le_of_ble_eq_true rfl | exact Int.natCast_nonneg _ | exact fun _ => Int.natCast_nonneg _ | exact within_t _ _ _ | exact (within_t _ _ _).un | exact fun _ => eqSet _ _ x 0 | exact gq_f
  case zk =>
  refine Aw.cond rfl (fun h1 => ?_) (fun h1 => Aw.skip ?_)
  · have h1 : cond (mget m x).isSome true (x == 0) = true := h1
    have hv : (mget m x).getD ⟨0, 0⟩ = spareF cells x := by
      cases hg : mget m x with
      | some c => exact hm x c hg
      | none =>
        rw [hg] at h1
        have h1 : (x == 0) = true := h1
        rw [eq_of_beq h1]
        exact (spare_zero cells _).symm
    rw [hv]
    refine Aw.sm tab_ok mb0 [] rfl rfl ?zo ?zk
    case zo =>
      repeat' apply AllP.cons
      all_goals first | exact trivial | exact id | exact rfl | exact fun _ => rfl | exact Nat.le_of_ble_eq_true rfl | exact fun _ => Nat.le_of_ble_eq_true rfl | exact Int.natCast_nonneg _ | exact fun _ => Int.natCast_nonneg _ | exact within_t _ _ _ | exact (within_t _ _ _).un
    case zk =>
    exact Aw.ret ⟨_, .cons (resC rfl rfl (by decide) rfl rfl) .nil, rfl, m, hm, ⟨rfl, trivial⟩⟩
  have h1 : cond (mget m x).isSome true (x == 0) = false := h1
  have hnone : mget m x = none := by
    cases hg : mget m x with
    | some c => rw [hg] at h1; cases h1
    | none => rfl
  rw [hnone]
  refine Aw.seq ?_
  refine Aw.sm tab_ok mb0 [] rfl rfl ?zo ?zk
  case zo =>
    repeat' apply AllP.cons
    all_goals first | exact trivial | exact id | exact rfl | exact fun _ => rfl | exact Nat.le_of_ble_eq_true rfl | exact fun _ => Nat.le_of_ble_eq_true rfl | exact Int.natCast_nonneg _ | exact fun _ => Int.natCast_nonneg _ | exact within_t _ _ _ | exact (within_t _ _ _).un
  case zk =>
  refine Aw.block (Aw.rounds (ι := Nat) 10 (fun i h => hE i (by omega)) [(2, .pt [.sl b .any (cells.map Cel.c), .mp 5]), (3, .pt [.int x]), (4, .ref 8 0), (5, .ref 9 0), (24, .sl b .any (cells.map Cel.c)), (25, .int (cells.map Cel.c).length)] (fun k => [(26, .int k)]) (fun k => [(5, .map (encM setE valC m)), (8, .cells [.int 0, .int 0]), (9, .cells (spareN cells x k).c)])
    (fun k => k ≤ cells.length) (fun k => cells.length - k) 0
    (Nat.zero_le _) ⟨⟨.refl _, .refl _, .refl _, .refl _, .refl _, .refl _, trivial⟩, ⟨.refl _, trivial⟩, ⟨rfl, rfl, rfl, trivial⟩, Nat.le_refl _⟩ ⟨u2 (by decide), ux, .ref _ _ (by decide), .ref _ _ (by decide), usl, .s _, trivial⟩ (fun _ _ => ⟨.s _, trivial⟩)
    (fun k _ => ⟨(memH_under m (by decide)).1, ⟨by decide, .cells _ (allC (.s _) (all1 (.s _)))⟩, ⟨by decide, .cells _ (allC (.s _) (all1 (.s _)))⟩, trivial⟩) fun k hk => ?_)
  refine Aw.sm tab_ok mb0 [] rfl rfl ?zo ?zk
  case zo =>
    repeat' apply AllP.cons
    all_goals first | exact trivial | exact id | exact rfl | exact fun _ => rfl | exact Nat.le_of_ble_eq_true rfl | exact fun _ => Nat.le_of_ble_eq_true rfl | exact Int.natCast_nonneg _ | exact fun _ => Int.natCast_nonneg _ | exact within_t _ _ _ | exact (within_t _ _ _).un
  case zk =>
  refine Aw.seq (Aw.cond rfl (fun h1 => Aw.skip1 ?_) (fun h1 => Aw.exit2 ?_))
  · have hlt : k < cells.length := by have := of_decide_eq_true h1; omega
    have hbd := spare_bd hc x k
    have hat := hc.at k
    have hg : (cells.map Cel.c)[k]? = some (cells.getD k ⟨0, 0⟩).c := by rw [get_map hlt]; simp [List.getD_eq_getElem?_getD, hlt]
    have hs : spareN cells x (k + 1) = if bitI x k then ⟨(spareN cells x k).sp + (cells.getD k ⟨0, 0⟩).sp, (spareN cells x k).la + (cells.getD k ⟨0, 0⟩).la⟩ else spareN cells x k := rfl
    generalize cells.getD k ⟨0, 0⟩ = c at *
    generalize spareN cells x k = sn at *
    refine Aw.seq (Aw.block ?_)
    refine Aw.sm tab_ok mb0 [(1, c.c)] rfl rfl ?zo ?zk
    case zo =>
      repeat' apply AllP.cons
      all_goals first | exact trivial | exact id | exact rfl | exact fun _ => rfl | exact Nat.le_of_ble_eq_true rfl | exact fun _ => Nat.le_of_ble_eq_true rfl | exact Int.natCast_nonneg _ | exact fun _ => Int.natCast_nonneg _ | exact within_t _ _ _ | exact (within_t _ _ _).un | exact hg
    case zk =>
    refine Aw.sm tab_ok mb0 [] rfl rfl ?zo ?zk
    case zo =>
      repeat' apply AllP.cons
      all_goals first | exact trivial | exact id | exact rfl | exact fun _ => rfl | exact Nat.le_of_ble_eq_true rfl | exact fun _ => Nat.le_of_ble_eq_true rfl | exact Int.natCast_nonneg _ | exact fun _ => Int.natCast_nonneg _ | exact within_t _ _ _ | exact (within_t _ _ _).un
    case zk =>
    refine Aw.cond rfl (fun h2 => ?_) (fun h2 => Aw.skip ?_)
    · have h2' : bitI x k = true := h2
      rw [if_pos h2'] at hs
      refine Aw.em tab_ok mb0 [] rfl rfl ?zo ?zk
      case zo =>
        repeat' apply AllP.cons
        all_goals first | exact trivial | exact id | exact rfl | exact fun _ => rfl | exact Nat.le_of_ble_eq_true rfl | exact fun _ => Nat.le_of_ble_eq_true rfl | exact Int.natCast_nonneg _ | exact fun _ => Int.natCast_nonneg _ | exact within_t _ _ _ | exact (within_t _ _ _).un | exact (by simp only [Ob.of, inR]; omega)
      case zk =>
      refine Aw.em tab_ok mb0 [] rfl rfl ?zo ?zk
      case zo =>
        repeat' apply AllP.cons
        all_goals first | exact trivial | exact id | exact rfl | exact fun _ => rfl | exact Nat.le_of_ble_eq_true rfl | exact fun _ => Nat.le_of_ble_eq_true rfl | exact Int.natCast_nonneg _ | exact fun _ => Int.natCast_nonneg _ | exact within_t _ _ _ | exact (within_t _ _ _).un | exact inrk k (by omega)
      case zk =>
      exact ⟨k + 1, hlt, by omega, ⟨.refl _, .refl _, .refl _, .refl _, .refl _, .refl _, trivial⟩, ⟨.refl _, trivial⟩, ⟨rfl, rfl, by rw [hs]; rfl, trivial⟩, Nat.le_of_ble_eq_true rfl⟩
    · have h2' : bitI x k = false := h2
      rw [h2'] at hs
      refine Aw.em tab_ok mb0 [] rfl rfl ?zo ?zk
      case zo =>
        repeat' apply AllP.cons
        all_goals first | exact trivial | exact id | exact rfl | exact fun _ => rfl | exact Nat.le_of_ble_eq_true rfl | exact fun _ => Nat.le_of_ble_eq_true rfl | exact Int.natCast_nonneg _ | exact fun _ => Int.natCast_nonneg _ | exact within_t _ _ _ | exact (within_t _ _ _).un | exact inrk k (by omega)
      case zk =>
      exact ⟨k + 1, hlt, by omega, ⟨.refl _, .refl _, .refl _, .refl _, .refl _, .refl _, trivial⟩, ⟨.refl _, trivial⟩, ⟨rfl, rfl, by rw [hs]; rfl, trivial⟩, Nat.le_of_ble_eq_true rfl⟩
  have hle : k = cells.length := by have := of_decide_eq_false h1; omega
  subst hle
  have hsf : spareN cells x cells.length = spareF cells x := rfl
  rw [hsf]
  have hup : upKV (encM setE valC m) (keyA setE x) (valC (spareF cells x)) (ixOf Try.prog 125 (encM setE valC m) (keyA setE x)) = encM setE valC (mput m x (spareF cells x)) := ktyS.up valC m x (spareF cells x)
  refine Aw.sm tab_ok mb0 [] rfl rfl ?zo ?zk
  case zo =>
    repeat' apply AllP.cons
    all_goals first | exact trivial | exact id | exact rfl | exact fun _ => rfl | exact Nat.le_of_ble_eq_true rfl | exact fun _ => Nat.le_of_ble_eq_true rfl | exact Int.natCast_nonneg _ | exact fun _ => Int.natCast_nonneg _ | exact within_t _ _ _ | exact (within_t _ _ _).un | exact ktyS.has valC m x
  case zk =>
  refine Aw.sm tab_ok mb0 [] rfl rfl ?zo ?zk
  case zo =>
    repeat' apply AllP.cons
    all_goals first | exact trivial | exact id | exact rfl | exact fun _ => rfl | exact Nat.le_of_ble_eq_true rfl | exact fun _ => Nat.le_of_ble_eq_true rfl | exact Int.natCast_nonneg _ | exact fun _ => Int.natCast_nonneg _ | exact within_t _ _ _ | exact (within_t _ _ _).un
  case zk =>
  exact Aw.ret ⟨_, .cons (resC rfl rfl (by decide) rfl rfl) .nil, rfl, mput m x (spareF cells x), hm.put x, ⟨congrArg (fun x => some (B.map x)) hup, trivial⟩⟩
theorem memH_dom (m : List (Int × Cel)) (i : Nat) : (ofH (memH m) i).isSome = true ↔ i = 5 := by
  simp only [memH, ofH, updH_apply]
  by_cases h : i = 5 <;> simp [h]
theorem spared_frame (b : Bool) (cells : List Cel) (hc : CelsIn cells) (x : Int) (m : List (Int × Cel)) (hm : MemoOk cells m) {H : Hp} {c : Nat} (hH : HasH H (memH m)) :
    SCall Try.prog 83 [.agg [.sl b .any (cells.map Cel.c), .mp 5], .agg [.int x]] H c (fun v H' c' => v = .agg (spareF cells x).c ∧ c' = c ∧ ∃ m', MemoOk cells m' ∧ H' = overH H (ofH (memH m)) (ofH (memH m'))) := by
  have dn : (fun i => (ofH (memH m) i).isSome = true) = fun i => i = 5 := by funext i; exact propext (memH_dom m i)
  have nm : ∀ m' id bx, ofH (memH m') id = some bx → id = 5 ∧ NmsB (fun i => i = 5) bx := fun m' id bx hb => by
    have h5 := (memH_dom m' id).1 (by rw [hb]; rfl)
    refine ⟨h5, ?_⟩
    subst h5
    cases hb
    exact .map _ fun p hp => ⟨(encM_free m' p hp).1.nms, (encM_free m' p hp).2.nms⟩
  refine ((spared_t b cells hc x m hm).frame (H := H) (c := c) (fun id bx hb => ?_) (fun id bx hb => ?_) ?_ ?_).mono ?_
  · have := (nm m id bx hb).1; omega
  · rw [dn]; exact ⟨(nm m id bx hb).2, hH.ofH id bx hb⟩
  · rw [dn]
    exact allC (.agg _ (allC (free_map Cel.free _ _ _).nms (all1 (.mp _ rfl)))) (all1 (.agg _ (all1 (.s _))))
  · rintro v H' c' ⟨rfl, m', hm', rfl⟩
    rw [dn]
    refine ⟨.agg _ (fun x hx => (Cel.free _ x hx).nms), fun id bx hb => ?_⟩
    have := nm m' id bx hb
    exact ⟨(memH_dom m id).2 this.1, this.2⟩
  · rintro v H1 c1 ⟨H', c', ⟨rfl, m', hm', rfl⟩, h2, h3⟩
    exact ⟨rfl, h3, m', hm', h2⟩
end Go.Proofs.Ytdiclbgklegelaa

namespace Go.Proofs.Ytdiclbgklegelaa
open Go Go.AL Go.AL.Q
def chFn : A := .fn (.func 82) [] [.ref 6 0, .ref 1 0, .ref 2 0, .ref 0 0, .ref 4 0, .ref 7 0]
def bxH (b : Bool) (cells : List Cel) (sets : List Int) (m : List (Int × Cel)) (s : BSt) : List (Nat × B) :=
  [(0, .cells [outA s.chosen]), (1, .cells [.int s.sp]), (2, .cells [.int s.la]), (4, .cells [.sl false .any (ints sets)]), (5, .map (encM setE valC m)), (6, .cells [.sl b .any (cells.map Cel.c), .mp 5]), (7, .cells [chFn])]
theorem chFn_under {n : Nat} (h : 8 ≤ n) : Under n chFn := .fn _ _ _ (fun _ h => nomatch h) (allC (.ref _ _ (by omega)) (allC (.ref _ _ (by omega)) (allC (.ref _ _ (by omega)) (allC (.ref _ _ (by omega)) (allC (.ref _ _ (by omega)) (all1 (.ref _ _ (by omega))))))))
theorem bxH_under (b : Bool) (cells : List Cel) (sets : List Int) (m : List (Int × Cel)) (s : BSt) {n : Nat} (h : 8 ≤ n) : UnderH n (bxH b cells sets m s) :=
  ⟨⟨by omega, .cells _ (all1 (outA_free _).under)⟩, ⟨by omega, .cells _ (all1 (.s _))⟩, ⟨by omega, .cells _ (all1 (.s _))⟩, ⟨by omega, .cells _ (all1 (free_ints _ _ _).under)⟩, (memH_under m (by omega)).1, ⟨by omega, .cells _ (allC (free_map Cel.free _ _ _).under (all1 (.mp _ (by omega))))⟩, ⟨by omega, .cells _ (all1 (chFn_under h))⟩, trivial⟩
def InBx (i : Nat) : Prop := i = 0 ∨ i = 1 ∨ i = 2 ∨ i = 4 ∨ i = 5 ∨ i = 6 ∨ i = 7
theorem bxH_dom (b : Bool) (cells : List Cel) (sets : List Int) (m : List (Int × Cel)) (s : BSt) (i : Nat) : (ofH (bxH b cells sets m s) i).isSome = true ↔ InBx i := by
  simp only [bxH, ofH, updH_apply, InBx]
  by_cases h0 : i = 0 <;> by_cases h1 : i = 1 <;> by_cases h2 : i = 2 <;> by_cases h4 : i = 4 <;> by_cases h5 : i = 5 <;> by_cases h6 : i = 6 <;> by_cases h7 : i = 7 <;> simp [h0, h1, h2, h4, h5, h6, h7]
theorem chFn_nms : Nms InBx chFn := .fn _ _ _ (fun _ h => nomatch h) (allC (.ref _ _ (by simp [InBx])) (allC (.ref _ _ (by simp [InBx])) (allC (.ref _ _ (by simp [InBx])) (allC (.ref _ _ (by simp [InBx])) (allC (.ref _ _ (by simp [InBx])) (all1 (.ref _ _ (by simp [InBx]))))))))
theorem bxH_nms (b : Bool) (cells : List Cel) (sets : List Int) (m : List (Int × Cel)) (s : BSt) (i : Nat) (bx : B) (h : ofH (bxH b cells sets m s) i = some bx) : InBx i ∧ NmsB InBx bx := by
  refine ⟨(bxH_dom b cells sets m s i).1 (by rw [h]; rfl), ?_⟩
  simp only [bxH, ofH, updH_apply] at h
  split at h
  · cases h; exact .cells _ (all1 (outA_free _).nms)
  · split at h
    · cases h; exact .cells _ (all1 (.s _))
    · split at h
      · cases h; exact .cells _ (all1 (.s _))
      · split at h
        · cases h; exact .cells _ (all1 (free_ints _ _ _).nms)
        · split at h
          · cases h; exact .map _ fun p hp => ⟨(encM_free m p hp).1.nms, (encM_free m p hp).2.nms⟩
          · split at h
            · cases h; exact .cells _ (allC (free_map Cel.free _ _ _).nms (all1 (.mp _ (by simp [InBx]))))
            · split at h
              · cases h; exact .cells _ (all1 chFn_nms)
              · cases h
def BxPost (b : Bool) (cells : List Cel) (sets : List Int) (R : BSt) (v : A) (H' : Hp) (_ : Nat) : Prop := v = .tup [] ∧ ∃ m', MemoOk cells m' ∧ H' = ofH (bxH b cells sets m' R)
abbrev bxArgs (x : A) (y : Int) (many : Int) : List A := [x, .agg [.int y], .int many, .ref 6 0, .ref 1 0, .ref 2 0, .ref 0 0, .ref 4 0, .ref 7 0]
theorem bx_frame {b : Bool} {cells : List Cel} {sets : List Int} {l : List Int} {x : A} {y many : Int} {m : List (Int × Cel)} {s R : BSt} (hx : x = outA l) (h : SCall Try.prog 82 (bxArgs x y many) (ofH (bxH b cells sets m s)) 8 (BxPost b cells sets R)) {H : Hp} {c : Nat} (hH : HasH H (bxH b cells sets m s)) :
    SCall Try.prog 82 (bxArgs x y many) H c fun v H1 c1 => v = .tup [] ∧ c1 = c ∧ ∃ m', MemoOk cells m' ∧ H1 = overH H (ofH (bxH b cells sets m s)) (ofH (bxH b cells sets m' R)) := by
  subst hx
  have dn : (fun i => (ofH (bxH b cells sets m s) i).isSome = true) = InBx := by funext i; exact propext (bxH_dom b cells sets m s i)
  refine (h.frame (H := H) (c := c) (fun id bx hb => ?_) (fun id bx hb => ?_) ?_ ?_).mono ?_
  · rcases (bxH_nms b cells sets m s id bx hb).1 with rfl | rfl | rfl | rfl | rfl | rfl | rfl <;> decide
  · rw [dn]; exact ⟨(bxH_nms b cells sets m s id bx hb).2, hH.ofH id bx hb⟩
  · rw [dn]
    exact allC (outA_free _).nms (allC (.agg _ (all1 (.s _))) (allC (.s _) (allC (.ref _ _ (by simp [InBx])) (allC (.ref _ _ (by simp [InBx])) (allC (.ref _ _ (by simp [InBx])) (allC (.ref _ _ (by simp [InBx])) (allC (.ref _ _ (by simp [InBx])) (all1 (.ref _ _ (by simp [InBx]))))))))))
  · rintro v H' c' ⟨rfl, m', hm', rfl⟩
    rw [dn]
    refine ⟨.tup _ (fun _ h => nomatch h), fun id bx hb => ?_⟩
    have := bxH_nms b cells sets m' R id bx hb
    exact ⟨(bxH_dom b cells sets m s id).2 this.1, this.2⟩
  · rintro v H1 c1 ⟨H', c', ⟨rfl, m', hm', rfl⟩, h2, h3⟩
    exact ⟨rfl, h3, m', hm', h2⟩
theorem better_is (n : Cel) (s : BSt) : cond (decide (n.sp > s.sp)) true (cond (n.sp == s.sp) (decide (n.la < s.la)) false) = better n s := by
  unfold better
  have e : (n.sp == s.sp) = decide (n.sp = s.sp) := by rw [Bool.eq_iff_iff, beq_iff_eq, decide_eq_true_eq]
  rw [e, c_or, c_and]
theorem choose_t (b : Bool) (cells : List Cel) (hc : CelsIn cells) (sets : List Int) (hs8 : sets.length ≤ 8) : ∀ (f : Nat) (l : List Int) (x : Int) (m : List (Int × Cel)) (s : BSt) (many : Nat), l.length + f = many → many ≤ 8 → (∀ i ∈ l, 0 ≤ i ∧ i < sets.length) → MemoOk cells m →
    SCall Try.prog 82 (bxArgs (outA l) x many) (ofH (bxH b cells sets m s)) 8 (BxPost b cells sets (bxF cells sets f l x s)) := by
  intro f
  induction f with
  | zero =>
    intro l x m s many hlen hm hl hgood
    have hch : bxF cells sets 0 l x s = if better (spareF cells x) s then ⟨l, (spareF cells x).sp, (spareF cells x).la⟩ else s := rfl
    rw [hch]
    have hbe := better_is (spareF cells x) s
    have hsp := fun (m : List (Int × Cel)) hm {H : Hp} {c : Nat} hH => spared_frame b cells hc x m hm (H := H) (c := c) hH
    generalize spareF cells x = n at *
    generalize hR : (if better n s then (⟨l, n.sp, n.la⟩ : BSt) else s) = R
    have hli := ints_lenI l
    refine SCall.drop (post := fun v H' _ => v = .tup [] ∧ ∃ m', MemoOk cells m' ∧ HasH H' (bxH b cells sets m' R)) (SCall.of_bodyN tab_ok Try.func82 rfl Try.ntmps82 (Nat.le_of_ble_eq_true rfl) (allC (fun _ => by cases l <;> rfl) (allC (fun _ => rfl) (allC (fun _ => rfl) (allC (fun _ => rfl) (allC (fun _ => rfl) (allC (fun _ => rfl) (allC (fun _ => rfl) (allC (fun _ => rfl) (all1 fun _ => rfl))))))))) fun E hE => ?_)
      (fun v H' c' h => by obtain ⟨h1, m', h2, h3⟩ := h; exact ⟨_, h3.ofH, h1, m', h2, rfl⟩)
    have hE8 : ∀ id, 8 ≤ id → E.φ0 id = none := hE
    cases l with
    | nil =>
      refine Aw.sm tab_ok mb0 [] rfl rfl ?zo ?zk
      case zo =>
        repeat' apply AllP.cons
        all_goals first | exact trivial | exact id | exact rfl | exact fun _ => rfl | exact Nat.le_of_ble_eq_true rfl | exact fun _ => Nat.le_of_ble_eq_true rfl | exact Int.natCast_nonneg _ | exact fun _ => Int.natCast_nonneg _ | exact within_t _ _ _ | exact (within_t _ _ _).un
      case zk =>
      refine Aw.seq ?_
      refine Aw.sm tab_ok mb0 [] rfl rfl ?zo ?zk
      case zo =>
        repeat' apply AllP.cons
        all_goals first | exact trivial | exact id | exact rfl | exact fun _ => rfl | exact Nat.le_of_ble_eq_true rfl | exact fun _ => Nat.le_of_ble_eq_true rfl | exact Int.natCast_nonneg _ | exact fun _ => Int.natCast_nonneg _ | exact within_t _ _ _ | exact (within_t _ _ _).un
      case zk =>
      refine Aw.cond rfl (fun _ => ?_) (fun h2 => ?_)
      · refine Aw.seq (Aw.region rfl ?_)
        refine RegL.partE tab_ok mb0 false 2 0 [] ?_
        conv => arg 5; whnf
        refine PartK.mk ?zo ?zk
        case zo =>
          repeat' apply AllP.cons
          all_goals first | exact trivial | exact id | exact rfl | exact fun _ => rfl | exact Nat.le_of_ble_eq_true rfl | exact fun _ => Nat.le_of_ble_eq_true rfl | exact Int.natCast_nonneg _ | exact fun _ => Int.natCast_nonneg _ | exact within_t _ _ _ | exact (within_t _ _ _).un
        case zk =>
        refine Does.raw rfl (DoesR.call (fst := []) (cap := []) rfl rfl (enters_of Try.func83 rfl rfl) (hsp m hgood (H := _) (c := _) ⟨rfl, trivial⟩) ?_)
        rintro v H' c' ⟨rfl, rfl, m', hm', rfl⟩
        refine RegL.partE tab_ok mb0 false 9 3 [] ?_
        conv => arg 5; whnf
        refine PartK.mk ?zo ?zk
        case zo =>
          repeat' apply AllP.cons
          all_goals first | exact trivial | exact id | exact rfl | exact fun _ => rfl | exact Nat.le_of_ble_eq_true rfl | exact fun _ => Nat.le_of_ble_eq_true rfl | exact Int.natCast_nonneg _ | exact fun _ => Int.natCast_nonneg _ | exact within_t _ _ _ | exact (within_t _ _ _).un
        case zk =>
        refine Aw.keep (n := 9) (cst := [(0, .sl true .exact []), (4, .ref 1 0), (5, .ref 2 0), (6, .ref 0 0), (12, .ref 8 0)]) (v := []) (Hl := (8, .cells n.c) :: bxH b cells sets m' s) (fun i h => hE8 i (by omega)) ⟨(free_ints _ _ []).under, .ref _ _ (by decide), .ref _ _ (by decide), .ref _ _ (by decide), .ref _ _ (by decide), trivial⟩ trivial ⟨⟨by decide, .cells _ (allC (.s _) (all1 (.s _)))⟩, bxH_under b cells sets m' s (by decide)⟩
          ⟨⟨.refl _, .refl _, .refl _, .refl _, .refl _, trivial⟩, trivial, ⟨rfl, rfl, rfl, rfl, rfl, rfl, rfl, rfl, trivial⟩, Nat.le_of_ble_eq_true rfl⟩ ?_
        refine Aw.seq ?_
        refine Aw.sm tab_ok mb0 [] rfl rfl ?zo ?zk
        case zo =>
          repeat' apply AllP.cons
          all_goals first | exact trivial | exact id | exact rfl | exact fun _ => rfl | exact Nat.le_of_ble_eq_true rfl | exact fun _ => Nat.le_of_ble_eq_true rfl | exact Int.natCast_nonneg _ | exact fun _ => Int.natCast_nonneg _ | exact within_t _ _ _ | exact (within_t _ _ _).un | exact gq_f | exact fun h1 h2 => gq_c h1 h2 | exact fun h => gq_c h rfl | exact fun _ _ => rfl
        case zk =>
        refine Aw.cond rfl (fun h2 => ?_) (fun h2 => Aw.skip ?_)
        · have h2' : better n s = true := hbe.symm.trans h2
          rw [if_pos h2'] at hR
          subst hR
          refine Aw.ed tab_ok mixed mb0 [] rfl (by kernel_rfl) rfl rfl ?zo ?zk
          case zo =>
            repeat' apply AllP.cons
            all_goals first | exact trivial | exact id | exact rfl | exact fun _ => rfl | exact Nat.le_of_ble_eq_true rfl | exact fun _ => Nat.le_of_ble_eq_true rfl | exact Int.natCast_nonneg _ | exact fun _ => Int.natCast_nonneg _ | exact within_t _ _ _ | exact (within_t _ _ _).un
          case zk =>
          exact Aw.ret ⟨_, .nil, rfl, m', hm', ⟨rfl, rfl, rfl, rfl, rfl, rfl, rfl, trivial⟩⟩
        · have h2' : better n s = false := hbe.symm.trans h2
          rw [h2'] at hR
          subst hR
          exact Aw.ret ⟨_, .nil, rfl, m', hm', ⟨rfl, rfl, rfl, rfl, rfl, rfl, rfl, trivial⟩⟩
      · have h2 : (((([] : List (List A)).length : Nat) : Int) == many) = false := h2
        have h3 : (((([] : List (List A)).length : Nat) : Int) == many) = true := by rw [beq_iff_eq]; simp at hlen ⊢; omega
        rw [h3] at h2; cases h2
    | cons z l =>
      refine Aw.sm tab_ok mb0 [] rfl rfl ?zo ?zk
      case zo =>
        repeat' apply AllP.cons
        all_goals first | exact trivial | exact id | exact rfl | exact fun _ => rfl | exact Nat.le_of_ble_eq_true rfl | exact fun _ => Nat.le_of_ble_eq_true rfl | exact Int.natCast_nonneg _ | exact fun _ => Int.natCast_nonneg _ | exact within_t _ _ _ | exact (within_t _ _ _).un
      case zk =>
      refine Aw.seq ?_
      refine Aw.sm tab_ok mb0 [] rfl rfl ?zo ?zk
      case zo =>
        repeat' apply AllP.cons
        all_goals first | exact trivial | exact id | exact rfl | exact fun _ => rfl | exact Nat.le_of_ble_eq_true rfl | exact fun _ => Nat.le_of_ble_eq_true rfl | exact Int.natCast_nonneg _ | exact fun _ => Int.natCast_nonneg _ | exact within_t _ _ _ | exact (within_t _ _ _).un
      case zk =>
      refine Aw.cond rfl (fun _ => ?_) (fun h2 => ?_)
      · refine Aw.seq (Aw.region rfl ?_)
        refine RegL.partE tab_ok mb0 false 2 0 [] ?_
        conv => arg 5; whnf
        refine PartK.mk ?zo ?zk
        case zo =>
          repeat' apply AllP.cons
          all_goals first | exact trivial | exact id | exact rfl | exact fun _ => rfl | exact Nat.le_of_ble_eq_true rfl | exact fun _ => Nat.le_of_ble_eq_true rfl | exact Int.natCast_nonneg _ | exact fun _ => Int.natCast_nonneg _ | exact within_t _ _ _ | exact (within_t _ _ _).un
        case zk =>
        refine Does.raw rfl (DoesR.call (fst := []) (cap := []) rfl rfl (enters_of Try.func83 rfl rfl) (hsp m hgood (H := _) (c := _) ⟨rfl, trivial⟩) ?_)
        rintro v H' c' ⟨rfl, rfl, m', hm', rfl⟩
        refine RegL.partE tab_ok mb0 false 9 3 [] ?_
        conv => arg 5; whnf
        refine PartK.mk ?zo ?zk
        case zo =>
          repeat' apply AllP.cons
          all_goals first | exact trivial | exact id | exact rfl | exact fun _ => rfl | exact Nat.le_of_ble_eq_true rfl | exact fun _ => Nat.le_of_ble_eq_true rfl | exact Int.natCast_nonneg _ | exact fun _ => Int.natCast_nonneg _ | exact within_t _ _ _ | exact (within_t _ _ _).un
        case zk =>
        refine Aw.keep (n := 9) (cst := [(0, .sl false .any (ints (z :: l))), (4, .ref 1 0), (5, .ref 2 0), (6, .ref 0 0), (12, .ref 8 0)]) (v := []) (Hl := (8, .cells n.c) :: bxH b cells sets m' s) (fun i h => hE8 i (by omega)) ⟨(free_ints _ _ (z :: l)).under, .ref _ _ (by decide), .ref _ _ (by decide), .ref _ _ (by decide), .ref _ _ (by decide), trivial⟩ trivial ⟨⟨by decide, .cells _ (allC (.s _) (all1 (.s _)))⟩, bxH_under b cells sets m' s (by decide)⟩
          ⟨⟨.refl _, .refl _, .refl _, .refl _, .refl _, trivial⟩, trivial, ⟨rfl, rfl, rfl, rfl, rfl, rfl, rfl, rfl, trivial⟩, Nat.le_of_ble_eq_true rfl⟩ ?_
        refine Aw.seq ?_
        refine Aw.sm tab_ok mb0 [] rfl rfl ?zo ?zk
        case zo =>
          repeat' apply AllP.cons
          all_goals first | exact trivial | exact id | exact rfl | exact fun _ => rfl | exact Nat.le_of_ble_eq_true rfl | exact fun _ => Nat.le_of_ble_eq_true rfl | exact Int.natCast_nonneg _ | exact fun _ => Int.natCast_nonneg _ | exact within_t _ _ _ | exact (within_t _ _ _).un | exact gq_f | exact fun h1 h2 => gq_c h1 h2 | exact fun h => gq_c h rfl | exact fun _ _ => rfl
        case zk =>
        refine Aw.cond rfl (fun h2 => ?_) (fun h2 => Aw.skip ?_)
        · have h2' : better n s = true := hbe.symm.trans h2
          rw [if_pos h2'] at hR
          subst hR
          refine Aw.ed tab_ok mixed mb0 [] rfl (by kernel_rfl) rfl rfl ?zo ?zk
          case zo =>
            repeat' apply AllP.cons
            all_goals first | exact trivial | exact id | exact rfl | exact fun _ => rfl | exact Nat.le_of_ble_eq_true rfl | exact fun _ => Nat.le_of_ble_eq_true rfl | exact Int.natCast_nonneg _ | exact fun _ => Int.natCast_nonneg _ | exact within_t _ _ _ | exact (within_t _ _ _).un
          case zk =>
          exact Aw.ret ⟨_, .nil, rfl, m', hm', ⟨rfl, rfl, rfl, rfl, rfl, rfl, rfl, trivial⟩⟩
        · have h2' : better n s = false := hbe.symm.trans h2
          rw [h2'] at hR
          subst hR
          exact Aw.ret ⟨_, .nil, rfl, m', hm', ⟨rfl, rfl, rfl, rfl, rfl, rfl, rfl, trivial⟩⟩
      · have h2 : (((ints (z :: l)).length : Int) == many) = false := h2
        have h3 : (((ints (z :: l)).length : Int) == many) = true := by rw [beq_iff_eq]; omega
        rw [h3] at h2; cases h2
  | succ f ih =>
    intro l x m s many hlen hm hl hgood
    have hch : bxF cells sets (f + 1) l x s = bxGo (bxF cells sets f) sets l x ((List.range sets.length).drop (fromB l)) s := rfl
    rw [hch]
    generalize hR : bxGo (bxF cells sets f) sets l x ((List.range sets.length).drop (fromB l)) s = R
    have hol : ∀ {n : Nat}, Under n (outA l) := (outA_free l).under
    have ux : ∀ {n}, Under n (A.pt [A.int x]) := .pt _ (all1 (.s _))
    have hfn : fromB l ≤ sets.length := by
      unfold fromB
      cases e : l.getLast? with
      | none => exact Nat.zero_le _
      | some y => have := hl y (List.mem_of_getLast? e); show (y + 1).toNat ≤ _; omega
    refine SCall.drop (post := fun v H' _ => v = .tup [] ∧ ∃ m', MemoOk cells m' ∧ HasH H' (bxH b cells sets m' R)) (SCall.of_bodyN tab_ok Try.func82 rfl Try.ntmps82 (Nat.le_of_ble_eq_true rfl) (allC (fun _ => by cases l <;> rfl) (allC (fun _ => rfl) (allC (fun _ => rfl) (allC (fun _ => rfl) (allC (fun _ => rfl) (allC (fun _ => rfl) (allC (fun _ => rfl) (allC (fun _ => rfl) (all1 fun _ => rfl))))))))) fun E hE => ?_)
      (fun v H' c' h => by obtain ⟨h1, m', h2, h3⟩ := h; exact ⟨_, h3.ofH, h1, m', h2, rfl⟩)
    have h8E : ∀ id, 8 ≤ id → E.φ0 id = none := hE
    have zset := ints_lenI sets
    refine Aw.sm tab_ok mb0 [] rfl rfl ?zo ?zk
    case zo =>
      repeat' apply AllP.cons
      all_goals first | exact trivial | exact id | exact rfl | exact fun _ => rfl | exact Nat.le_of_ble_eq_true rfl | exact fun _ => Nat.le_of_ble_eq_true rfl | exact Int.natCast_nonneg _ | exact fun _ => Int.natCast_nonneg _ | exact within_t _ _ _ | exact (within_t _ _ _).un
    case zk =>
    have uc : UnderL 8 [(0, outA l), (2, .int many), (7, .ref 4 0), (8, .ref 7 0), (10, .pt [.int x])] := ⟨hol, .s _, .ref _ _ (by decide), .ref _ _ (by decide), ux, trivial⟩
    refine Aw.join1 8 h8E [(0, outA l), (2, .int many), (7, .ref 4 0), (8, .ref 7 0), (10, .pt [.int x])] [] (bxH b cells sets m s) uc trivial (bxH_under b cells sets m s (Nat.le_refl _)) ?_ ?_
    · cases l with
      | nil =>
        refine Aw.sm tab_ok mb0 [] rfl rfl ?zo ?zk
        case zo =>
          repeat' apply AllP.cons
          all_goals first | exact trivial | exact id | exact rfl | exact fun _ => rfl | exact Nat.le_of_ble_eq_true rfl | exact fun _ => Nat.le_of_ble_eq_true rfl | exact Int.natCast_nonneg _ | exact fun _ => Int.natCast_nonneg _ | exact within_t _ _ _ | exact (within_t _ _ _).un
        case zk =>
        refine Aw.cond rfl (fun h2 => ?_) (fun _ => Aw.skip ⟨⟨.refl _, .refl _, .refl _, .refl _, .refl _, trivial⟩, trivial, ⟨rfl, rfl, rfl, rfl, rfl, rfl, rfl, trivial⟩, Nat.le_refl _⟩)
        have h2 : (((([] : List (List A)).length : Nat) : Int) == many) = true := h2
        simp at h2; omega
      | cons z l =>
        refine Aw.sm tab_ok mb0 [] rfl rfl ?zo ?zk
        case zo =>
          repeat' apply AllP.cons
          all_goals first | exact trivial | exact id | exact rfl | exact fun _ => rfl | exact Nat.le_of_ble_eq_true rfl | exact fun _ => Nat.le_of_ble_eq_true rfl | exact Int.natCast_nonneg _ | exact fun _ => Int.natCast_nonneg _ | exact within_t _ _ _ | exact (within_t _ _ _).un
        case zk =>
        refine Aw.cond rfl (fun h2 => ?_) (fun _ => Aw.skip ⟨⟨.refl _, .refl _, .refl _, .refl _, .refl _, trivial⟩, trivial, ⟨rfl, rfl, rfl, rfl, rfl, rfl, rfl, trivial⟩, Nat.le_refl _⟩)
        have h2 : ((((ints (z :: l)).length : Nat) : Int) == many) = true := h2
        simp [ints] at h2
        simp at hlen; omega
    refine Aw.sm tab_ok mb0 [] rfl rfl ?zo ?zk
    case zo =>
      repeat' apply AllP.cons
      all_goals first | exact trivial | exact id | exact rfl | exact fun _ => rfl | exact Nat.le_of_ble_eq_true rfl | exact fun _ => Nat.le_of_ble_eq_true rfl | exact Int.natCast_nonneg _ | exact fun _ => Int.natCast_nonneg _ | exact within_t _ _ _ | exact (within_t _ _ _).un
    case zk =>
    refine Aw.join1 8 h8E [(0, outA l), (2, .int many), (7, .ref 4 0), (8, .ref 7 0), (10, .pt [.int x])] [(13, .int (fromB l))] (bxH b cells sets m s) uc ⟨.s _, trivial⟩ (bxH_under b cells sets m s (Nat.le_refl _)) ?_ ?_
    · cases l with
      | nil =>
        refine Aw.sm tab_ok mb0 [] rfl rfl ?zo ?zk
        case zo =>
          repeat' apply AllP.cons
          all_goals first | exact trivial | exact id | exact rfl | exact fun _ => rfl | exact Nat.le_of_ble_eq_true rfl | exact fun _ => Nat.le_of_ble_eq_true rfl | exact Int.natCast_nonneg _ | exact fun _ => Int.natCast_nonneg _ | exact within_t _ _ _ | exact (within_t _ _ _).un
        case zk =>
        exact Aw.cond rfl (fun h2 => by cases h2) (fun _ => Aw.skip ⟨⟨.refl _, .refl _, .refl _, .refl _, .refl _, trivial⟩, ⟨.refl _, trivial⟩, ⟨rfl, rfl, rfl, rfl, rfl, rfl, rfl, trivial⟩, Nat.le_refl _⟩)
      | cons z l =>
        generalize hL : z :: l = L at *
        have hLl : L.length ≤ 8 ∧ 0 < L.length := by rw [← hL]; simp; rw [← hL] at hlen; simp at hlen; omega
        obtain ⟨y, hy⟩ : ∃ y, L[L.length - 1]? = some y := ⟨L[L.length - 1]'(by omega), by simp [show L.length - 1 < L.length by omega]⟩
        have hyb := hl y (List.mem_of_getElem? hy)
        have hfy : A.int (fromB L) = .int (y + 1) := by
          unfold fromB; rw [List.getLast?_eq_getElem?, hy]
          show A.int (((y + 1).toNat : Nat) : Int) = _
          rw [Int.toNat_of_nonneg (by omega)]
        have hlz : ((ints L).length : Int) = L.length := by simp [ints]
        have hyi : (ints L)[Int.toNat (((ints L).length : Int) - 1)]? = some [.int y] := by
          have : Int.toNat (((ints L).length : Int) - 1) = L.length - 1 := by omega
          rw [this]; simp [ints, hy]
        have hoL : outA L = .sl false .any (ints L) := by rw [← hL]; rfl
        rw [hoL]
        refine Aw.sm tab_ok mb0 [] rfl rfl ?zo ?zk
        case zo =>
          repeat' apply AllP.cons
          all_goals first | exact trivial | exact id | exact rfl | exact fun _ => rfl | exact Nat.le_of_ble_eq_true rfl | exact fun _ => Nat.le_of_ble_eq_true rfl | exact Int.natCast_nonneg _ | exact fun _ => Int.natCast_nonneg _ | exact within_t _ _ _ | exact (within_t _ _ _).un
        case zk =>
        refine Aw.cond rfl (fun _ => ?_) (fun h2 => ?_)
        · refine Aw.em tab_ok mb0 [(4, [.int y])] rfl rfl ?zo ?zk
          case zo =>
            repeat' apply AllP.cons
            all_goals first | exact trivial | exact id | exact rfl | exact fun _ => rfl | exact Nat.le_of_ble_eq_true rfl | exact fun _ => Nat.le_of_ble_eq_true rfl | exact Int.natCast_nonneg _ | exact fun _ => Int.natCast_nonneg _ | exact within_t _ _ _ | exact (within_t _ _ _).un | exact hyi | exact (by simp only [Ob.of, inR]; omega) | exact (by simp only [Ob.of]; omega)
          case zk =>
          exact ⟨⟨.refl _, .refl _, .refl _, .refl _, .refl _, trivial⟩, ⟨.of_eq hfy, trivial⟩, ⟨rfl, rfl, rfl, rfl, rfl, rfl, rfl, trivial⟩, Nat.le_of_ble_eq_true rfl⟩
        · have h2 : decide (((ints L).length : Int) > 0) = false := h2
          have := of_decide_eq_false h2; omega
    refine Aw.sm tab_ok mb0 [] rfl rfl ?zo ?zk
    case zo =>
      repeat' apply AllP.cons
      all_goals first | exact trivial | exact id | exact rfl | exact fun _ => rfl | exact Nat.le_of_ble_eq_true rfl | exact fun _ => Nat.le_of_ble_eq_true rfl | exact Int.natCast_nonneg _ | exact fun _ => Int.natCast_nonneg _ | exact within_t _ _ _ | exact (within_t _ _ _).un
    case zk =>
    refine Aw.block (Aw.rounds (ι := Nat × List (Int × Cel) × BSt) 8 h8E [(0, outA l), (2, .int many), (7, .ref 4 0), (8, .ref 7 0), (10, .pt [.int x])] (fun i => [(14, .int i.1)]) (fun i => bxH b cells sets i.2.1 i.2.2)
      (fun i => i.1 ≤ sets.length ∧ MemoOk cells i.2.1 ∧ bxGo (bxF cells sets f) sets l x ((List.range sets.length).drop i.1) i.2.2 = R) (fun i => sets.length - i.1) (fromB l, m, s)
      ⟨hfn, hgood, hR⟩ ⟨⟨.refl _, .refl _, .refl _, .refl _, .refl _, trivial⟩, ⟨.refl _, trivial⟩, ⟨rfl, rfl, rfl, rfl, rfl, rfl, rfl, trivial⟩, Nat.le_refl _⟩ uc (fun _ _ => ⟨.s _, trivial⟩) (fun i _ => bxH_under b cells sets i.2.1 i.2.2 (Nat.le_refl _)) ?_)
    rintro ⟨i, m2, s2⟩ ⟨hi, hgood2, hrun⟩
    simp only at hi hgood2 hrun
    refine Aw.seq ?_
    refine Aw.sm tab_ok mb0 [] rfl rfl ?zo ?zk
    case zo =>
      repeat' apply AllP.cons
      all_goals first | exact trivial | exact id | exact rfl | exact fun _ => rfl | exact Nat.le_of_ble_eq_true rfl | exact fun _ => Nat.le_of_ble_eq_true rfl | exact Int.natCast_nonneg _ | exact fun _ => Int.natCast_nonneg _ | exact within_t _ _ _ | exact (within_t _ _ _).un
    case zk =>
    refine Aw.cond rfl (fun h2 => Aw.skip ?_) (fun h2 => ?_)
    · have hlt : i < sets.length := by have := of_decide_eq_true h2; omega
      have hdr : (List.range sets.length).drop i = i :: (List.range sets.length).drop (i + 1) := range_drop hlt
      rw [hdr, bxGo] at hrun
      have hz8 : (ints l).length ≤ 8 := by simp [ints]; omega
      have hgi : (ints sets)[Int.toNat (i : Int)]? = some [.int (sets.getD i 0)] := ints_getD hlt
      have hcall := ih (l ++ [(i : Int)]) (ior x (sets.getD i 0)) m2 s2 many (by simp; omega) hm (fun j hj => by
        rcases List.mem_append.1 hj with h | h
        · exact hl j h
        · simp at h; subst h; omega) hgood2
      generalize bxF cells sets f (l ++ [(i : Int)]) (ior x (sets.getD i 0)) s2 = s3 at *
      generalize sets.getD i 0 = si at *
      have hone : ∀ z ∈ [[A.int (i : Int)]], z.length = 1 := fun z hz => by simp at hz; subst hz; rfl
      have hzs : ∀ z ∈ ints l, z.length = 1 := ints_one l
      refine Aw.seq (Aw.block (SegW.start mixed ?_))
      cases l with
      | nil =>
        refine SegW.run (b := 0) tab_ok mb0 20 [(14, [.int si])] rfl (by kernel_rfl) rfl rfl ?zo ?zk
        case zo =>
          repeat' apply AllP.cons
          all_goals first | exact trivial | exact id | exact rfl | exact Nat.le_of_ble_eq_true rfl | exact hone | exact Int.le_refl _ | exact hgi | exact Int.natCast_nonneg _ | trace_state
        case zk =>
        refine SegW.step rfl (by kernel_rfl) rfl (fun i h1 h2 => by have h2 : i < 21 := h2; omega) (Does.raw rfl (DoesR.call (fst := []) (cap := [.ref 6 0, .ref 1 0, .ref 2 0, .ref 0 0, .ref 4 0, .ref 7 0]) rfl rfl (enters_of Try.func82 rfl rfl) (bx_frame (l := [] ++ [(i : Int)]) rfl hcall (H := _) (c := _) ⟨rfl, rfl, rfl, rfl, rfl, rfl, rfl, trivial⟩) ?_))
        rintro v H' c' ⟨rfl, rfl, m3, hgood3, rfl⟩
        refine SegW.done (by kernel_rfl) (Nat.le_of_ble_eq_true rfl) ?_
        refine Aw.em tab_ok mb0 [] rfl rfl ?zo ?zk
        case zo =>
          repeat' apply AllP.cons
          all_goals first | exact trivial | exact id | exact rfl | exact fun _ => rfl | exact Nat.le_of_ble_eq_true rfl | exact fun _ => Nat.le_of_ble_eq_true rfl | exact Int.natCast_nonneg _ | exact fun _ => Int.natCast_nonneg _ | exact within_t _ _ _ | exact (within_t _ _ _).un | exact inrk i (by omega)
        case zk =>
        exact ⟨(i + 1, m3, s3), ⟨hlt, hgood3, hrun⟩, by show sets.length - (i + 1) < sets.length - i; omega, ⟨.refl _, .refl _, .refl _, .refl _, .refl _, trivial⟩, ⟨.refl _, trivial⟩, ⟨rfl, rfl, rfl, rfl, rfl, rfl, rfl, trivial⟩, Nat.le_of_ble_eq_true rfl⟩
      | cons z l =>
        have hL : outA (z :: l) = .sl false .any (ints (z :: l)) := rfl
        generalize hgl : z :: l = L at *
        rw [hL]
        have ht : (ints L).take (Int.toNat ((ints L).length : Int)) = ints L := by rw [Int.toNat_natCast, List.take_length]
        have hres : outA (L ++ [(i : Int)]) = .sl false .any ((ints L).take (Int.toNat ((ints L).length : Int)) ++ [[A.int (i : Int)]]) := by
          rw [ht, ← hgl]; simp [ints, outA]
        rw [hres] at hcall
        have hb1 : ∀ z ∈ (ints L).take (Int.toNat ((ints L).length : Int)) ++ [[A.int (i : Int)]], z.length = 1 := fun z hz => by
          rw [ht] at hz
          rcases List.mem_append.1 hz with h | h
          · exact hzs z h
          · exact hone z h
        have hb2 : (((ints L).take (Int.toNat ((ints L).length : Int))).length + 1) * 8 ≤ 140737488355328 := by rw [ht]; omega
        have hb3 : ((ints L).take (Int.toNat ((ints L).length : Int))).length + 1 ≤ maxLen := by rw [ht]; unfold maxLen; omega
        refine SegW.run (b := 0) tab_ok mb0 20 [(14, [.int si])] rfl (by kernel_rfl) rfl rfl ?zo ?zk
        case zo =>
          repeat' apply AllP.cons
          all_goals first | exact trivial | exact id | exact rfl | exact Nat.le_of_ble_eq_true rfl | exact hb1 | exact hb2 | exact hb3 | exact hgi | exact Int.natCast_nonneg _ | exact Int.le_refl _
        case zk =>
        refine SegW.step rfl (by kernel_rfl) rfl (fun i h1 h2 => by have h2 : i < 21 := h2; omega) (Does.raw rfl (DoesR.call (fst := []) (cap := [.ref 6 0, .ref 1 0, .ref 2 0, .ref 0 0, .ref 4 0, .ref 7 0]) rfl rfl (enters_of Try.func82 rfl rfl) (bx_frame hres.symm hcall (H := _) (c := _) ⟨rfl, rfl, rfl, rfl, rfl, rfl, rfl, trivial⟩) ?_))
        rintro v H' c' ⟨rfl, rfl, m3, hgood3, rfl⟩
        refine SegW.done (by kernel_rfl) (Nat.le_of_ble_eq_true rfl) ?_
        refine Aw.em tab_ok mb0 [] rfl rfl ?zo ?zk
        case zo =>
          repeat' apply AllP.cons
          all_goals first | exact trivial | exact id | exact rfl | exact fun _ => rfl | exact Nat.le_of_ble_eq_true rfl | exact fun _ => Nat.le_of_ble_eq_true rfl | exact Int.natCast_nonneg _ | exact fun _ => Int.natCast_nonneg _ | exact within_t _ _ _ | exact (within_t _ _ _).un | exact inrk i (by omega)
        case zk =>
        exact ⟨(i + 1, m3, s3), ⟨hlt, hgood3, hrun⟩, by show sets.length - (i + 1) < sets.length - i; omega, ⟨.refl _, .refl _, .refl _, .refl _, .refl _, trivial⟩, ⟨.refl _, trivial⟩, ⟨rfl, rfl, rfl, rfl, rfl, rfl, rfl, trivial⟩, Nat.le_of_ble_eq_true rfl⟩
    · have hend : i = sets.length := by have := of_decide_eq_false h2; omega
      subst hend
      rw [range_end, bxGo] at hrun
      subst hrun
      exact Aw.exit2 ⟨_, .nil, rfl, m2, hgood2, ⟨rfl, rfl, rfl, rfl, rfl, rfl, rfl, trivial⟩⟩
end Go.Proofs.Ytdiclbgklegelaa

namespace Go.Proofs.Ytdiclbgklegelaa
open Go Go.AL Go.AL.Q
def yMix (m : List Int) : List A := [.sl false .any (ints m)]
def fillFn (n : Nat) : A := .fn (.func 88) [] [.pt [.int n], .pt [.yl 3], .ref 4 0]
def fillH (n : Nat) (H : Hp) : Hp := updH H 4 (some (.cells [fillFn n]))
theorem fillFn_under {n k : Nat} (h : 5 ≤ k) : Under k (fillFn n) := .fn _ _ _ (fun _ h => nomatch h) (allC (.pt _ (all1 (.s _))) (allC (.pt _ (all1 (.yl _ (by omega)))) (all1 (.ref _ _ (by omega)))))
def d5 (i : Nat) : Bool := Nat.ble i 3 || Nat.beq i 1000
theorem d5_iff {i : Nat} : d5 i = true ↔ i ≤ 3 ∨ i = 1000 := by simp [d5]
theorem fillH_low {n k m : Nat} {H : Hp} (h : Low m H) (hm : m ≤ k) (hk : 5 ≤ k) : Low k (fillH n H) := fun id bx hb => by
  unfold fillH at hb
  rw [updH_apply] at hb
  split at hb
  · rename_i e; cases hb; exact ⟨by omega, .cells _ (all1 (fillFn_under hk))⟩
  · have := h id bx hb; exact ⟨by omega, this.2.mono (by omega)⟩
theorem d5_none {H : Hp} (h : InD d5 H) {i : Nat} (hi : ¬ d5 i = true) : H i = none := by
  cases e : H i with
  | none => rfl
  | some bx => exact absurd (h i bx e).1 hi
theorem fillH_cut {n : Nat} {H : Hp} (h : InD d5 H) : cutHD d5 (fillH n H) = H := by
  funext id
  unfold cutHD fillH
  by_cases h1 : d5 id = true
  · rw [if_pos h1, updH_other _ _ (by rw [d5_iff] at h1; omega)]
  · rw [if_neg h1, d5_none h h1]
theorem fillH_glue {n : Nat} {H H' : Hp} (h : InD d5 H) (h' : InD d5 H') : glueHD d5 H' (fillH n H) = fillH n H' := by
  funext id
  unfold glueHD fillH
  by_cases h1 : d5 id = true
  · rw [if_pos h1, updH_other _ _ (by rw [d5_iff] at h1; omega)]
  · rw [if_neg h1, updH_apply, updH_apply]
    split
    · rfl
    · rw [d5_none h h1, d5_none h' h1]
theorem fillH_sub {n : Nat} {H : Hp} (h : InD d5 H) : ∀ id bx, H id = some bx → fillH n H id = some bx := fun id bx hb => by
  have := (h id bx hb).1
  rw [d5_iff] at this
  unfold fillH; rw [updH_other _ _ (by omega)]; exact hb
structure Cn (cn : Nat → Nat) : Prop where
  two : ∀ k, cn k = 4 ∨ cn k = 1001
  mono : ∀ a b, a ≤ b → cn b = 4 → cn a = 4
def CnOk (cn : Nat → Nat) (p k c : Nat) : Prop := 5 ≤ c ∧ (cn p = 4 → c + 20 * (k + 1) ≤ 1000) ∧ (cn p = 1001 → 1001 ≤ c)
def upC (cn : Nat → Nat) (p c : Nat) : Nat := if cn p = 4 then c else max c 1001
theorem upC_ge (cn : Nat → Nat) (p c : Nat) : c ≤ upC cn p c := by unfold upC; split <;> omega
theorem upC_cn {cn : Nat → Nat} (h : Cn cn) {p c : Nat} (h5 : 5 ≤ c) : cn p ≤ upC cn p c := by
  unfold upC
  rcases h.two p with h | h
  · rw [if_pos h]; omega
  · rw [if_neg (by omega)]; omega
theorem fill_arg {P : Program} {x : A} {mix : List Int} {cap : List A} {H : Hp} {c : Nat} {post : A → Hp → Nat → Prop} {l l' : Int} (hx : outA mix = x) (hl : l = l') (h : SCall P 88 (outA mix :: .int l :: cap) H c post) : SCall P 88 (x :: .int l' :: cap) H c post := by
  subst hx; subst hl; exact h
theorem drop_step {α : Type} {L : List α} {q : Nat} {a b : List α} (h : L.drop q = a ++ b) : L.drop (q + a.length) = b := by
  rw [← List.drop_drop, h, List.drop_left]
theorem fill_t (n : Nat) (hn : n ≤ 3) {S : Slots} {nt : Nat} {ps : Array Tmp} {asg body : Code} {L : List (List A)} {I : Nat → Hp → Prop} {cn : Nat → Nat} (hcn : Cn cn) (it : IterD Try.prog d5 3 S nt ps asg body L I cn) :
    ∀ (k : Nat) (mix : List Int) (left p : Nat) (H : Hp) (c2 : Nat) (rest : List (List A)), k + mix.length + 1 = n → left ≤ 100 → CnOk cn p k c2 → I p H → L.drop p = (mixL k mix left).map yMix ++ rest →
      SCall Try.prog 88 [outA mix, .int left, .pt [.int n], .pt [.yl 3], .ref 4 0] (fillH n H) c2 (fun v H' c' => v = .bool true ∧ upC cn (p + (mixL k mix left).length) c2 ≤ c' ∧ ∃ H2, I (p + (mixL k mix left).length) H2 ∧ H' = fillH n H2) := by
  intro k
  induction k with
  | zero =>
    intro mix left p H c2 rest hlen hleft hc2 hI hL
    have low := it.dom p H hI
    have h5 := hc2.1
    refine SCall.of_bodyN tab_ok Try.func88 rfl Try.ntmps88 (Nat.le_of_ble_eq_true rfl) (allC (fun _ => by cases mix <;> rfl) (allC (fun _ => rfl) (allC (fun _ => rfl) (allC (fun _ => rfl) (all1 fun _ => rfl))))) fun E hE => ?_
    have ha : L[p]? = some (yMix (mix ++ [(left : Int)])) := by
      have h1 : (L.drop p)[0]? = some (yMix (mix ++ [(left : Int)])) := by rw [hL]; rfl
      rw [List.getElem?_drop, Nat.add_zero] at h1; exact h1
    have lm := ints_lenI mix
    have hone : ∀ z ∈ [[A.int (left : Int)]], z.length = 1 := fun z hz => by simp at hz; subst hz; rfl
    cases mix with
    | nil =>
      simp at hlen
      refine Aw.sm tab_ok mb0 [] rfl rfl ?zo ?zk
      case zo =>
        repeat' apply AllP.cons
        all_goals first | exact trivial | exact id | exact rfl | exact fun _ => rfl | exact Nat.le_of_ble_eq_true rfl | exact fun _ => Nat.le_of_ble_eq_true rfl | exact Int.natCast_nonneg _ | exact fun _ => Int.natCast_nonneg _ | exact within_t _ _ _ | exact (within_t _ _ _).un
      case zk =>
      refine Aw.seq ?_
      refine Aw.sm tab_ok mb0 [] rfl rfl ?zo ?zk
      case zo =>
        repeat' apply AllP.cons
        all_goals first | exact trivial | exact id | exact rfl | exact fun _ => rfl | exact Nat.le_of_ble_eq_true rfl | exact fun _ => Nat.le_of_ble_eq_true rfl | exact Int.natCast_nonneg _ | exact fun _ => Int.natCast_nonneg _ | exact within_t _ _ _ | exact (within_t _ _ _).un | exact (by simp only [Ob.of, inR]; omega)
      case zk =>
      refine Aw.cond rfl (fun h1 => ?_) (fun h1 => ?_)
      · refine Aw.seq (SegW.start mixed ?_)
        refine SegW.run (b := 0) tab_ok mb0 10 [] rfl (by kernel_rfl) rfl rfl ?zo ?zk
        case zo =>
          repeat' apply AllP.cons
          all_goals first | exact trivial | exact id | exact rfl | exact Nat.le_of_ble_eq_true rfl | exact hone | exact Int.le_refl _
        case zk =>
        refine SegW.step rfl (by kernel_rfl) rfl (fun i h1 h2 => by
          have h2 : i < 12 := h2
          obtain rfl : i = 11 := by omega
          rfl) (Does.raw rfl (IterD.yield it rfl rfl rfl (k := p) (c3 := upC cn (p + 1) (c2 + 10)) (fun i h1 h2 => by
          have h3 := d5_iff.1 h2
          have h4 := hcn.two p
          have h6 := hc2.2.1
          show c2 + 10 ≤ i
          omega) (upC_ge _ _ _) (fun i h1 h2 => by
          have h3 := d5_iff.1 h2
          have h4 := upC_cn hcn (p := p + 1) (c := c2 + 10) (by omega)
          omega) ha (all1 (free_ints _ _ [(left : Int)])) ?_ ?_))
        · show I p (cutHD d5 (fillH n H))
          rw [fillH_cut low]; exact hI
        intro H' hI'
        have hgl := fillH_glue (n := n) low (it.dom _ _ hI')
        refine SegW.run (b := 11) tab_ok mb0 1 [] rfl (by kernel_rfl) rfl rfl ?zo2 ?zk2
        case zo2 =>
          repeat' apply AllP.cons
          all_goals first | exact trivial | exact id | exact rfl
        case zk2 =>
        refine SegW.done (by kernel_rfl) (Nat.le_of_ble_eq_true rfl) ?_
        refine Aw.ret ⟨_, .cons (.tmp _) .nil, rfl, ?_, H', hI', hgl⟩
        show upC cn (p + 1) c2 ≤ upC cn (p + 1) (c2 + 10) + _
        unfold upC; split <;> omega
      · have h1 : (((([] : List (List A)).length : Nat) : Int) == ((n : Int) - 1)) = false := h1
        have : (((([] : List (List A)).length : Nat) : Int) == ((n : Int) - 1)) = true := by rw [beq_iff_eq]; simp; omega
        rw [this] at h1; cases h1
    | cons x l =>
      generalize hgl : x :: l = M at *
      have hM : outA M = .sl false .any (ints M) := by rw [← hgl]; rfl
      have hM0 : 0 < M.length := by rw [← hgl]; simp
      rw [hM]
      have hz := ints_one M
      have hzl := ints_len M
      have ht : (ints M).take (Int.toNat ((ints M).length : Int)) = ints M := by rw [Int.toNat_natCast, List.take_length]
      have ha2 : L[p]? = some [A.sl false .any ((ints M).take (Int.toNat ((ints M).length : Int)) ++ [[A.int (left : Int)]])] := by rw [ht, ha]; simp [yMix, ints]
      have hfr2 : ∀ x ∈ [A.sl false .any ((ints M).take (Int.toNat ((ints M).length : Int)) ++ [[A.int (left : Int)]])], Free x := all1 (by
        rw [ht]
        have := free_ints false .any (M ++ [(left : Int)])
        rwa [ints_app] at this)
      have hb1 : ∀ z ∈ (ints M).take (Int.toNat ((ints M).length : Int)) ++ [[A.int (left : Int)]], z.length = 1 := fun z hz' => by
        rw [ht] at hz'
        rcases List.mem_append.1 hz' with h | h
        · exact hz z h
        · exact hone z h
      have hb2 : (((ints M).take (Int.toNat ((ints M).length : Int))).length + 1) * 8 ≤ 140737488355328 := by rw [ht]; omega
      have hb3 : ((ints M).take (Int.toNat ((ints M).length : Int))).length + 1 ≤ maxLen := by rw [ht]; unfold maxLen; omega
      refine Aw.sm tab_ok mb0 [] rfl rfl ?zo ?zk
      case zo =>
        repeat' apply AllP.cons
        all_goals first | exact trivial | exact id | exact rfl | exact fun _ => rfl | exact Nat.le_of_ble_eq_true rfl | exact fun _ => Nat.le_of_ble_eq_true rfl | exact Int.natCast_nonneg _ | exact fun _ => Int.natCast_nonneg _ | exact within_t _ _ _ | exact (within_t _ _ _).un
      case zk =>
      refine Aw.seq ?_
      refine Aw.sm tab_ok mb0 [] rfl rfl ?zo ?zk
      case zo =>
        repeat' apply AllP.cons
        all_goals first | exact trivial | exact id | exact rfl | exact fun _ => rfl | exact Nat.le_of_ble_eq_true rfl | exact fun _ => Nat.le_of_ble_eq_true rfl | exact Int.natCast_nonneg _ | exact fun _ => Int.natCast_nonneg _ | exact within_t _ _ _ | exact (within_t _ _ _).un | exact (by simp only [Ob.of, inR]; omega)
      case zk =>
      refine Aw.cond rfl (fun h1 => ?_) (fun h1 => ?_)
      · refine Aw.seq (SegW.start mixed ?_)
        refine SegW.run (b := 0) tab_ok mb0 10 [] rfl (by kernel_rfl) rfl rfl ?zo ?zk
        case zo =>
          repeat' apply AllP.cons
          all_goals first | exact trivial | exact id | exact rfl | exact Nat.le_of_ble_eq_true rfl | exact hb1 | exact hb2 | exact hb3 | exact Int.natCast_nonneg _ | exact Int.le_refl _
        case zk =>
        refine SegW.step rfl (by kernel_rfl) rfl (fun i h1 h2 => by
          have h2 : i < 12 := h2
          obtain rfl : i = 11 := by omega
          rfl) (Does.raw rfl (IterD.yield it rfl rfl rfl (k := p) (c3 := upC cn (p + 1) (c2 + 10)) (fun i h1 h2 => by
          have h3 := d5_iff.1 h2
          have h4 := hcn.two p
          have h6 := hc2.2.1
          show c2 + 10 ≤ i
          omega) (upC_ge _ _ _) (fun i h1 h2 => by
          have h3 := d5_iff.1 h2
          have h4 := upC_cn hcn (p := p + 1) (c := c2 + 10) (by omega)
          omega) ha2 hfr2 ?_ ?_))
        · show I p (cutHD d5 (fillH n H))
          rw [fillH_cut low]; exact hI
        intro H' hI'
        have hgl2 := fillH_glue (n := n) low (it.dom _ _ hI')
        refine SegW.run (b := 11) tab_ok mb0 1 [] rfl (by kernel_rfl) rfl rfl ?zo2 ?zk2
        case zo2 =>
          repeat' apply AllP.cons
          all_goals first | exact trivial | exact id | exact rfl
        case zk2 =>
        refine SegW.done (by kernel_rfl) (Nat.le_of_ble_eq_true rfl) ?_
        refine Aw.ret ⟨_, .cons (.tmp _) .nil, rfl, ?_, H', hI', hgl2⟩
        show upC cn (p + 1) c2 ≤ upC cn (p + 1) (c2 + 10) + _
        unfold upC; split <;> omega
      · have h1 : (((ints M).length : Int) == ((n : Int) - 1)) = false := h1
        have : (((ints M).length : Int) == ((n : Int) - 1)) = true := by rw [beq_iff_eq]; omega
        rw [this] at h1; cases h1
  | succ k ih =>
    intro mix left p H c2 rest hlen hleft hc2 hI hL
    have low := it.dom p H hI
    have h5 := hc2.1
    refine SCall.of_bodyN tab_ok Try.func88 rfl Try.ntmps88 (Nat.le_of_ble_eq_true rfl) (allC (fun _ => by cases mix <;> rfl) (allC (fun _ => rfl) (allC (fun _ => rfl) (allC (fun _ => rfl) (all1 fun _ => rfl))))) fun E hE => ?_
    obtain ⟨b, hb⟩ : ∃ b, A.Le (.sl b .any (ints mix)) (outA mix) := by
      cases mix with
      | nil => exact ⟨true, .any _ _ _⟩
      | cons x l => exact ⟨false, .refl _⟩
    have hz := ints_one mix
    have hzl := ints_len mix
    have ht : (ints mix).take (Int.toNat ((ints mix).length : Int)) = ints mix := by rw [Int.toNat_natCast, List.take_length]
    have um : ∀ {n}, Under n (A.sl b .any (ints mix)) := (free_ints _ _ _).under
    have hb2 : (((ints mix).take (Int.toNat ((ints mix).length : Int))).length + 1) * 8 ≤ 140737488355328 := by rw [ht]; omega
    have hb3 : ((ints mix).take (Int.toNat ((ints mix).length : Int))).length + 1 ≤ maxLen := by rw [ht]; unfold maxLen; omega
    refine Aw.keepH (n := c2) (cst := [(0, .sl b .any (ints mix)), (1, .int left), (2, .pt [.int n]), (3, .pt [.yl 3]), (4, .ref 4 0)]) (v := []) (J := fun H' => H' = fillH n H) hE ⟨um, .s _, .pt _ (all1 (.s _)), .pt _ (all1 (.yl _ (by omega))), .ref _ _ (by omega), trivial⟩ trivial (fun _ e => e ▸ fillH_low (it.low p H hI) (by rcases hcn.two p with h | h <;> have := hc2.2.2 <;> omega) h5)
      ⟨⟨hb, .refl _, .refl _, .refl _, .refl _, trivial⟩, trivial, .self (H := fillH n H) rfl, Nat.le_refl _⟩ ?_
    rintro _ rfl
    refine Aw.sm tab_ok mb0 [] rfl rfl ?zo ?zk
    case zo =>
      repeat' apply AllP.cons
      all_goals first | exact trivial | exact id | exact rfl | exact fun _ => rfl | exact Nat.le_of_ble_eq_true rfl | exact fun _ => Nat.le_of_ble_eq_true rfl | exact Int.natCast_nonneg _ | exact fun _ => Int.natCast_nonneg _ | exact within_t _ _ _ | exact (within_t _ _ _).un
    case zk =>
    refine Aw.seq ?_
    refine Aw.sm tab_ok mb0 [] rfl rfl ?zo ?zk
    case zo =>
      repeat' apply AllP.cons
      all_goals first | exact trivial | exact id | exact rfl | exact fun _ => rfl | exact Nat.le_of_ble_eq_true rfl | exact fun _ => Nat.le_of_ble_eq_true rfl | exact Int.natCast_nonneg _ | exact fun _ => Int.natCast_nonneg _ | exact within_t _ _ _ | exact (within_t _ _ _).un | exact (by simp only [Ob.of, inR]; omega)
    case zk =>
    refine Aw.cond rfl (fun h1 => ?_) (fun h1 => Aw.skip ?_)
    · have h1 : (((ints mix).length : Int) == ((n : Int) - 1)) = true := h1
      have := eq_of_beq h1; omega
    refine Aw.seq ?_
    refine Aw.sm tab_ok mb0 [] rfl rfl ?zo ?zk
    case zo =>
      repeat' apply AllP.cons
      all_goals first | exact trivial | exact id | exact rfl | exact fun _ => rfl | exact Nat.le_of_ble_eq_true rfl | exact fun _ => Nat.le_of_ble_eq_true rfl | exact Int.natCast_nonneg _ | exact fun _ => Int.natCast_nonneg _ | exact within_t _ _ _ | exact (within_t _ _ _).un | exact (by simp only [Ob.of, inR]; omega)
    case zk =>
    generalize hf : (fun j : Nat => mixL k (mix ++ [(j : Int)]) (left - j)) = f
    have hmx : mixL (k + 1) mix left = (List.range (left + 1)).flatMap f := by rw [mixL, hf]
    rw [hmx] at hL ⊢
    generalize hQ : p + ((List.range (left + 1)).flatMap f).length = Qend
    have hup : upC cn p c2 ≤ c2 := by unfold upC; split <;> rcases hcn.two p with h | h <;> have := hc2.2.2 <;> omega
    refine Aw.block (Aw.roundsHN (ι := Nat × Nat) (fun i => upC cn i.2 c2) (fun i id h => hE id (Nat.le_trans (upC_ge _ _ _) h)) [(0, .sl b .any (ints mix)), (1, .int left), (4, .ref 4 0), (26, .int ((left : Int) + 1))] (fun i => [(27, .int i.1)])
      (fun i H' => i.1 ≤ left + 1 ∧ p ≤ i.2 ∧ L.drop i.2 = (((List.range (left + 1)).drop i.1).flatMap f).map yMix ++ rest ∧ i.2 + (((List.range (left + 1)).drop i.1).flatMap f).length = Qend ∧ ∃ H2, I i.2 H2 ∧ H' = fillH n H2) (fun i => left + 1 - i.1) (0, p)
      ⟨⟨.refl _, .refl _, .refl _, .refl _, trivial⟩, ⟨.refl _, trivial⟩, .self (H := fillH n H) ⟨Nat.zero_le _, Nat.le_refl _, hL, hQ, H, hI, rfl⟩, hup⟩ (fun i => ⟨um, .s _, .ref _ _ (Nat.lt_of_lt_of_le (by omega) (upC_ge cn i.2 c2)), .s _, trivial⟩) (fun _ => ⟨.s _, trivial⟩)
      (fun i H' hj => by obtain ⟨_, _, _, _, H2, hI2, rfl⟩ := hj; exact fillH_low (it.low _ _ hI2) (upC_cn hcn h5) (Nat.le_trans h5 (upC_ge _ _ _))) ?_)
    rintro ⟨j, q⟩ _ ⟨hj, hpq, hLq, hQq, H2, hI2, rfl⟩
    simp only at hj hpq hLq hQq hI2
    have low2 := it.dom _ _ hI2
    have hcq : cn q = 4 → c2 + 20 * (k + 1 + 1) ≤ 1000 := fun h => hc2.2.1 (hcn.mono p q hpq h)
    have hup2 := upC_ge cn q c2
    have hup3 : cn q = 4 → upC cn q c2 = c2 := fun h => by unfold upC; rw [if_pos h]
    have hup4 : cn q = 1001 → 1001 ≤ upC cn q c2 := fun h => by unfold upC; rw [if_neg (by omega)]; omega
    refine Aw.sm tab_ok mb0 [] rfl rfl ?zo ?zk
    case zo =>
      repeat' apply AllP.cons
      all_goals first | exact trivial | exact id | exact rfl | exact fun _ => rfl | exact Nat.le_of_ble_eq_true rfl | exact fun _ => Nat.le_of_ble_eq_true rfl | exact Int.natCast_nonneg _ | exact fun _ => Int.natCast_nonneg _ | exact within_t _ _ _ | exact (within_t _ _ _).un
    case zk =>
    refine Aw.seq (Aw.cond rfl (fun h1 => Aw.skip1 ?_) (fun h1 => Aw.exit2 ?_))
    · have hlt : j < left + 1 := by have := of_decide_eq_true h1; omega
      rw [range_drop hlt, List.flatMap_cons] at hLq hQq
      rw [List.map_append, List.append_assoc] at hLq
      rw [List.length_append] at hQq
      have hx : outA (mix ++ [(j : Int)]) = .sl (b && false) .any ((ints mix).take (Int.toNat ((ints mix).length : Int)) ++ [[A.int (j : Int)]]) := by
        rw [ht, Bool.and_false]
        cases mix with
        | nil => rfl
        | cons x l => simp [outA, ints]
      have hll : (((left - j : Nat)) : Int) = (left : Int) - j := by omega
      have hone : ∀ z ∈ [[A.int (j : Int)]], z.length = 1 := fun z hz => by simp at hz; subst hz; rfl
      have hb1 : ∀ z ∈ (ints mix).take (Int.toNat ((ints mix).length : Int)) ++ [[A.int (j : Int)]], z.length = 1 := fun z hz' => by
        rw [ht] at hz'
        rcases List.mem_append.1 hz' with h | h
        · exact hz z h
        · exact hone z h
      have hfj : f j = mixL k (mix ++ [(j : Int)]) (left - j) := by rw [← hf]
      have hcall : ∀ c3, CnOk cn q k c3 → _ := fun c3 h3 => ih (mix ++ [(j : Int)]) (left - j) q H2 c3 _ (by simp; omega) (by omega) h3 hI2 (hfj ▸ hLq)
      refine Aw.seq (Aw.block ?_)
      refine Aw.sm tab_ok mb0 [] rfl rfl ?zo ?zk
      case zo =>
        repeat' apply AllP.cons
        all_goals first | exact trivial | exact id | exact rfl | exact fun _ => rfl | exact Nat.le_of_ble_eq_true rfl | exact fun _ => Nat.le_of_ble_eq_true rfl | exact Int.natCast_nonneg _ | exact fun _ => Int.natCast_nonneg _ | exact within_t _ _ _ | exact (within_t _ _ _).un
      case zk =>
      cases b
      all_goals
        refine Aw.seq (SegW.start mixed ?_)
        refine SegW.run (b := 0) tab_ok mb0 13 [(0, [fillFn n])] rfl (by kernel_rfl) rfl rfl ?zo ?zk
        case zo =>
          repeat' apply AllP.cons
          all_goals first | exact trivial | exact id | exact rfl | exact Nat.le_of_ble_eq_true rfl | exact hb1 | exact hb2 | exact hb3 | exact Int.natCast_nonneg _ | exact Int.le_refl _ | exact (by simp only [Ob.of, inR]; omega) | trace_state
        case zk =>
        refine SegW.step rfl (by kernel_rfl) rfl (fun i h1 h2 => by
          have h2 : i < 15 := h2
          obtain rfl : i = 14 := by omega
          rfl) (Does.raw rfl (DoesR.call (fst := []) (cap := [.pt [.int n], .pt [.yl 3], .ref 4 0]) rfl rfl (enters_of Try.func88 rfl rfl) (fill_arg hx hll (hcall _ ⟨by show 5 ≤ upC cn q c2 + 13; omega, fun h => by have := hcq h; have := hup3 h; show upC cn q c2 + 13 + _ ≤ _; omega, fun h => by have := hup4 h; show 1001 ≤ upC cn q c2 + 13; omega⟩)) ?_))
        rintro v H' c' ⟨rfl, hcc, H3, hI3, rfl⟩
        rw [← hfj] at hcc
        refine SegW.run (b := 14) tab_ok mb0 1 [] rfl (by kernel_rfl) rfl rfl ?zo2 ?zk2
        case zo2 =>
          repeat' apply AllP.cons
          all_goals first | exact trivial | exact id | exact rfl
        case zk2 =>
        refine SegW.done (by kernel_rfl) (Nat.le_of_ble_eq_true rfl) ?_
        refine Aw.cond rfl (fun h2 => by cases h2) (fun _ => Aw.skip ?_)
        refine Aw.em tab_ok mb0 [] rfl rfl ?zo ?zk
        case zo =>
          repeat' apply AllP.cons
          all_goals first | exact trivial | exact id | exact rfl | exact fun _ => rfl | exact Nat.le_of_ble_eq_true rfl | exact fun _ => Nat.le_of_ble_eq_true rfl | exact Int.natCast_nonneg _ | exact fun _ => Int.natCast_nonneg _ | exact within_t _ _ _ | exact (within_t _ _ _).un | exact inrk j (by omega)
        case zk =>
        rw [← hfj] at hI3
        refine ⟨(j + 1, q + (f j).length), by show left + 1 - (j + 1) < left + 1 - j; omega, ⟨.refl _, .refl _, .refl _, .refl _, trivial⟩, ⟨.refl _, trivial⟩, .self (H := fillH n H3) ⟨hlt, by show p ≤ q + _; omega, ?_, (Nat.add_assoc _ _ _).trans hQq, H3, hI3, rfl⟩, ?_⟩
        · have := drop_step hLq
          rwa [List.length_map] at this
        · have h7 : upC cn (q + (f j).length) (upC cn q c2 + 13) ≤ c' := hcc
          show upC cn (q + (f j).length) c2 ≤ c' + _
          have h8 : upC cn (q + (f j).length) c2 ≤ upC cn (q + (f j).length) (upC cn q c2 + 13) := by unfold upC; split <;> split <;> omega
          omega
    · have hend : j = left + 1 := by have := of_decide_eq_false h1; omega
      subst hend
      rw [range_end] at hQq
      have hq : q = Qend := hQq
      subst hq
      refine Aw.sm tab_ok mb0 [] rfl rfl ?zo ?zk
      case zo =>
        repeat' apply AllP.cons
        all_goals first | exact trivial | exact id | exact rfl | exact fun _ => rfl | exact Nat.le_of_ble_eq_true rfl | exact fun _ => Nat.le_of_ble_eq_true rfl | exact Int.natCast_nonneg _ | exact fun _ => Int.natCast_nonneg _ | exact within_t _ _ _ | exact (within_t _ _ _).un
      case zk =>
      exact Aw.ret ⟨_, .cons (.tmp _) .nil, rfl, Nat.le_refl _, H2, hI2, rfl⟩
end Go.Proofs.Ytdiclbgklegelaa

namespace Go.Proofs.Ytdiclbgklegelaa
open Go Go.AL Go.AL.Q
theorem mixings1_t (n : Nat) (h1 : 1 ≤ n) (hn : n ≤ 3) {S : Slots} {nt : Nat} {ps : Array Tmp} {asg body : Code} {I : Nat → Hp → Prop} {cn : Nat → Nat} (hcn : Cn cn) (h0 : cn 0 = 4)
    (it : IterD Try.prog d5 3 S nt ps asg body ((mixL (n - 1) [] 100).map yMix) I cn) (H : Hp) (hI : I 0 H) :
    SCall Try.prog 87 [.yl 3, .pt [.int n]] H 4 (fun v H' c' => cn ((mixL (n - 1) [] 100).map yMix).length ≤ c' ∧ Sub H' (I ((mixL (n - 1) [] 100).map yMix).length)) := by
  refine SCall.of_bodyN tab_ok Try.func87 rfl Try.ntmps87 (Nat.le_of_ble_eq_true rfl) (allC (fun _ => rfl) (all1 fun _ => rfl)) fun E hE => ?_
  have dom := it.dom _ _ hI
  have low := it.low _ _ hI
  rw [h0] at low
  refine Aw.sm tab_ok mb0 [] rfl rfl ?zo ?zk
  case zo =>
    repeat' apply AllP.cons
    all_goals first | exact trivial | exact id | exact rfl | exact fun _ => rfl | exact Nat.le_of_ble_eq_true rfl | exact fun _ => Nat.le_of_ble_eq_true rfl | exact Int.natCast_nonneg _ | exact fun _ => Int.natCast_nonneg _ | exact within_t _ _ _ | exact (within_t _ _ _).un
  case zk =>
  refine Aw.sm tab_ok mb0 [] rfl rfl ?zo ?zk
  case zo =>
    repeat' apply AllP.cons
    all_goals first | exact trivial | exact id | exact rfl | exact fun _ => rfl | exact Nat.le_of_ble_eq_true rfl | exact fun _ => Nat.le_of_ble_eq_true rfl | exact Int.natCast_nonneg _ | exact fun _ => Int.natCast_nonneg _ | exact within_t _ _ _ | exact (within_t _ _ _).un
  case zk =>
  refine Aw.sm tab_ok mb0 [] rfl rfl ?zo ?zk
  case zo =>
    repeat' apply AllP.cons
    all_goals first | exact trivial | exact id | exact rfl | exact fun _ => rfl | exact Nat.le_of_ble_eq_true rfl | exact fun _ => Nat.le_of_ble_eq_true rfl | exact Int.natCast_nonneg _ | exact fun _ => Int.natCast_nonneg _ | exact within_t _ _ _ | exact (within_t _ _ _).un
  case zk =>
  refine Aw.keepH (n := 5) (cst := [(3, .ref 4 0)]) (v := []) (J := fun H' => H' = fillH n H) (fun id h => hE id (by omega)) ⟨.ref _ _ (by decide), trivial⟩ trivial (fun _ e => e ▸ fillH_low low (by decide) (Nat.le_refl _))
    ⟨⟨.refl _, trivial⟩, trivial, ⟨fillH n H, rfl, fun i bx hb => ?_⟩, Nat.le_of_ble_eq_true rfl⟩ ?_
  · unfold fillH at hb
    rw [updH_apply] at hb
    by_cases e : i = 4
    · subst e; rw [if_pos rfl] at hb; exact hb
    · rw [if_neg e] at hb
      show updH (updH H 4 _) 4 _ i = _
      rw [updH_other _ _ e, updH_other _ _ e]; exact hb
  rintro _ rfl
  have hcall := fill_t n hn hcn it (n - 1) [] 100 0 H 5 [] (by simp; omega) (Nat.le_refl _) ⟨Nat.le_refl _, fun _ => by omega, fun h => by omega⟩ hI (by simp)
  refine Aw.es rfl ?_
  refine RegL.partE tab_ok mb0 false 1 0 [(0, [fillFn n])] ?_
  conv => arg 5; whnf
  refine PartK.mk ?zo ?zk
  case zo =>
    repeat' apply AllP.cons
    all_goals first | exact trivial | exact id | exact rfl | exact fun _ => rfl | exact Nat.le_of_ble_eq_true rfl | exact fun _ => Nat.le_of_ble_eq_true rfl | exact Int.natCast_nonneg _ | exact fun _ => Int.natCast_nonneg _ | exact within_t _ _ _ | exact (within_t _ _ _).un
  case zk =>
  refine Does.raw rfl (DoesR.call (fst := []) (cap := [.pt [.int n], .pt [.yl 3], .ref 4 0]) rfl rfl (enters_of Try.func88 rfl rfl) hcall ?_)
  rintro v H' c' ⟨rfl, hc, H2, hI2, rfl⟩
  rw [Nat.zero_add] at hc hI2
  have hl : ((mixL (n - 1) [] 100).map yMix).length = (mixL (n - 1) [] 100).length := List.length_map _
  rw [← hl] at hc hI2
  exact ⟨_, .nil, Nat.le_trans (upC_cn hcn (Nat.le_refl 5)) hc, H2, hI2, fillH_sub (it.dom _ _ hI2)⟩
end Go.Proofs.Ytdiclbgklegelaa

namespace Go.Proofs.Ytdiclbgklegelaa
open Go Go.AL Go.AL.Q
def shB : List Sp → List A → List (Nat × B)
  | [], _ => [(2, .cells [.sl true .exact []])]
  | x :: l, junk => [(2, .cells [.ms 1000 0 (x :: l).length]), (1000, .cells (((x :: l).map Sp.c).flatten ++ junk))]
def outK (races : List NS) (seen : List Sp) (k : Nat) : List Sp := ((mixL (races.length - 1) [] 100).take k).foldl (shareStep races seen) []
theorem outK_succ {races : List NS} {seen : List Sp} {k : Nat} {m : List Int} (h : (mixL (races.length - 1) [] 100)[k]? = some m) : outK races seen (k + 1) = shareStep races seen (outK races seen k) m := by
  obtain ⟨hk, e⟩ := List.getElem?_eq_some_iff.1 h
  unfold outK
  rw [List.take_succ_eq_append_getElem hk, List.foldl_append, e]; rfl
theorem shareStep_ne {races : List NS} {seen out : List Sp} {m : List Int} (h : out ≠ []) : shareStep races seen out m ≠ [] := by
  unfold shareStep
  split
  · intro e
    have := congrArg List.length e
    rw [wideL_len] at this
    exact h (List.length_eq_zero_iff.1 this)
  · exact h
theorem outK_mono {races : List NS} {seen : List Sp} : ∀ (b a : Nat), a ≤ b → outK races seen b = [] → outK races seen a = []
  | 0, a, h, e => by obtain rfl : a = 0 := by omega
                     exact e
  | b + 1, a, h, e => by
    by_cases hab : a = b + 1
    · subst hab; exact e
    · refine outK_mono b a (by omega) ?_
      cases hm : (mixL (races.length - 1) [] 100)[b]? with
      | none =>
        have hl := List.getElem?_eq_none_iff.1 hm
        unfold outK at e ⊢
        rw [List.take_of_length_le (by omega)] at e ⊢
        exact e
      | some m =>
        rw [outK_succ hm] at e
        by_cases h0 : outK races seen b = []
        · exact h0
        · exact absurd e (shareStep_ne h0)
theorem outK_len {races : List NS} {seen : List Sp} (h1 : 1 ≤ races.length) : ∀ k, outK races seen k ≠ [] → (outK races seen k).length = races.length
  | 0, h => absurd rfl h
  | k + 1, h => by
    cases hm : (mixL (races.length - 1) [] 100)[k]? with
    | none =>
      have hl := List.getElem?_eq_none_iff.1 hm
      have e : outK races seen (k + 1) = outK races seen k := by unfold outK; rw [List.take_of_length_le (by omega), List.take_of_length_le (by omega)]
      rw [e] at h ⊢
      exact outK_len h1 k h
    | some m =>
      have hl := (mixL_mem _ _ _ m (List.mem_of_getElem? hm)).1
      simp at hl
      rw [outK_succ hm] at h ⊢
      unfold shareStep at h ⊢
      by_cases h0 : outK races seen k = []
      · rw [h0] at h ⊢
        split
        · rw [wideL_len, if_pos rfl]; simp [points]; omega
        · rename_i h2; rw [if_neg h2] at h; exact absurd rfl h
      · have := outK_len h1 k h0
        split
        · rw [wideL_len]; exact this
        · exact this
theorem rows_len (l : List Sp) : ((l.map Sp.c).flatten).length = l.length * 2 := by
  rw [flat_len (sz := 2) fun y hy => by obtain ⟨b, _, rfl⟩ := List.mem_map.1 hy; rfl, List.length_map]
def bldB (LB : B) (mix : List Int) : Nat → Nat → List A → List (Nat × B)
  | 0, _, _ => [(2, .cells [.sl true .exact []]), (3, LB)]
  | j + 1, cap, junk => [(2, .cells [.gs 1000 (j + 1) cap]), (1000, .cells (((points (mix.take (j + 1))).map Sp.c).flatten ++ junk)), (3, LB)]
theorem rows_under {n : Nat} {l : List Sp} {junk : List A} (hj : ∀ v ∈ junk, v = .un) : UnderB n (.cells ((l.map Sp.c).flatten ++ junk)) := .cells _ fun v hv => by
  rcases List.mem_append.1 hv with h | h
  · obtain ⟨e, he, hv⟩ := List.mem_flatten.1 h
    obtain ⟨s, _, rfl⟩ := List.mem_map.1 he
    exact (s.free v hv).under
  · rw [hj v h]; exact .un
def shCn (races : List NS) (seen : List Sp) (k : Nat) : Nat := if outK races seen k = [] then 4 else 1001
theorem shCn_ok (races : List NS) (seen : List Sp) : Cn (shCn races seen) := ⟨fun k => by unfold shCn; split <;> simp, fun a b h e => by
  unfold shCn at *
  split at e
  · rename_i h1; rw [if_pos (outK_mono b a h h1)]
  · cases e⟩
def shI (races : List NS) (seen : List Sp) (k : Nat) (H : Hp) : Prop := ∃ junk : List A, (∀ v ∈ junk, v = .un) ∧ H = ofH (shB (outK races seen k) junk)
theorem spans_free (l : List Sp) : ∀ v ∈ (l.map Sp.c).flatten, Free v := fun v hv => by
  obtain ⟨e, he, hv⟩ := List.mem_flatten.1 hv
  obtain ⟨s, _, rfl⟩ := List.mem_map.1 he
  exact s.free v hv
theorem shB_dom (out : List Sp) (junk : List A) (hj : ∀ v ∈ junk, v = .un) : InD d5 (ofH (shB out junk)) := fun id bx hb => by
  cases out with
  | nil =>
    simp only [shB, ofH, updH_apply] at hb
    split at hb
    · rename_i e; cases hb; subst e; exact ⟨rfl, .cells _ (all1 (Free.nms (.sl _ _ _ (fun _ h => nomatch h))))⟩
    · cases hb
  | cons x l =>
    simp only [shB, ofH, updH_apply] at hb
    split at hb
    · rename_i e; cases hb; subst e; exact ⟨rfl, .cells _ (all1 (.ms _ _ _ rfl))⟩
    · split at hb
      · rename_i e; cases hb; subst e
        refine ⟨rfl, .cells _ fun v hv => ?_⟩
        rcases List.mem_append.1 hv with h | h
        · exact (spans_free _ v h).nms
        · rw [hj v h]; exact .un
      · cases hb
theorem shB_low (out : List Sp) (junk : List A) (hj : ∀ v ∈ junk, v = .un) : Low (if out = [] then 4 else 1001) (ofH (shB out junk)) := fun id bx hb => by
  cases out with
  | nil =>
    simp only [shB, ofH, updH_apply] at hb
    split at hb
    · rename_i e; cases hb; subst e; exact ⟨by decide, .cells _ (all1 (nil_under _ _))⟩
    · cases hb
  | cons x l =>
    rw [if_neg (by simp)]
    simp only [shB, ofH, updH_apply] at hb
    split at hb
    · rename_i e; cases hb; subst e; exact ⟨by decide, .cells _ (all1 (.ms _ _ _ (by decide)))⟩
    · split at hb
      · rename_i e; cases hb; subst e
        refine ⟨by decide, .cells _ fun v hv => ?_⟩
        rcases List.mem_append.1 hv with h | h
        · exact (spans_free _ v h).under
        · rw [hj v h]; exact .un
      · cases hb
theorem shB_3 (out : List Sp) (junk : List A) : ofH (shB out junk) 3 = none := by
  cases out with
  | nil => rfl
  | cons x l => rfl
theorem spans_rows (l : List Sp) (junk : List A) : RowsAre ((l.map Sp.c).flatten ++ junk) (l.map Sp.c) 2 := by
  have h := rows_all (c := Sp.c) (sz := 2) (fun _ => rfl) (fun _ => rfl) l
  have hl := flat_len (ys := l.map Sp.c) (sz := 2) fun y hy => h.each y hy
  refine ⟨h.each, by rw [List.length_append]; have := h.len; omega, fun i j hi hj => ?_⟩
  rw [h.is i j hi hj]
  have hlt : i * 2 + j < ((l.map Sp.c).flatten).length := by rw [hl]; omega
  rw [List.getD_eq_getElem?_getD, List.getD_eq_getElem?_getD, List.getElem?_append_left hlt]
theorem under_nms {a : A} (h : Under 3 a) : Nms (fun i => i ≠ 1000) a := by
  have hd : ∀ i, i < 3 → i ≠ 1000 := fun i h => by omega
  induction h with
  | un => exact .un
  | s v => exact .s v
  | sl nil cap es _ ih => exact .sl _ _ _ ih
  | pt cs _ ih => exact .pt _ ih
  | fn f fst cap _ _ ih1 ih2 => exact .fn _ _ _ ih1 ih2
  | ref id off h => exact .ref _ _ (hd _ h)
  | ms id off k h => exact .ms _ _ _ (hd _ h)
  | gs id k cap h => exact .gs _ _ _ (hd _ h)
  | mp id h => exact .mp _ (hd _ h)
  | yl id h => exact .yl _ (hd _ h)
  | agg cs _ ih => exact .agg _ ih
  | tup cs _ ih => exact .tup _ ih
  | cnd g a _ ih => exact .cnd _ _ ih
theorem underB_nms {b : B} (h : UnderB 3 b) : NmsB (fun i => i ≠ 1000) b := by
  cases h with
  | cells cs h => exact .cells _ fun x hx => under_nms (h x hx)
  | map kvs h => exact .map _ fun x hx => ⟨under_nms (h x hx).1, under_nms (h x hx).2⟩
  | lp st pend S nt ps asg body h => exact .lp _ _ _ _ _ _ _ fun t => under_nms (h t)
theorem rows_plain {l : List Sp} {junk : List A} (hj : ∀ v ∈ junk, v = .un) : ∀ v ∈ (l.map Sp.c).flatten ++ junk, v = .un ∨ ∃ n : Int, v = .int n := fun v hv => by
  rcases List.mem_append.1 hv with h | h
  · right
    obtain ⟨e, he, hv⟩ := List.mem_flatten.1 h
    obtain ⟨s, _, rfl⟩ := List.mem_map.1 he
    simp only [Sp.c, List.mem_cons, List.not_mem_nil, or_false] at hv
    rcases hv with rfl | rfl <;> exact ⟨_, rfl⟩
  · exact .inl (hj v h)
theorem setSeg_left {a b v : List A} {p : Nat} (h : p + v.length ≤ a.length) : setSeg (a ++ b) p v = setSeg a p v ++ b := by
  unfold setSeg
  rw [List.take_append_of_le_length (by omega), List.drop_append_of_le_length h, List.append_assoc, List.append_assoc]
theorem rows_put {l : List Sp} {k : Nat} (hk : k < l.length) (s : Sp) (junk : List A) : setSeg ((l.map Sp.c).flatten ++ junk) (0 + k * 2) s.c = ((l.set k s).map Sp.c).flatten ++ junk := by
  rw [setSeg_left (by rw [rows_len]; show 0 + k * 2 + 2 ≤ _; omega)]
  have := rows_set (c := Sp.c) (sz := 2) (fun _ => rfl) (fun _ => rfl) hk s
  rw [flat_down (c := Sp.c) (fun _ => rfl)] at this
  rw [this]
theorem rows_more (l : List Sp) (s : Sp) (junk : List A) (h : 2 ≤ junk.length) : setSeg ((l.map Sp.c).flatten ++ junk) (l.length * 2) s.c = (((l ++ [s]).map Sp.c).flatten) ++ junk.drop 2 := by
  unfold setSeg
  have hl := rows_len l
  rw [← hl, List.take_left, ← List.drop_drop, List.drop_left]
  simp [Sp.c]
theorem nms_ofL {D : Nat → Prop} : ∀ {l : List (Nat × A)}, (∀ p ∈ l, Nms D p.2) → ∀ t, Nms D (ofL l t)
  | [], _, t => .un
  | (i, x) :: l, h, t => by
    simp only [ofL, upd_apply]
    split
    · exact h (i, x) (List.mem_cons_self ..)
    · exact nms_ofL (fun p hp => h p (List.mem_cons_of_mem _ hp)) t
theorem rename_rows {X : Ctx} {r : Option Nat} {x : Code} {Q : Exit → St → Prop} {LB : B} (hLB : UnderB 3 LB) (h0 : X.φ0 1000 = none) {cst : List (Nat × A)} (hc : ∀ p ∈ cst, Nms (fun i => i ≠ 1000) p.2) {n cap : Nat} {l : List Sp} {junk : List A} (hj : ∀ v ∈ junk, v = .un)
    (h : Aw X r x Q ⟨ofL2 cst [], updH (updH (updH (ofH [(2, .cells [.gs 1001 n cap]), (1001, .cells ((l.map Sp.c).flatten ++ junk)), (3, LB)]) 1001 none) 1000 (some (.cells ((l.map Sp.c).flatten ++ junk)))) 2 (some (.cells [.gs 1000 n cap])), 1002⟩) :
    Aw X r x Q ⟨ofL2 cst [], ofH [(2, .cells [.gs 1001 n cap]), (1001, .cells ((l.map Sp.c).flatten ++ junk)), (3, LB)], 1002⟩ := by
  refine Aw.rename (id1 := 1001) (id2 := 1000) (j := 2) rfl rfl (by decide) (by decide) (by decide) rfl h0 (Nat.le_of_ble_eq_true rfl) (nms_ofL (by simpa using hc)) (fun id bx hb => ?_) (fun v hv u => ?_) h
  · simp only [ofH, updH_apply] at hb
    split at hb
    · cases hb; exact .cells _ (all1 (.gs _ _ _ (by decide)))
    · split at hb
      · cases hb
        refine .cells _ fun v hv => ?_
        rcases rows_plain hj v hv with rfl | ⟨n, rfl⟩
        · exact .un
        · exact .s _
      · split at hb
        · cases hb; exact underB_nms hLB
        · cases hb
  · rcases rows_plain hj v hv with rfl | ⟨n, rfl⟩ <;> rfl
theorem Shares_t (p q : Bool) (races : List NS) (seen : List Sp) (hr : (races.length : Int) ≤ 9223372036854775806) (hs : (seen.length : Int) ≤ 9223372036854775806) (hrs : ∀ x ∈ races, x.Fit) :
    Ans Try.prog 21 [.sl p .any (races.map NS.c), .sl q .any (seen.map Sp.c)] (.tup (shareR races seen)) := by
  have hfr : Free (.tup (shareR races seen)) := .tup _ (by
    unfold shareR
    split
    · split <;> exact allC (outS_free _) (all1 (.s _))
    · exact allC (outS_free _) (all1 (.s _)))
  have zr : ((races.map NS.c).length : Int) = races.length := by simp
  have zs : ((seen.map Sp.c).length : Int) = seen.length := by simp
  have fr : Free (.sl p .any (races.map NS.c)) := free_map NS.free _ _ _
  have fs : Free (.sl q .any (seen.map Sp.c)) := free_map Sp.free _ _ _
  have ur : ∀ {n}, Under n (A.pt [A.sl p .any (races.map NS.c)]) := (Free.pt _ (all1 fr)).under
  have us : ∀ {n}, Under n (A.pt [A.sl q .any (seen.map Sp.c)]) := (Free.pt _ (all1 fs)).under
  have ur' : ∀ {n}, Under n (A.sl p .any (races.map NS.c)) := fr.under
  refine told Try.func21 rfl rfl (Pure.of tab_ok Try.func21 rfl Try.ntmps21 rfl (allC (fr) (all1 (fs))) (allC (fun _ => rfl) (all1 (fun _ => rfl))) (by first | exact .s _ | assumption | exact .tup _ (by intro x hx; simp only [List.mem_cons, List.not_mem_nil, or_false] at hx; rcases hx with rfl | rfl | rfl | rfl <;> first | exact .s _ | (simp_all; done))) fun E hE => ?_)
  refine Aw.sm tab_ok mb0 [] rfl rfl ?zo ?zk
  case zo =>
    repeat' apply AllP.cons
    all_goals first | exact trivial | exact id | exact rfl | exact fun _ => rfl | exact Nat.le_of_ble_eq_true rfl | exact fun _ => Nat.le_of_ble_eq_true rfl | exact Int.natCast_nonneg _ | exact fun _ => Int.natCast_nonneg _ | exact within_t _ _ _ | exact (within_t _ _ _).un
  case zk =>
  refine Aw.scope ?_
  have hsg : Ans Try.prog 63 [.sl q .any (seen.map Sp.c), .int (seen.map Sp.c).length] (.bool (signsOk seen seen.length)) := by
    rw [zs]; exact areSigns_t q seen seen.length hs
  refine Aw.sm tab_ok mb0 [(2, [.bool (wi (races.map NS.c).length 1 3)]), (7, [.bool (signsOk seen seen.length)])] rfl rfl ?zo ?zk
  case zo =>
    repeat' apply AllP.cons
    all_goals first | exact trivial | exact id | exact rfl | exact fun _ => rfl | exact Nat.le_of_ble_eq_true rfl | exact fun _ => Nat.le_of_ble_eq_true rfl | exact Int.natCast_nonneg _ | exact fun _ => Int.natCast_nonneg _ | exact within_t _ _ _ | exact (within_t _ _ _).un | exact fun _ => hsg
  case zk =>
  have hd : A.bool (cond (wi races.length 1 3) (signsOk seen seen.length) false) = A.bool (cond (wi (races.map NS.c).length 1 3) (signsOk seen seen.length) false) := by rw [zr]
  have hok : cond (cond (wi races.length 1 3) (signsOk seen seen.length) false) (races.all fun x => signsOk x.l seen.length) false = sharesOk races seen := rfl
  generalize cond (wi races.length 1 3) (signsOk seen seen.length) false = b0 at *
  refine Aw.seq ?_
  refine Aw.sm tab_ok mb0 [] rfl rfl ?zo ?zk
  case zo =>
    repeat' apply AllP.cons
    all_goals first | exact trivial | exact id | exact rfl | exact fun _ => rfl | exact Nat.le_of_ble_eq_true rfl | exact fun _ => Nat.le_of_ble_eq_true rfl | exact Int.natCast_nonneg _ | exact fun _ => Int.natCast_nonneg _ | exact within_t _ _ _ | exact (within_t _ _ _).un
  case zk =>
  refine Aw.block (Aw.rounds 0 hE [(2, .pt [.sl p .any (races.map NS.c)]), (3, .pt [.sl q .any (seen.map Sp.c)]), (28, .sl p .any (races.map NS.c)), (29, .int (races.map NS.c).length)] (fun k : Nat => [(6, .bool (andAll b0 (fun x => signsOk x.l seen.length) races k)), (30, .int k)]) (fun _ => []) (fun k => k ≤ races.length) (fun k => races.length - k) 0
    (Nat.zero_le _) ⟨⟨.refl _, .refl _, .refl _, .refl _, trivial⟩, ⟨.of_eq (by rw [andAll_zero]; exact hd), .refl _, trivial⟩, trivial, Nat.zero_le _⟩ ⟨ur, us, ur', .s _, trivial⟩ (fun _ _ => ⟨.s _, .s _, trivial⟩) (fun _ _ => trivial) fun k hk => ?_)
  refine Aw.sm tab_ok mb0 [] rfl rfl ?zo ?zk
  case zo =>
    repeat' apply AllP.cons
    all_goals first | exact trivial | exact id | exact rfl | exact fun _ => rfl | exact Nat.le_of_ble_eq_true rfl | exact fun _ => Nat.le_of_ble_eq_true rfl | exact Int.natCast_nonneg _ | exact fun _ => Int.natCast_nonneg _ | exact within_t _ _ _ | exact (within_t _ _ _).un
  case zk =>
  refine Aw.seq (Aw.cond rfl (fun h1 => Aw.skip1 ?_) (fun h1 => Aw.exit2 ?_))
  · have hlt : k < races.length := by have := of_decide_eq_true h1; omega
    have hstep := andAll_step (b := b0) (p := fun x : NS => signsOk x.l seen.length) hlt
    have hone : Ans Try.prog 63 [.sl races[k].n .any (races[k].l.map Sp.c), .int (seen.map Sp.c).length] (.bool (signsOk races[k].l seen.length)) := by
      rw [zs]; exact areSigns_t _ _ _ (hrs _ (List.getElem_mem hlt))
    refine Aw.seq (Aw.block ?_)
    refine Aw.sm tab_ok mb0 [(0, races[k].c)] rfl rfl ?zo ?zk
    case zo =>
      repeat' apply AllP.cons
      all_goals first | exact trivial | exact id | exact rfl | exact fun _ => rfl | exact Nat.le_of_ble_eq_true rfl | exact fun _ => Nat.le_of_ble_eq_true rfl | exact Int.natCast_nonneg _ | exact fun _ => Int.natCast_nonneg _ | exact within_t _ _ _ | exact (within_t _ _ _).un | exact get_map hlt
    case zk =>
    refine Aw.em tab_ok mb0 [(5, [.bool (signsOk races[k].l seen.length)])] rfl rfl ?zo ?zk
    case zo =>
      repeat' apply AllP.cons
      all_goals first | exact trivial | exact id | exact rfl | exact fun _ => rfl | exact Nat.le_of_ble_eq_true rfl | exact fun _ => Nat.le_of_ble_eq_true rfl | exact Int.natCast_nonneg _ | exact fun _ => Int.natCast_nonneg _ | exact within_t _ _ _ | exact (within_t _ _ _).un | exact fun _ => hone
    case zk =>
    refine Aw.em tab_ok mb0 [] rfl rfl ?zo ?zk
    case zo =>
      repeat' apply AllP.cons
      all_goals first | exact trivial | exact id | exact rfl | exact fun _ => rfl | exact Nat.le_of_ble_eq_true rfl | exact fun _ => Nat.le_of_ble_eq_true rfl | exact Int.natCast_nonneg _ | exact fun _ => Int.natCast_nonneg _ | exact within_t _ _ _ | exact (within_t _ _ _).un | exact inrk k (by omega)
    case zk =>
    exact ⟨k + 1, hlt, by omega, ⟨.refl _, .refl _, .refl _, .refl _, trivial⟩, ⟨.of_eq (congrArg A.bool hstep), .refl _, trivial⟩, trivial, Nat.zero_le _⟩
  have hle : k = races.length := by have := of_decide_eq_false h1; omega
  subst hle
  rw [andAll_full, hok]
  refine Aw.keep (n := 0) (cst := [(2, .pt [.sl p .any (races.map NS.c)]), (3, .pt [.sl q .any (seen.map Sp.c)]), (6, .bool (sharesOk races seen))]) (v := []) (Hl := []) hE ⟨ur, us, .s _, trivial⟩ trivial trivial ⟨⟨.refl _, .refl _, .refl _, trivial⟩, trivial, trivial, Nat.zero_le _⟩ ?_
  refine Aw.seq ?_
  refine Aw.sm tab_ok mb0 [] rfl rfl ?zo ?zk
  case zo =>
    repeat' apply AllP.cons
    all_goals first | exact trivial | exact id | exact rfl | exact fun _ => rfl | exact Nat.le_of_ble_eq_true rfl | exact fun _ => Nat.le_of_ble_eq_true rfl | exact Int.natCast_nonneg _ | exact fun _ => Int.natCast_nonneg _ | exact within_t _ _ _ | exact (within_t _ _ _).un
  case zk =>
  refine Aw.cond rfl (fun h1 => ?_) (fun h1 => Aw.skip ?_)
  · have hno : sharesOk races seen = false := by simpa using h1
    refine Aw.sm tab_ok mb0 [] rfl rfl ?zo ?zk
    case zo =>
      repeat' apply AllP.cons
      all_goals first | exact trivial | exact id | exact rfl | exact fun _ => rfl | exact Nat.le_of_ble_eq_true rfl | exact fun _ => Nat.le_of_ble_eq_true rfl | exact Int.natCast_nonneg _ | exact fun _ => Int.natCast_nonneg _ | exact within_t _ _ _ | exact (within_t _ _ _).un
    case zk =>
    exact Aw.ret ⟨_, .cons (.tmp _) (.cons (.tmp _) .nil), by simp only [shareR, hno]; rfl⟩
  have hyes : sharesOk races seen = true := by simpa using h1
  have hin := SharesIn.of hyes
  have n1 := hin.n1
  have n3 := hin.n3
  have hR : shareR races seen = if shareF races seen = [] then [outS [], .int 4] else [outS (shareF races seen), .int 0] := by unfold shareR; rw [hyes]; rfl
  rw [hR]
  refine Aw.sm tab_ok mb0 [] rfl rfl ?zo ?zk
  case zo =>
    repeat' apply AllP.cons
    all_goals first | exact trivial | exact id | exact rfl | exact fun _ => rfl | exact Nat.le_of_ble_eq_true rfl | exact fun _ => Nat.le_of_ble_eq_true rfl | exact Int.natCast_nonneg _ | exact fun _ => Int.natCast_nonneg _ | exact within_t _ _ _ | exact (within_t _ _ _).un
  case zk =>
  refine Aw.sm tab_ok mb0 [] rfl rfl ?zo ?zk
  case zo =>
    repeat' apply AllP.cons
    all_goals first | exact trivial | exact id | exact rfl | exact fun _ => rfl | exact Nat.le_of_ble_eq_true rfl | exact fun _ => Nat.le_of_ble_eq_true rfl | exact Int.natCast_nonneg _ | exact fun _ => Int.natCast_nonneg _ | exact within_t _ _ _ | exact (within_t _ _ _).un
  case zk =>
  refine Aw.freeze (id := 0) (t := 9) rfl rfl ?_
  refine Aw.freeze (id := 1) (t := 10) rfl rfl ?_
  have u64 : ∀ {n}, Under n (A.pt [A.fn (.func 64) [] []]) := (Free.pt _ (all1 (.fn _ _ _ allN allN))).under
  have u65 : ∀ {n}, Under n (A.pt [A.fn (.func 65) [] []]) := (Free.pt _ (all1 (.fn _ _ _ allN allN))).under
  refine Aw.keep (n := 3) (cst := [(2, .pt [.sl p .any (races.map NS.c)]), (3, .pt [.sl q .any (seen.map Sp.c)]), (9, .pt [.fn (.func 64) [] []]), (10, .pt [.fn (.func 65) [] []]), (11, .ref 2 0)]) (v := []) (Hl := [(2, .cells [.sl true .exact []])]) (fun id h => hE id (by omega)) ⟨ur, us, u64, u65, .ref _ _ (by decide), trivial⟩ trivial ⟨⟨by decide, .cells _ (all1 (nil_under _ _))⟩, trivial⟩
    ⟨⟨.refl _, .refl _, .refl _, .refl _, .refl _, trivial⟩, trivial, ⟨rfl, trivial⟩, Nat.le_of_ble_eq_true rfl⟩ ?_
  refine Aw.seq (Aw.label ?_)
  refine Aw.seq ?_
  refine Aw.sm tab_ok mb0 [(2, [.fn (.func 87) [] [.pt [.int races.length]]])] rfl rfl ?zo ?zk
  case zo =>
    repeat' apply AllP.cons
    all_goals first | exact trivial | exact id | exact rfl | exact fun _ => rfl | exact Nat.le_of_ble_eq_true rfl | exact fun _ => Nat.le_of_ble_eq_true rfl | exact Int.natCast_nonneg _ | exact fun _ => Int.natCast_nonneg _ | exact within_t _ _ _ | exact (within_t _ _ _).un | exact zr ▸ mixings_t _
  case zk =>
  have u87 : ∀ {n}, Under n (A.fn (.func 87) [] [.pt [.int races.length]]) := (Free.fn _ _ _ allN (all1 (.pt _ (all1 (.s _))))).under
  refine Aw.keep (n := 3) (cst := [(2, .pt [.sl p .any (races.map NS.c)]), (3, .pt [.sl q .any (seen.map Sp.c)]), (9, .pt [.fn (.func 64) [] []]), (10, .pt [.fn (.func 65) [] []]), (11, .ref 2 0), (48, .fn (.func 87) [] [.pt [.int races.length]])]) (v := []) (Hl := [(2, .cells [.sl true .exact []])]) (fun id h => hE id (by omega)) ⟨ur, us, u64, u65, .ref _ _ (by decide), u87, trivial⟩ trivial ⟨⟨by decide, .cells _ (all1 (nil_under _ _))⟩, trivial⟩
    ⟨⟨.refl _, .refl _, .refl _, .refl _, .refl _, .refl _, trivial⟩, trivial, ⟨rfl, trivial⟩, Nat.le_of_ble_eq_true rfl⟩ ?_
  refine Aw.block (Aw.iterD rfl (enters_of Try.func87 rfl rfl) ((mixL (races.length - 1) [] 100).map yMix) (shI races seen) d5 (shCn races seen) rfl (by unfold shCn outK; rfl) rfl (fun x hx => by obtain ⟨m, _, rfl⟩ := List.mem_map.1 hx; rfl)
    (nms_ofL fun x hx => ?_) (fun k H h => by obtain ⟨junk, hj, rfl⟩ := h; exact ⟨shB_dom _ _ hj, shB_3 _ _⟩) (fun k H h => by obtain ⟨junk, hj, rfl⟩ := h; exact shB_low _ _ hj) (ofL2_under ⟨ur, us, u64, u65, .ref _ _ (Nat.le_of_ble_eq_true rfl), u87, trivial⟩) (fun k => by show 4 ≤ shCn races seen k; unfold shCn; split <;> omega)
    (fun it H hI => mixings1_t races.length n1 n3 (shCn_ok races seen) (by unfold shCn outK; rfl) it H hI) ⟨[], (fun _ h => nomatch h), rfl⟩ ?_ ?_)
  · simp only [List.nil_append, List.mem_cons, List.not_mem_nil, or_false] at hx
    rcases hx with rfl | rfl | rfl | rfl | rfl | rfl
    · exact (Free.pt _ (all1 fr)).nms
    · exact (Free.pt _ (all1 fs)).nms
    · exact (Free.pt _ (all1 (.fn _ _ _ allN allN))).nms
    · exact (Free.pt _ (all1 (.fn _ _ _ allN allN))).nms
    · exact .ref _ _ rfl
    · exact (Free.fn _ _ _ allN (all1 (.pt _ (all1 (.s _))))).nms
  · intro lpB _ hlp k yy hk H hI E' b' hE'
    rw [List.getElem?_map] at hk
    cases hm : (mixL (races.length - 1) [] 100)[k]? with
    | none => rw [hm] at hk; cases hk
    | some mix =>
    rw [hm] at hk
    cases hk
    obtain ⟨junk, hj, rfl⟩ := hI
    have hml := mixL_mem _ _ _ mix (List.mem_of_getElem? hm)
    have hmlen : mix.length = races.length := by have := hml.1; simp at this; omega
    have hmb : ∀ x ∈ mix, 0 ≤ x ∧ x ≤ 100 := fun x hx => by
      have h0 := hml.2.2.2
      rw [List.length_nil, List.drop_zero] at h0
      have h2 : mix.sum = 100 := by have := hml.2.2.1; simpa using this
      obtain ⟨i, hi, rfl⟩ := List.mem_iff_getElem.1 hx
      have h3 := sum_ge h0 i
      have e : mix.getD i 0 = mix[i] := by simp [List.getD_eq_getElem?_getD, hi]
      rw [e] at h3
      exact ⟨h0 _ hx, by omega⟩
    have hnext := outK_succ (seen := seen) hm
    have hcn : shCn races seen k ≤ 1001 := by unfold shCn; split <;> omega
    have hlow := shB_low (outK races seen k) junk hj
    have hlow1 : Low 1001 (ofH (shB (outK races seen k) junk)) := fun i bx hb => by
      have h := hlow i bx hb
      have h2 : (if outK races seen k = [] then 4 else 1001) ≤ 1001 := by split <;> omega
      exact ⟨by omega, h.2.mono h2⟩
    have hE1 : ∀ i, 1001 ≤ i → E'.φ0 i = none := fun i h => hE' i (by omega)
    have hulp : UnderB 3 (lpB .busy none) := hlp .busy none
    generalize hLB : lpB .busy none = LB at *
    have um : ∀ {n}, Under n (A.sl false .any (ints mix)) := (free_ints _ _ _).under
    have lm := ints_lenI mix
    have us' : ∀ {n}, Under n (A.sl q .any (seen.map Sp.c)) := fs.under
    refine Aw.raise (c' := 1001) hcn ?_
    refine Aw.em tab_ok mb0 [] rfl rfl ?zo ?zk
    case zo =>
      repeat' apply AllP.cons
      all_goals first | exact trivial | exact id | exact rfl | exact fun _ => rfl | exact Nat.le_of_ble_eq_true rfl | exact fun _ => Nat.le_of_ble_eq_true rfl | exact Int.natCast_nonneg _ | exact fun _ => Int.natCast_nonneg _ | exact within_t _ _ _ | exact (within_t _ _ _).un
    case zk =>
    refine ⟨rfl, rfl, ?_⟩
    generalize hHk : ofH (shB (outK races seen k) junk) = Hk at *
    have hlk : Low 1001 (updH Hk 3 (some LB)) := fun i bx hb => by
      rw [updH_apply] at hb
      split at hb
      · rename_i e; cases hb; exact ⟨by omega, hulp.mono (by decide)⟩
      · exact hlow1 i bx hb
    refine Aw.keepH (n := 1001) (cst := [(2, .pt [.sl p .any (races.map NS.c)]), (3, .pt [.sl q .any (seen.map Sp.c)]), (9, .pt [.fn (.func 64) [] []]), (10, .pt [.fn (.func 65) [] []]), (11, .ref 2 0), (12, .sl false .any (ints mix))]) (v := []) (J := fun H' => H' = updH Hk 3 (some LB)) hE1 ⟨ur, us, u64, u65, .ref _ _ (by decide), um, trivial⟩ trivial (fun _ e => e ▸ hlk)
      ⟨⟨.refl _, .refl _, .refl _, .refl _, .refl _, .refl _, trivial⟩, trivial, ⟨_, rfl, fun i bx hb => ?_⟩, Nat.le_refl _⟩ ?_
    · show updH (updH Hk 3 _) 3 _ i = _
      rw [updH_apply] at hb ⊢
      split
      · rename_i e; rw [if_pos e] at hb; exact hb
      · rename_i e; rw [if_neg e] at hb; rw [updH_other _ _ e]; exact hb
    rintro _ rfl
    have hag : agreeF races seen mix = (List.range seen.length).all (signIn races seen mix) := rfl
    have hst : shareStep races seen (outK races seen k) mix = if agreeF races seen mix then wideL (if outK races seen k = [] then points mix else outK races seen k) mix else outK races seen k := rfl
    rw [hst] at hnext
    generalize agreeF races seen mix = R at *
    refine Aw.block ?_
    refine Aw.seq ?_
    refine Aw.sm tab_ok mb0 [] rfl rfl ?zo ?zk
    case zo =>
      repeat' apply AllP.cons
      all_goals first | exact trivial | exact id | exact rfl | exact fun _ => rfl | exact Nat.le_of_ble_eq_true rfl | exact fun _ => Nat.le_of_ble_eq_true rfl | exact Int.natCast_nonneg _ | exact fun _ => Int.natCast_nonneg _ | exact within_t _ _ _ | exact (within_t _ _ _).un
    case zk =>
    refine Aw.block (Aw.roundsH (ι := Nat) 1001 hE1 [(2, .pt [.sl p .any (races.map NS.c)]), (3, .pt [.sl q .any (seen.map Sp.c)]), (9, .pt [.fn (.func 64) [] []]), (10, .pt [.fn (.func 65) [] []]), (11, .ref 2 0), (12, .sl false .any (ints mix)), (50, .sl q .any (seen.map Sp.c)), (51, .int (seen.map Sp.c).length)] (fun i => [(52, .int i)])
      (fun i H' => (i ≤ seen.length ∧ ((List.range seen.length).drop i).all (signIn races seen mix) = R) ∧ H' = updH Hk 3 (some LB)) (fun i => seen.length - i) 0
      ⟨⟨.refl _, .refl _, .refl _, .refl _, .refl _, .refl _, .refl _, .refl _, trivial⟩, ⟨.refl _, trivial⟩, .self (H := updH Hk 3 (some LB)) ⟨⟨Nat.zero_le _, hag.symm⟩, rfl⟩, Nat.le_refl _⟩ ⟨ur, us, u64, u65, .ref _ _ (by decide), um, us', .s _, trivial⟩ (fun _ => ⟨.s _, trivial⟩) (fun i H' h => h.2 ▸ hlk) ?_)
    rintro i _ ⟨⟨hi, hrun⟩, rfl⟩
    refine Aw.sm tab_ok mb0 [] rfl rfl ?zo ?zk
    case zo =>
      repeat' apply AllP.cons
      all_goals first | exact trivial | exact id | exact rfl | exact fun _ => rfl | exact Nat.le_of_ble_eq_true rfl | exact fun _ => Nat.le_of_ble_eq_true rfl | exact Int.natCast_nonneg _ | exact fun _ => Int.natCast_nonneg _ | exact within_t _ _ _ | exact (within_t _ _ _).un
    case zk =>
    refine Aw.seq (Aw.cond rfl (fun h1 => Aw.skip1 ?_) (fun h1 => Aw.exit2 ?_))
    · have hlt : i < seen.length := by have := of_decide_eq_true h1; omega
      rw [all_drop hlt] at hrun
      have hcl := mixed_t 64 Sp.lo lo_ok races seen hin p false mix hmlen hmb i hlt
      have hch := mixed_t 65 Sp.hi hi_ok races seen hin p false mix hmlen hmb i hlt
      have hg : (seen.map Sp.c)[i]? = some (seen.getD i ⟨0, 0⟩).c := by rw [get_map hlt]; simp [List.getD_eq_getElem?_getD, hlt]
      have hpc := pct_in (hin.sn (seen.getD i ⟨0, 0⟩) (by rw [List.getD_eq_getElem?_getD, List.getElem?_eq_getElem hlt]; exact List.getElem_mem hlt))
      have hsi : signIn races seen mix i = (!decide (mixedF Sp.lo mix races i > 100 * (seen.getD i ⟨0, 0⟩).hi) && !decide (mixedF Sp.hi mix races i < 100 * (seen.getD i ⟨0, 0⟩).lo)) := rfl
      generalize seen.getD i ⟨0, 0⟩ = sp at *
      generalize mixedF Sp.lo mix races i = ml at *
      generalize mixedF Sp.hi mix races i = mh at *
      refine Aw.seq (Aw.block ?_)
      refine Aw.sm tab_ok mb0 [(1, sp.c)] rfl rfl ?zo ?zk
      case zo =>
        repeat' apply AllP.cons
        all_goals first | exact trivial | exact id | exact rfl | exact fun _ => rfl | exact Nat.le_of_ble_eq_true rfl | exact fun _ => Nat.le_of_ble_eq_true rfl | exact Int.natCast_nonneg _ | exact fun _ => Int.natCast_nonneg _ | exact within_t _ _ _ | exact (within_t _ _ _).un | exact hg
      case zk =>
      have o1 : inR (100 * sp.hi) := by simp only [inR]; omega
      have o2 : inR (100 * sp.lo) := by simp only [inR]; omega
      refine Aw.sd tab_ok mixed mb0 [(4, [.int ml]), (6, [.int sp.hi]), (14, [.int mh]), (16, [.int sp.lo])] rfl (by kernel_rfl) rfl rfl ?zo ?zk
      case zo =>
        repeat' apply AllP.cons
        all_goals first | exact trivial | exact id | exact rfl | exact fun _ => rfl | exact Nat.le_of_ble_eq_true rfl | exact fun _ => Nat.le_of_ble_eq_true rfl | exact Int.natCast_nonneg _ | exact fun _ => Int.natCast_nonneg _ | exact within_t _ _ _ | exact (within_t _ _ _).un | exact hcl | exact fun _ => hch | exact o1 | exact fun _ => o2 | exact gq_f
      case zk =>
      refine Aw.cond rfl (fun h3 => ?_) (fun h3 => Aw.skip ?_)
      · have h3 : cond (decide (ml > 100 * sp.hi)) true (decide (mh < 100 * sp.lo)) = true := h3
        have hno : signIn races seen mix i = false := by
          rw [hsi]
          cases h4 : decide (ml > 100 * sp.hi) <;> rw [h4] at h3
          · have h3 : decide (mh < 100 * sp.lo) = true := h3
            rw [h3]; rfl
          · rfl
        rw [hno, Bool.false_and] at hrun
        subst hrun
        have hnext : outK races seen (k + 1) = outK races seen k := hnext
        have hcc : shCn races seen (k + 1) = shCn races seen k := by unfold shCn; rw [hnext]
        have hlow2 : Low (shCn races seen k) (updH Hk 3 (some LB)) := fun i bx hb => by
          have h4 : 4 ≤ shCn races seen k := by unfold shCn; split <;> omega
          rw [updH_apply] at hb
          split at hb
          · rename_i e; cases hb; exact ⟨by omega, hulp.mono (by omega)⟩
          · exact hlow i bx hb
        refine Aw.keepH (n := shCn races seen k) (cst := []) (v := []) (J := fun H' => H' = updH Hk 3 (some LB)) hE' trivial trivial (fun _ e => e ▸ hlow2) ⟨trivial, trivial, ⟨_, rfl, fun i bx hb => ?_⟩, ?_⟩ ?_
        · have h9 := (hlk i bx hb).1
          show updH (updH (updH Hk 3 (some LB)) 1001 _) 1001 _ i = some bx
          rw [updH_other _ _ (by omega), updH_other _ _ (by omega)]; exact hb
        · exact Nat.le_trans hcn (Nat.le_of_ble_eq_true rfl)
        rintro _ rfl
        refine Aw.exit (blkN rfl (thenE (thenE (blkN rfl (thenE (blkE ?_))))))
        refine ⟨⟨.busy, none, ?_⟩, hcc.symm, Hk, ⟨junk, hj, ?_⟩, fun i bx hb => ?_⟩
        · rw [← hLB]; show updH Hk 3 (some (lpB .busy none)) 3 = _; exact updH_same _ _ _
        · rw [hnext]; exact hHk.symm
        · have h9 : i ≠ 3 := fun e => by subst e; rw [← hHk, shB_3] at hb; cases hb
          show updH Hk 3 (some LB) i = some bx
          rw [updH_other _ _ h9]; exact hb
      · have h3 : cond (decide (ml > 100 * sp.hi)) true (decide (mh < 100 * sp.lo)) = false := h3
        have hye : signIn races seen mix i = true := by
          rw [hsi]
          cases h4 : decide (ml > 100 * sp.hi) <;> rw [h4] at h3
          · have h3 : decide (mh < 100 * sp.lo) = false := h3
            rw [h3]; rfl
          · cases h3
        rw [hye, Bool.true_and] at hrun
        refine Aw.em tab_ok mb0 [] rfl rfl ?zo ?zk
        case zo =>
          repeat' apply AllP.cons
          all_goals first | exact trivial | exact id | exact rfl | exact fun _ => rfl | exact Nat.le_of_ble_eq_true rfl | exact fun _ => Nat.le_of_ble_eq_true rfl | exact Int.natCast_nonneg _ | exact fun _ => Int.natCast_nonneg _ | exact within_t _ _ _ | exact (within_t _ _ _).un | exact inrk i (by omega)
        case zk =>
        refine ⟨i + 1, by omega, ⟨.refl _, .refl _, .refl _, .refl _, .refl _, .refl _, .refl _, .refl _, trivial⟩, ⟨.refl _, trivial⟩, ⟨updH Hk 3 (some LB), ⟨⟨hlt, hrun⟩, rfl⟩, fun i bx hb => ?_⟩, Nat.le_of_ble_eq_true rfl⟩
        have h9 := (hlk i bx hb).1
        show updH (updH (updH Hk 3 (some LB)) 1001 _) 1001 _ i = some bx
        rw [updH_other _ _ (by omega), updH_other _ _ (by omega)]; exact hb
    have hle : i = seen.length := by have := of_decide_eq_false h1; omega
    subst hle
    rw [all_drop_end] at hrun
    subst hrun
    have hnext : outK races seen (k + 1) = wideL (if outK races seen k = [] then points mix else outK races seen k) mix := hnext
    have holen := outK_len (races := races) (seen := seen) n1 k
    have hcn4 : outK races seen k = [] → shCn races seen k = 4 := fun h => by unfold shCn; rw [if_pos h]
    generalize outK races seen k = out at *
    refine Aw.join (ι := List Sp × List A) 1001 hE1 [(11, .ref 2 0), (12, .sl false .any (ints mix))] (fun _ => []) (fun i => [(2, .cells [.ms 1000 0 i.1.length]), (1000, .cells ((i.1.map Sp.c).flatten ++ i.2)), (3, LB)]) (fun i => i.1.length = mix.length ∧ (∀ v ∈ i.2, v = .un) ∧ outK races seen (k + 1) = wideL i.1 mix)
      ⟨.ref _ _ (by decide), um, trivial⟩ (fun _ _ => trivial) (fun i h => ⟨⟨by decide, .cells _ (all1 (.ms _ _ _ (by decide)))⟩, ⟨by decide, rows_under h.2.1⟩, ⟨by decide, hulp.mono (by decide)⟩, trivial⟩) ?_ ?_
    · cases out with
      | nil =>
        subst hHk
        have hnext : outK races seen (k + 1) = wideL (points mix) mix := hnext
        refine Aw.keep (n := 1001) (cst := [(11, .ref 2 0), (12, .sl false .any (ints mix))]) (v := []) (Hl := [(2, .cells [.sl true .exact []]), (3, LB)]) hE1 ⟨.ref _ _ (by decide), um, trivial⟩ trivial ⟨⟨by decide, .cells _ (all1 (nil_under _ _))⟩, ⟨by decide, hulp.mono (by decide)⟩, trivial⟩
          ⟨⟨.refl _, .refl _, trivial⟩, trivial, ⟨rfl, rfl, trivial⟩, Nat.le_of_ble_eq_true rfl⟩ ?_
        refine Aw.sm tab_ok mb0 [] rfl rfl ?zo ?zk
        case zo =>
          repeat' apply AllP.cons
          all_goals first | exact trivial | exact id | exact rfl | exact fun _ => rfl | exact Nat.le_of_ble_eq_true rfl | exact fun _ => Nat.le_of_ble_eq_true rfl | exact Int.natCast_nonneg _ | exact fun _ => Int.natCast_nonneg _ | exact within_t _ _ _ | exact (within_t _ _ _).un
        case zk =>
        refine Aw.cond rfl (fun _ => ?_) (fun h => by cases h)
        refine Aw.sm tab_ok mb0 [] rfl rfl ?zo ?zk
        case zo =>
          repeat' apply AllP.cons
          all_goals first | exact trivial | exact id | exact rfl | exact fun _ => rfl | exact Nat.le_of_ble_eq_true rfl | exact fun _ => Nat.le_of_ble_eq_true rfl | exact Int.natCast_nonneg _ | exact fun _ => Int.natCast_nonneg _ | exact within_t _ _ _ | exact (within_t _ _ _).un
        case zk =>
        have E1000 : E'.φ0 1000 = none := hE' 1000 (by rw [hcn4 rfl]; omega)
        refine Aw.block (Aw.rounds (ι := Nat × Nat × List A) 1001 hE1 [(11, .ref 2 0), (12, .sl false .any (ints mix)), (80, .sl false .any (ints mix)), (81, .int (ints mix).length)] (fun i => [(82, .int i.1)]) (fun i => bldB LB mix i.1 i.2.1 i.2.2)
          (fun i => i.1 ≤ mix.length ∧ (∀ v ∈ i.2.2, v = .un) ∧ (0 < i.1 → i.1 * 2 + i.2.2.length = i.2.1 * 2)) (fun i => mix.length - i.1) (0, 0, [])
          ⟨Nat.zero_le _, (fun _ h => nomatch h), fun h => absurd h (Nat.lt_irrefl 0)⟩ ⟨⟨.refl _, .refl _, .refl _, .refl _, trivial⟩, ⟨.refl _, trivial⟩, ⟨rfl, rfl, trivial⟩, Nat.le_of_ble_eq_true rfl⟩ ⟨.ref _ _ (by decide), um, um, .s _, trivial⟩ (fun _ _ => ⟨.s _, trivial⟩)
          (fun i h => by
            obtain ⟨j, cap, jk⟩ := i
            cases j with
            | zero => exact ⟨⟨by decide, .cells _ (all1 (nil_under _ _))⟩, ⟨by decide, hulp.mono (by decide)⟩, trivial⟩
            | succ j => exact ⟨⟨by decide, .cells _ (all1 (.gs _ _ _ (by decide)))⟩, ⟨by decide, rows_under h.2.1⟩, ⟨by decide, hulp.mono (by decide)⟩, trivial⟩) ?_)
        rintro ⟨j, cap, jk⟩ ⟨hj1, hj2, hj3⟩
        simp only at hj1 hj2 hj3
        refine Aw.sm tab_ok mb0 [] rfl rfl ?zo ?zk
        case zo =>
          repeat' apply AllP.cons
          all_goals first | exact trivial | exact id | exact rfl | exact fun _ => rfl | exact Nat.le_of_ble_eq_true rfl | exact fun _ => Nat.le_of_ble_eq_true rfl | exact Int.natCast_nonneg _ | exact fun _ => Int.natCast_nonneg _ | exact within_t _ _ _ | exact (within_t _ _ _).un
        case zk =>
        refine Aw.seq (Aw.cond rfl (fun h1 => Aw.skip1 ?_) (fun h1 => ?_))
        · have hlt : j < mix.length := by have := of_decide_eq_true h1; omega
          have hpt := points_take mix j hlt
          have hmj : (ints mix)[j]? = some [.int mix[j]] := ints_get hlt
          generalize mix[j] = m at *
          refine Aw.seq (Aw.block ?_)
          refine Aw.sm tab_ok mb0 [(0, [.int m])] rfl rfl ?zo ?zk
          case zo =>
            repeat' apply AllP.cons
            all_goals first | exact trivial | exact id | exact rfl | exact fun _ => rfl | exact Nat.le_of_ble_eq_true rfl | exact fun _ => Nat.le_of_ble_eq_true rfl | exact Int.natCast_nonneg _ | exact fun _ => Int.natCast_nonneg _ | exact within_t _ _ _ | exact (within_t _ _ _).un | exact hmj
          case zk =>
          cases j with
          | zero =>
            refine Aw.es rfl ?_
            refine RegL.partE tab_ok mb0 false 5 0 [] ?_
            conv => arg 5; whnf
            refine PartK.mk ?zo ?zk
            case zo =>
              repeat' apply AllP.cons
              all_goals first | exact trivial | exact id | exact rfl | exact fun _ => rfl | exact Nat.le_of_ble_eq_true rfl | exact fun _ => Nat.le_of_ble_eq_true rfl | exact Int.natCast_nonneg _ | exact fun _ => Int.natCast_nonneg _ | exact within_t _ _ _ | exact (within_t _ _ _).un
            case zk =>
            refine Does.raw rfl (DoesR.appNil tab_ok rfl rfl rfl (by decide) (by decide) rfl rfl (by simp) (fun z hz => by simp at hz; subst hz; rfl) (Nat.le_of_ble_eq_true rfl) (Nat.le_of_ble_eq_true rfl) fun cap' hcap => ?_)
            refine RegL.partE tab_ok mb0 false 6 9 [] ?_
            conv => arg 5; whnf
            refine PartK.mk ?zo ?zk
            case zo =>
              repeat' apply AllP.cons
              all_goals first | exact trivial | exact id | exact rfl | exact fun _ => rfl | exact Nat.le_of_ble_eq_true rfl | exact fun _ => Nat.le_of_ble_eq_true rfl | exact Int.natCast_nonneg _ | exact fun _ => Int.natCast_nonneg _ | exact within_t _ _ _ | exact (within_t _ _ _).un
            case zk =>
            have hcap : 1 ≤ cap' := hcap
            have hun : ∀ v ∈ List.replicate ((cap' - 1) * 2) A.un, v = .un := fun v hv => List.eq_of_mem_replicate hv
            refine Aw.keep (n := 1002) (cst := [(11, .ref 2 0), (12, .sl false .any (ints mix)), (80, .sl false .any (ints mix)), (81, .int (ints mix).length), (82, .int 0)]) (v := []) (Hl := [(2, .cells [.gs 1001 1 cap']), (1001, .cells ((([⟨m, m⟩] : List Sp).map Sp.c).flatten ++ List.replicate ((cap' - 1) * 2) .un)), (3, LB)]) (fun i h => hE1 i (by omega)) ⟨.ref _ _ (by decide), um, um, .s _, .s _, trivial⟩ trivial
              ⟨⟨by decide, .cells _ (all1 (.gs _ _ _ (by decide)))⟩, ⟨by decide, rows_under hun⟩, ⟨by decide, hulp.mono (by decide)⟩, trivial⟩ ⟨⟨.refl _, .refl _, .refl _, .refl _, .refl _, trivial⟩, trivial, ⟨rfl, rfl, rfl, trivial⟩, Nat.le_of_ble_eq_true rfl⟩ ?_
            refine rename_rows hulp E1000 (fun x hx => by
              simp only [List.mem_cons, List.not_mem_nil, or_false] at hx
              rcases hx with rfl | rfl | rfl | rfl | rfl <;> first | exact .ref _ _ (by decide) | exact .s _ | exact (free_ints _ _ _).nms) hun ?_
            refine Aw.em tab_ok mb0 [] rfl rfl ?zo ?zk
            case zo =>
              repeat' apply AllP.cons
              all_goals first | exact trivial | exact id | exact rfl | exact fun _ => rfl | exact Nat.le_of_ble_eq_true rfl | exact fun _ => Nat.le_of_ble_eq_true rfl | exact Int.natCast_nonneg _ | exact fun _ => Int.natCast_nonneg _ | exact within_t _ _ _ | exact (within_t _ _ _).un | exact (show inR (0 + 1) by simp only [inR]; omega)
            case zk =>
            have hp1 : points (mix.take (0 + 1)) = [⟨m, m⟩] := hpt
            refine ⟨(1, cap', List.replicate ((cap' - 1) * 2) .un), ⟨hlt, hun, fun _ => by show 1 * 2 + (List.replicate ((cap' - 1) * 2) A.un).length = cap' * 2; rw [List.length_replicate]; omega⟩, by show mix.length - 1 < mix.length - 0; omega, ⟨.refl _, .refl _, .refl _, .refl _, trivial⟩, ⟨.refl _, trivial⟩, ⟨rfl, congrArg (fun x : List Sp => some (B.cells ((x.map Sp.c).flatten ++ List.replicate ((cap' - 1) * 2) A.un))) hp1.symm, rfl, trivial⟩, Nat.le_of_ble_eq_true rfl⟩
          | succ j =>
            have hpl : (points (mix.take (j + 1))).length = j + 1 := by simp [points]; omega
            have hrl := rows_len (points (mix.take (j + 1)))
            have hj4 := hj3 (Nat.succ_pos j)
            refine Aw.es rfl ?_
            refine RegL.partE tab_ok mb0 false 5 0 [] ?_
            conv => arg 5; whnf
            refine PartK.mk ?zo ?zk
            case zo =>
              repeat' apply AllP.cons
              all_goals first | exact trivial | exact id | exact rfl | exact fun _ => rfl | exact Nat.le_of_ble_eq_true rfl | exact fun _ => Nat.le_of_ble_eq_true rfl | exact Int.natCast_nonneg _ | exact fun _ => Int.natCast_nonneg _ | exact within_t _ _ _ | exact (within_t _ _ _).un
            case zk =>
            refine Does.raw rfl (DoesR.appGs tab_ok rfl rfl rfl (by decide) (by decide) rfl rfl (by
              show (((points (mix.take (j + 1))).map Sp.c).flatten ++ jk).length = cap * 2
              rw [List.length_append, hrl, hpl]; exact hj4) rfl (by simp) (fun z hz => by simp at hz; subst hz; rfl) (by show (j + 1 + 1) * 16 ≤ 140737488355328; omega) (by show j + 1 + 1 ≤ maxLen; unfold maxLen; omega) (fun hcap => ?_) (fun cap' hcap => ?_))
            · refine RegL.partE tab_ok mb0 false 6 9 [] ?_
              conv => arg 5; whnf
              refine PartK.mk ?zo ?zk
              case zo =>
                repeat' apply AllP.cons
                all_goals first | exact trivial | exact id | exact rfl | exact fun _ => rfl | exact Nat.le_of_ble_eq_true rfl | exact fun _ => Nat.le_of_ble_eq_true rfl | exact Int.natCast_nonneg _ | exact fun _ => Int.natCast_nonneg _ | exact within_t _ _ _ | exact (within_t _ _ _).un
              case zk =>
              have hcap : j + 1 + 1 ≤ cap := hcap
              have hset : setSeg (((points (mix.take (j + 1))).map Sp.c).flatten ++ jk) ((j + 1) * 2) [A.int m, A.int m] = (((points (mix.take (j + 1 + 1))).map Sp.c).flatten) ++ jk.drop 2 := by
                have := rows_more (points (mix.take (j + 1))) ⟨m, m⟩ jk (by omega)
                rw [hpl, ← hpt] at this; exact this
              refine Aw.em tab_ok mb0 [] rfl rfl ?zo ?zk
              case zo =>
                repeat' apply AllP.cons
                all_goals first | exact trivial | exact id | exact rfl | exact fun _ => rfl | exact Nat.le_of_ble_eq_true rfl | exact fun _ => Nat.le_of_ble_eq_true rfl | exact Int.natCast_nonneg _ | exact fun _ => Int.natCast_nonneg _ | exact within_t _ _ _ | exact (within_t _ _ _).un | exact inrk (j + 1) (by omega)
              case zk =>
              exact ⟨(j + 1 + 1, cap, jk.drop 2), ⟨hlt, fun v hv => hj2 v (List.mem_of_mem_drop hv), fun _ => by show (j + 1 + 1) * 2 + (jk.drop 2).length = cap * 2; rw [List.length_drop]; omega⟩, by show mix.length - (j + 1 + 1) < mix.length - (j + 1); omega, ⟨.refl _, .refl _, .refl _, .refl _, trivial⟩, ⟨.refl _, trivial⟩, ⟨rfl, congrArg (fun x => some (B.cells x)) hset, rfl, trivial⟩, Nat.le_of_ble_eq_true rfl⟩
            · refine RegL.partE tab_ok mb0 false 6 9 [] ?_
              conv => arg 5; whnf
              refine PartK.mk ?zo ?zk
              case zo =>
                repeat' apply AllP.cons
                all_goals first | exact trivial | exact id | exact rfl | exact fun _ => rfl | exact Nat.le_of_ble_eq_true rfl | exact fun _ => Nat.le_of_ble_eq_true rfl | exact Int.natCast_nonneg _ | exact fun _ => Int.natCast_nonneg _ | exact within_t _ _ _ | exact (within_t _ _ _).un
              case zk =>
              have hcap : j + 1 + 1 ≤ cap' := hcap
              have hun : ∀ v ∈ List.replicate ((cap' - (j + 1 + 1)) * 2) A.un, v = .un := fun v hv => List.eq_of_mem_replicate hv
              have hnew : ((((points (mix.take (j + 1))).map Sp.c).flatten ++ jk).take ((j + 1) * 2)).map A.down ++ [A.int m, A.int m] ++ List.replicate ((cap' - (j + 1 + 1)) * 2) A.un = (((points (mix.take (j + 1 + 1))).map Sp.c).flatten) ++ List.replicate ((cap' - (j + 1 + 1)) * 2) A.un := by
                have h1 : (j + 1) * 2 = (((points (mix.take (j + 1))).map Sp.c).flatten).length := by rw [hrl, hpl]
                rw [h1, List.take_left, flat_down (c := Sp.c) (fun _ => rfl), hpt]
                simp [Sp.c]
              refine Aw.keep (n := 1002) (cst := [(11, .ref 2 0), (12, .sl false .any (ints mix)), (80, .sl false .any (ints mix)), (81, .int (ints mix).length), (82, .int ((j + 1 : Nat) : Int))]) (v := []) (Hl := [(2, .cells [.gs 1001 (j + 1 + 1) cap']), (1001, .cells (((points (mix.take (j + 1 + 1))).map Sp.c).flatten ++ List.replicate ((cap' - (j + 1 + 1)) * 2) .un)), (3, LB)]) (fun i h => hE1 i (by omega)) ⟨.ref _ _ (by decide), um, um, .s _, .s _, trivial⟩ trivial
                ⟨⟨by decide, .cells _ (all1 (.gs _ _ _ (by decide)))⟩, ⟨by decide, rows_under hun⟩, ⟨by decide, hulp.mono (by decide)⟩, trivial⟩ ⟨⟨.refl _, .refl _, .refl _, .refl _, .refl _, trivial⟩, trivial, ⟨rfl, (by show some (B.cells (((((points (mix.take (j + 1))).map Sp.c).flatten ++ jk).take ((j + 1) * 2)).map A.down ++ [A.int m, A.int m] ++ List.replicate ((cap' - (j + 1 + 1)) * 2) A.un)) = _; rw [hnew]), rfl, trivial⟩, Nat.le_of_ble_eq_true rfl⟩ ?_
              refine rename_rows hulp E1000 (fun x hx => by
                simp only [List.mem_cons, List.not_mem_nil, or_false] at hx
                rcases hx with rfl | rfl | rfl | rfl | rfl <;> first | exact .ref _ _ (by decide) | exact .s _ | exact (free_ints _ _ _).nms) hun ?_
              refine Aw.em tab_ok mb0 [] rfl rfl ?zo ?zk
              case zo =>
                repeat' apply AllP.cons
                all_goals first | exact trivial | exact id | exact rfl | exact fun _ => rfl | exact Nat.le_of_ble_eq_true rfl | exact fun _ => Nat.le_of_ble_eq_true rfl | exact Int.natCast_nonneg _ | exact fun _ => Int.natCast_nonneg _ | exact within_t _ _ _ | exact (within_t _ _ _).un | exact inrk (j + 1) (by omega)
              case zk =>
              exact ⟨(j + 1 + 1, cap', List.replicate ((cap' - (j + 1 + 1)) * 2) .un), ⟨hlt, hun, fun _ => by show (j + 1 + 1) * 2 + (List.replicate ((cap' - (j + 1 + 1)) * 2) A.un).length = cap' * 2; rw [List.length_replicate]; omega⟩, by show mix.length - (j + 1 + 1) < mix.length - (j + 1); omega, ⟨.refl _, .refl _, .refl _, .refl _, trivial⟩, ⟨.refl _, trivial⟩, ⟨rfl, rfl, rfl, trivial⟩, Nat.le_of_ble_eq_true rfl⟩
        · have hle : j = mix.length := by have := of_decide_eq_false h1; omega
          obtain ⟨j', rfl⟩ : ∃ j', j = j' + 1 := ⟨j - 1, by omega⟩
          have hfull : mix.take (j' + 1) = mix := by rw [hle, List.take_length]
          have hpl : (points mix).length = j' + 1 := by simp [points]; omega
          refine Aw.weaken (S' := ofL2 [(11, .ref 2 0), (12, .sl false .any (ints mix))] []) (H' := ofH [(2, .cells [.ms 1000 0 (points mix).length]), (1000, .cells (((points mix).map Sp.c).flatten ++ jk)), (3, LB)]) (c' := 1001) (AllLe.le (l := [(11, .ref 2 0), (12, .sl false .any (ints mix))]) ⟨.refl _, .refl _, trivial⟩) (fun id bx hb => ?_) (Nat.le_refl _) (Aw.exit2 ⟨(points mix, jk), ⟨by simp [points], hj2, hnext⟩, ⟨⟨.refl _, .refl _, trivial⟩, trivial, ⟨rfl, rfl, rfl, trivial⟩, Nat.le_refl _⟩⟩)
          simp only [ofH, updH_apply] at hb
          split at hb
          · rename_i e
            cases hb; subst e
            exact ⟨.cells [.gs 1000 (j' + 1) cap], rfl, by rw [hpl]; exact B.Le.cell1 (.ms _ _ _)⟩
          · split at hb
            · rename_i e
              cases hb; subst e
              exact ⟨.cells (((points (mix.take (j' + 1))).map Sp.c).flatten ++ jk), rfl, by rw [hfull]; exact .refl _⟩
            · split at hb
              · rename_i e
                cases hb; subst e
                exact ⟨_, rfl, .refl _⟩
              · cases hb
      | cons x l =>
        subst hHk
        have hnext : outK races seen (k + 1) = wideL (x :: l) mix := hnext
        refine Aw.keep (n := 1001) (cst := [(11, .ref 2 0), (12, .sl false .any (ints mix))]) (v := []) (Hl := [(2, .cells [.ms 1000 0 (x :: l).length]), (1000, .cells (((x :: l).map Sp.c).flatten ++ junk)), (3, LB)]) hE1 ⟨.ref _ _ (by decide), um, trivial⟩ trivial ⟨⟨by decide, .cells _ (all1 (.ms _ _ _ (by decide)))⟩, ⟨by decide, rows_under hj⟩, ⟨by decide, hulp.mono (by decide)⟩, trivial⟩
          ⟨⟨.refl _, .refl _, trivial⟩, trivial, ⟨rfl, rfl, rfl, trivial⟩, Nat.le_of_ble_eq_true rfl⟩ ?_
        refine Aw.seq (Aw.region rfl ?_)
        refine RegL.partE tab_ok mb0 false 1 0 [] ?_
        conv => arg 5; whnf
        refine PartK.mk ?zo ?zk
        case zo =>
          repeat' apply AllP.cons
          all_goals first | exact trivial | exact id | exact rfl | exact fun _ => rfl | exact Nat.le_of_ble_eq_true rfl | exact fun _ => Nat.le_of_ble_eq_true rfl | exact Int.natCast_nonneg _ | exact fun _ => Int.natCast_nonneg _ | exact within_t _ _ _ | exact (within_t _ _ _).un
        case zk =>
        refine Does.raw rfl (DoesP.toR (DoesP.eqNilMs tab_ok rfl rfl rfl rfl ?_))
        refine RegL.partE tab_ok mb0 false 9 9 [] ?_
        conv => arg 5; whnf
        refine PartK.mk ?zo ?zk
        case zo =>
          repeat' apply AllP.cons
          all_goals first | exact trivial | exact id | exact rfl | exact fun _ => rfl | exact Nat.le_of_ble_eq_true rfl | exact fun _ => Nat.le_of_ble_eq_true rfl | exact Int.natCast_nonneg _ | exact fun _ => Int.natCast_nonneg _ | exact within_t _ _ _ | exact (within_t _ _ _).un
        case zk =>
        refine Aw.cond rfl (fun h => by cases h) (fun _ => Aw.skip ?_)
        exact ⟨(x :: l, junk), ⟨by rw [hmlen]; exact holen (by simp), hj, hnext⟩, ⟨⟨.refl _, .refl _, trivial⟩, trivial, ⟨rfl, rfl, rfl, trivial⟩, Nat.le_of_ble_eq_true rfl⟩⟩
    · rintro ⟨O, jk⟩ ⟨hO1, hO2, hO3⟩
      simp only at hO1 hO2 hO3
      refine Aw.sm tab_ok mb0 [] rfl rfl ?zo ?zk
      case zo =>
        repeat' apply AllP.cons
        all_goals first | exact trivial | exact id | exact rfl | exact fun _ => rfl | exact Nat.le_of_ble_eq_true rfl | exact fun _ => Nat.le_of_ble_eq_true rfl | exact Int.natCast_nonneg _ | exact fun _ => Int.natCast_nonneg _ | exact within_t _ _ _ | exact (within_t _ _ _).un
      case zk =>
      refine Aw.block (Aw.rounds (ι := Nat) 1001 hE1 [(11, .ref 2 0), (93, .sl false .any (ints mix)), (94, .int (ints mix).length)] (fun i => [(95, .int i)]) (fun i => [(2, .cells [.ms 1000 0 O.length]), (1000, .cells (((wideN O mix i).map Sp.c).flatten ++ jk)), (3, LB)])
        (fun i => i ≤ mix.length) (fun i => mix.length - i) 0
        (Nat.zero_le _) ⟨⟨.refl _, .refl _, .refl _, trivial⟩, ⟨.refl _, trivial⟩, ⟨rfl, congrArg (fun x : List Sp => some (B.cells ((x.map Sp.c).flatten ++ jk))) (wideN_zero O mix).symm, rfl, trivial⟩, Nat.le_of_ble_eq_true rfl⟩ ⟨.ref _ _ (by decide), um, .s _, trivial⟩ (fun _ _ => ⟨.s _, trivial⟩)
        (fun i _ => ⟨⟨by decide, .cells _ (all1 (.ms _ _ _ (by decide)))⟩, ⟨by decide, rows_under hO2⟩, ⟨by decide, hulp.mono (by decide)⟩, trivial⟩) fun i hi => ?_)
      refine Aw.sm tab_ok mb0 [] rfl rfl ?zo ?zk
      case zo =>
        repeat' apply AllP.cons
        all_goals first | exact trivial | exact id | exact rfl | exact fun _ => rfl | exact Nat.le_of_ble_eq_true rfl | exact fun _ => Nat.le_of_ble_eq_true rfl | exact Int.natCast_nonneg _ | exact fun _ => Int.natCast_nonneg _ | exact within_t _ _ _ | exact (within_t _ _ _).un
      case zk =>
      refine Aw.seq (Aw.cond rfl (fun h1 => Aw.skip1 ?_) (fun h1 => Aw.exit2 ?_))
      · have hlt : i < mix.length := by have := of_decide_eq_true h1; omega
        have hwl := wideN_len O mix i
        have hws := wideN_succ (out := O) (mix := mix) (i := i) (by omega) hlt
        have hgi : (wideN O mix i).getD i ⟨0, 0⟩ = O[i] := by
          rw [← wideN_get (mix := mix) (show i < O.length by omega), List.getD_eq_getElem?_getD, List.getElem?_eq_getElem (by omega)]; rfl
        have hmi : (ints mix)[i]? = some [.int mix[i]] := ints_get hlt
        have hmbi := hmb mix[i] (List.getElem_mem hlt)
        generalize mix[i] = m at *
        generalize O[i] = sp at *
        have hcell : ∀ f, f < 2 → ((((wideN O mix i).map Sp.c).flatten ++ jk).getD (0 + i * 2 + f) .un) = sp.c.getD f .un := fun f hf => by
          have hlt2 : i * 2 + f < (((wideN O mix i).map Sp.c).flatten).length := by rw [rows_len]; omega
          rw [Nat.zero_add, List.getD_eq_getElem?_getD, List.getElem?_append_left hlt2, ← List.getD_eq_getElem?_getD, flat_get (sz := 2) (fun y hy => by obtain ⟨b, _, rfl⟩ := List.mem_map.1 hy; rfl) _ (by rw [List.length_map]; omega)]
          have e1 : (i * 2 + f) / 2 = i := by omega
          have e2 : (i * 2 + f) % 2 = f := by omega
          rw [e1, e2, ← hgi]
          congr 1
          rw [List.getD_eq_getElem?_getD, List.getElem?_map, List.getD_eq_getElem?_getD, List.getElem?_eq_getElem (by omega)]; rfl
        have hlen : (((wideN O mix i).map Sp.c).flatten ++ jk).length = O.length * 2 + jk.length := by rw [List.length_append, rows_len, hwl]
        have c0 : ((((wideN O mix i).map Sp.c).flatten ++ jk).getD (0 + i * 2 + 0) .un).down = .int sp.lo := by rw [hcell 0 (by decide)]; rfl
        have c1 : ((((wideN O mix i).map Sp.c).flatten ++ jk).getD (0 + i * 2 + 1) .un).down = .int sp.hi := by rw [hcell 1 (by decide)]; rfl
        have l0 : 0 + i * 2 + 0 < (((wideN O mix i).map Sp.c).flatten ++ jk).length := by omega
        have l1 : 0 + i * 2 + 1 < (((wideN O mix i).map Sp.c).flatten ++ jk).length := by omega
        have l2 : 0 + i * 2 + 2 ≤ (((wideN O mix i).map Sp.c).flatten ++ jk).length := by omega
        have hiO : (i : Int) < (O.length : Nat) := by omega
        refine Aw.seq (Aw.block ?_)
        refine Aw.sm tab_ok mb0 [(1, [.int m])] rfl rfl ?zo ?zk
        case zo =>
          repeat' apply AllP.cons
          all_goals first | exact trivial | exact id | exact rfl | exact fun _ => rfl | exact Nat.le_of_ble_eq_true rfl | exact fun _ => Nat.le_of_ble_eq_true rfl | exact Int.natCast_nonneg _ | exact fun _ => Int.natCast_nonneg _ | exact within_t _ _ _ | exact (within_t _ _ _).un | exact hmi
        case zk =>
        refine Aw.ed tab_ok mixed mb0 [(6, [.int sp.lo]), (13, [.int sp.hi])] rfl (by kernel_rfl) rfl rfl ?zo ?zk
        case zo =>
          repeat' apply AllP.cons
          all_goals first | exact trivial | exact id | exact rfl | exact fun _ => rfl | exact Nat.le_of_ble_eq_true rfl | exact fun _ => Nat.le_of_ble_eq_true rfl | exact Int.natCast_nonneg _ | exact fun _ => Int.natCast_nonneg _ | exact within_t _ _ _ | exact (within_t _ _ _).un | exact c0 | exact c1 | exact l0 | exact l1 | exact l2 | exact hiO
        case zk =>
        have hmx : (if m > sp.hi then m else sp.hi) = max sp.hi m := by rw [Int.max_def]; split <;> split <;> omega
        have hset : setSeg (((wideN O mix i).map Sp.c).flatten ++ jk) (0 + i * 2) [A.int (if m < sp.lo then m else sp.lo), A.int (if m > sp.hi then m else sp.hi)] = ((wideN O mix (i + 1)).map Sp.c).flatten ++ jk := by
          rw [minI, hmx, hws]
          exact rows_put (l := wideN O mix i) (by omega) ⟨min sp.lo m, max sp.hi m⟩ jk
        refine Aw.em tab_ok mb0 [] rfl rfl ?zo ?zk
        case zo =>
          repeat' apply AllP.cons
          all_goals first | exact trivial | exact id | exact rfl | exact fun _ => rfl | exact Nat.le_of_ble_eq_true rfl | exact fun _ => Nat.le_of_ble_eq_true rfl | exact Int.natCast_nonneg _ | exact fun _ => Int.natCast_nonneg _ | exact within_t _ _ _ | exact (within_t _ _ _).un | exact inrk i (by omega)
        case zk =>
        exact ⟨i + 1, hlt, by omega, ⟨.refl _, .refl _, .refl _, trivial⟩, ⟨.refl _, trivial⟩, ⟨rfl, congrArg (fun x => some (B.cells x)) hset, rfl, trivial⟩, Nat.le_of_ble_eq_true rfl⟩
      · have hle : i = mix.length := by have := of_decide_eq_false h1; omega
        subst hle
        have hfull := wideN_full O mix hO1
        rw [hO1] at hfull
        have hwl := wideL_len O mix
        obtain ⟨x, l, hxl⟩ : ∃ x l, wideL O mix = x :: l := by
          cases hw : wideL O mix with
          | nil => rw [hw] at hwl; simp at hwl; omega
          | cons x l => exact ⟨x, l, rfl⟩
        refine ⟨⟨.busy, none, by rw [← hLB]; rfl⟩, ?_, ofH (shB (outK races seen (k + 1)) jk), ⟨jk, hO2, rfl⟩, fun id bx hb => ?_⟩
        · show 1001 = shCn races seen (k + 1)
          unfold shCn
          rw [hO3, hxl, if_neg (by simp)]
        · rw [hO3, hxl] at hb
          simp only [shB, ofH, updH_apply] at hb
          split at hb
          · rename_i e
            cases hb; subst e
            show some (B.cells [A.ms 1000 0 O.length]) = _
            rw [← hwl, hxl]
          · split at hb
            · rename_i e
              cases hb; subst e
              show some (B.cells (((wideN O mix mix.length).map Sp.c).flatten ++ jk)) = _
              rw [hfull, hxl]
            · cases hb
  · intro H c' hc hsub
    obtain ⟨H0, ⟨junk, hj, rfl⟩, hsub⟩ := hsub
    have hfin : outK races seen ((mixL (races.length - 1) [] 100).map yMix).length = shareF races seen := by
      unfold outK shareF; rw [List.length_map, List.take_length]
    unfold shCn at hc
    rw [hfin] at hc hsub
    cases hF : shareF races seen with
    | nil =>
      rw [hF] at hc hsub
      refine Aw.keep (n := 3) (cst := [(11, .ref 2 0)]) (v := []) (Hl := [(2, .cells [.sl true .exact []])]) (fun id h => hE id (by omega)) ⟨.ref _ _ (by decide), trivial⟩ trivial ⟨⟨by decide, .cells _ (all1 (nil_under _ _))⟩, trivial⟩
        ⟨⟨.refl _, trivial⟩, trivial, ⟨hsub 2 _ rfl, trivial⟩, by have hc : 4 ≤ c' := hc; show 3 ≤ c'; omega⟩ ?_
      refine Aw.seq ?_
      refine Aw.sm tab_ok mb0 [] rfl rfl ?zo ?zk
      case zo =>
        repeat' apply AllP.cons
        all_goals first | exact trivial | exact id | exact rfl | exact fun _ => rfl | exact Nat.le_of_ble_eq_true rfl | exact fun _ => Nat.le_of_ble_eq_true rfl | exact Int.natCast_nonneg _ | exact fun _ => Int.natCast_nonneg _ | exact within_t _ _ _ | exact (within_t _ _ _).un
      case zk =>
      refine Aw.cond rfl (fun _ => ?_) (fun h => by cases h)
      refine Aw.sm tab_ok mb0 [] rfl rfl ?zo ?zk
      case zo =>
        repeat' apply AllP.cons
        all_goals first | exact trivial | exact id | exact rfl | exact fun _ => rfl | exact Nat.le_of_ble_eq_true rfl | exact fun _ => Nat.le_of_ble_eq_true rfl | exact Int.natCast_nonneg _ | exact fun _ => Int.natCast_nonneg _ | exact within_t _ _ _ | exact (within_t _ _ _).un
      case zk =>
      exact Aw.ret ⟨_, .cons (.tmp _) (.cons (.tmp _) .nil), rfl⟩
    | cons x l =>
      rw [hF] at hc hsub
      have hu : UnderB 1001 (.cells (((x :: l).map Sp.c).flatten ++ junk)) := .cells _ fun v hv => by
        rcases List.mem_append.1 hv with h | h
        · exact (spans_free _ v h).under
        · rw [hj v h]; exact .un
      refine Aw.keep (n := 1001) (cst := [(11, .ref 2 0)]) (v := []) (Hl := [(2, .cells [.ms 1000 0 (x :: l).length]), (1000, .cells (((x :: l).map Sp.c).flatten ++ junk))]) (fun id h => hE id (by omega)) ⟨.ref _ _ (by decide), trivial⟩ trivial ⟨⟨by decide, .cells _ (all1 (.ms _ _ _ (by decide)))⟩, ⟨by decide, hu⟩, trivial⟩
        ⟨⟨.refl _, trivial⟩, trivial, ⟨hsub 2 _ rfl, hsub 1000 _ rfl, trivial⟩, hc⟩ ?_
      refine Aw.freezeC (id := 1000) (id2 := 2) (j := 0) ((x :: l).map Sp.c) rfl rfl (by decide) (Nat.le_of_ble_eq_true rfl) rfl (spans_rows (x :: l) junk) (by rw [List.length_map]) ?_
      generalize hX : x :: l = X
      refine Aw.seq ?_
      refine Aw.sm tab_ok mb0 [] rfl rfl ?zo ?zk
      case zo =>
        repeat' apply AllP.cons
        all_goals first | exact trivial | exact id | exact rfl | exact fun _ => rfl | exact Nat.le_of_ble_eq_true rfl | exact fun _ => Nat.le_of_ble_eq_true rfl | exact Int.natCast_nonneg _ | exact fun _ => Int.natCast_nonneg _ | exact within_t _ _ _ | exact (within_t _ _ _).un
      case zk =>
      refine Aw.cond rfl (fun h => by cases h) (fun _ => Aw.skip ?_)
      have hz : ((X.map Sp.c).length : Int).toNat = (X.map Sp.c).length := Int.toNat_natCast _
      refine Aw.sm tab_ok mb0 [] rfl rfl ?zo ?zk
      case zo =>
        repeat' apply AllP.cons
        all_goals first | exact trivial | exact id | exact rfl | exact fun _ => rfl | exact Nat.le_of_ble_eq_true rfl | exact fun _ => Nat.le_of_ble_eq_true rfl | exact Int.natCast_nonneg _ | exact fun _ => Int.natCast_nonneg _ | exact within_t _ _ _ | exact (within_t _ _ _).un | exact Int.le_refl _
      case zk =>
      refine Aw.ret ⟨_, .cons (.tmp _) (.cons (.tmp _) .nil), ?_⟩
      show A.tup [A.sl false .exact ((X.map Sp.c).take ((X.map Sp.c).length : Int).toNat), A.int 0] = _
      rw [hz, List.take_length, ← hX]; rfl
end Go.Proofs.Ytdiclbgklegelaa

namespace Go.Proofs.Ytdiclbgklegelaa
open Go Go.AL Go.AL.Q
theorem ints_rows (l : List Int) : RowsAre (l.map A.int) (ints l) 1 := ⟨ints_one l, by rw [ints_len, List.length_map]; omega, fun i j hi hj => by
  obtain rfl : j = 0 := by omega
  rw [ints_len] at hi
  simp [ints, List.getD_eq_getElem?_getD, hi, A.down]⟩
theorem zeros_is (n : Nat) : ((List.range (n * 1)).map fun j => ([A.s (.int .i64 0)] : List A).getD (j % 1) .un).map A.down = (List.replicate n (0 : Int)).map A.int := by
  rw [Nat.mul_one]
  have h : ∀ j : Nat, ([A.s (.int .i64 0)] : List A).getD (j % 1) .un = A.int 0 := fun j => by
    have : j % 1 = 0 := by omega
    rw [this]; rfl
  simp only [h]
  rw [List.map_const', List.length_range, List.map_replicate, List.map_replicate]; rfl
def setsN (boxes : List NL) (k : Nat) : List Int := (boxes.take k).map (fun b => setOf b.l) ++ List.replicate (boxes.length - k) 0
theorem setsN_len (boxes : List NL) (k : Nat) (h : k ≤ boxes.length) : (setsN boxes k).length = boxes.length := by simp [setsN]; omega
theorem setsN_get (boxes : List NL) (k : Nat) (h : k < boxes.length) : (setsN boxes k).getD k 0 = 0 := by
  unfold setsN
  have hl : ((boxes.take k).map (fun b => setOf b.l)).length = k := by simp; omega
  rw [List.getD_eq_getElem?_getD, List.getElem?_append_right (by omega), hl, Nat.sub_self]
  rw [List.getElem?_replicate]; split <;> rfl
theorem setsN_succ (boxes : List NL) (k : Nat) (h : k < boxes.length) : (setsN boxes k).set k (setOf boxes[k].l) = setsN boxes (k + 1) := by
  unfold setsN
  have hl : ((boxes.take k).map (fun b => setOf b.l)).length = k := by simp; omega
  rw [List.set_append_right _ _ (by omega), hl, Nat.sub_self, List.take_succ_eq_append_getElem h, List.map_append]
  have e : boxes.length - k = (boxes.length - (k + 1)) + 1 := by omega
  rw [e, List.replicate_succ, List.set_cons_zero, List.append_assoc]; rfl
theorem setsN_full (boxes : List NL) : setsN boxes boxes.length = setsOf boxes := by
  unfold setsN setsOf; rw [List.take_length, Nat.sub_self, List.replicate_zero, List.append_nil]
theorem foldl_take_succ {α : Type} (f : Int → α → Int) (l : List α) (k : Nat) (h : k < l.length) (a : Int) : (l.take (k + 1)).foldl f a = f ((l.take k).foldl f a) l[k] := by
  rw [List.take_succ_eq_append_getElem h, List.foldl_append]; rfl
theorem Boxes_t (p q : Bool) (cells : List Cel) (boxes : List NL) (most : Int) (hcl : (cells.length : Int) ≤ 9223372036854775806) (hbl : (boxes.length : Int) ≤ 5900000000000) (hbf : ∀ b ∈ boxes, nlFit b) :
    Ans Try.prog 33 [.sl p .any (cells.map Cel.c), .sl q .any (boxes.map NL.c), .int most] (.tup (boxR cells boxes most)) := by
  have hfr : Free (.tup (boxR cells boxes most)) := .tup _ (by
    have h4 : ∀ (l : List Int) (a b c : Int), ∀ x ∈ [outA l, .int a, .int b, .int c], Free x := fun _ _ _ _ => allC (outA_free _) (allC (.s _) (allC (.s _) (all1 (.s _))))
    unfold boxR
    split
    · split <;> exact h4 _ _ _ _
    · exact h4 _ _ _ _)
  have zc : ((cells.map Cel.c).length : Int) = cells.length := by simp
  have zb : ((boxes.map NL.c).length : Int) = boxes.length := by simp
  have fc : Free (.sl p .any (cells.map Cel.c)) := free_map Cel.free _ _ _
  have fb : Free (.sl q .any (boxes.map NL.c)) := free_map NL.free _ _ _
  refine told Try.func33 rfl rfl (Pure.of tab_ok Try.func33 rfl Try.ntmps33 rfl (allC (fc) (allC (fb) (all1 (.s _)))) (allC (fun _ => rfl) (allC (fun _ => rfl) (all1 (fun _ => rfl)))) (by first | exact .s _ | assumption | exact .tup _ (by intro x hx; simp only [List.mem_cons, List.not_mem_nil, or_false] at hx; rcases hx with rfl | rfl | rfl | rfl <;> first | exact .s _ | (simp_all; done))) fun E hE => ?_)
  have hE3 : ∀ id, 3 ≤ id → E.φ0 id = none := fun id h => hE id (by omega)
  have hE5 : ∀ id, 5 ≤ id → E.φ0 id = none := fun id h => hE id (by omega)
  have hE8 : ∀ id, 8 ≤ id → E.φ0 id = none := fun id h => hE id (by omega)
  have un0 : ∀ {n}, UnderB n (.cells [A.sl true .exact []]) := .cells _ (all1 (nil_under _ _))
  have ui0 : ∀ {n} {x : Int}, UnderB n (.cells [A.int x]) := .cells _ (all1 (.s _))
  refine Aw.sm tab_ok mb0 [] rfl rfl ?zo ?zk
  case zo =>
    repeat' apply AllP.cons
    all_goals first | exact trivial | exact id | exact rfl | exact fun _ => rfl | exact Nat.le_of_ble_eq_true rfl | exact fun _ => Nat.le_of_ble_eq_true rfl | exact Int.natCast_nonneg _ | exact fun _ => Int.natCast_nonneg _ | exact within_t _ _ _ | exact (within_t _ _ _).un
  case zk =>
  refine Aw.sm tab_ok mb0 [] rfl rfl ?zo ?zk
  case zo =>
    repeat' apply AllP.cons
    all_goals first | exact trivial | exact id | exact rfl | exact fun _ => rfl | exact Nat.le_of_ble_eq_true rfl | exact fun _ => Nat.le_of_ble_eq_true rfl | exact Int.natCast_nonneg _ | exact fun _ => Int.natCast_nonneg _ | exact within_t _ _ _ | exact (within_t _ _ _).un
  case zk =>
  generalize hb0 : cond (decide (((cells.map Cel.c).length : Int) ≤ 12)) (decide (((boxes.map NL.c).length : Int) ≤ 8)) false = b0
  have hb0' : b0 = cond (decide ((cells.length : Int) ≤ 12)) (decide ((boxes.length : Int) ≤ 8)) false := by rw [← hb0, zc, zb]
  refine Aw.seq ?_
  refine Aw.sm tab_ok mb0 [] rfl rfl ?zo ?zk
  case zo =>
    repeat' apply AllP.cons
    all_goals first | exact trivial | exact id | exact rfl | exact fun _ => rfl | exact Nat.le_of_ble_eq_true rfl | exact fun _ => Nat.le_of_ble_eq_true rfl | exact Int.natCast_nonneg _ | exact fun _ => Int.natCast_nonneg _ | exact within_t _ _ _ | exact (within_t _ _ _).un
  case zk =>
  refine Aw.block (Aw.rounds (ι := Nat) 3 hE3 [(0, .sl p .any (cells.map Cel.c)), (1, .sl q .any (boxes.map NL.c)), (2, .int most), (6, .ref 0 0), (7, .ref 1 0), (8, .ref 2 0), (30, .sl p .any (cells.map Cel.c)), (31, .int (cells.map Cel.c).length)] (fun k => [(10, .bool (andAll b0 celOk cells k)), (32, .int k)]) (fun _ => [(0, .cells [.sl true .exact []]), (1, .cells [.int 0]), (2, .cells [.int 0])]) (fun k => k ≤ cells.length) (fun k => cells.length - k) 0
    (Nat.zero_le _) ⟨⟨.refl _, .refl _, .refl _, .refl _, .refl _, .refl _, .refl _, .refl _, trivial⟩, ⟨.of_eq (by rw [andAll_zero]; rfl), .refl _, trivial⟩, ⟨rfl, rfl, rfl, trivial⟩, Nat.le_refl _⟩ ⟨fc.under, fb.under, .s _, .ref _ _ (by decide), .ref _ _ (by decide), .ref _ _ (by decide), fc.under, .s _, trivial⟩ (fun _ _ => ⟨.s _, .s _, trivial⟩) (fun _ _ => ⟨⟨by decide, un0⟩, ⟨by decide, ui0⟩, ⟨by decide, ui0⟩, trivial⟩) fun k hk => ?_)
  refine Aw.sm tab_ok mb0 [] rfl rfl ?zo ?zk
  case zo =>
    repeat' apply AllP.cons
    all_goals first | exact trivial | exact id | exact rfl | exact fun _ => rfl | exact Nat.le_of_ble_eq_true rfl | exact fun _ => Nat.le_of_ble_eq_true rfl | exact Int.natCast_nonneg _ | exact fun _ => Int.natCast_nonneg _ | exact within_t _ _ _ | exact (within_t _ _ _).un
  case zk =>
  refine Aw.seq (Aw.cond rfl (fun h1 => Aw.skip1 ?_) (fun h1 => Aw.exit2 ?_))
  · have hlt : k < cells.length := by have := of_decide_eq_true h1; omega
    have hstep := andAll_step (b := b0) (p := celOk) hlt
    have hg : (cells.map Cel.c)[k]? = some cells[k].c := get_map hlt
    generalize cells[k] = c at *
    refine Aw.seq (Aw.block ?_)
    refine Aw.sm tab_ok mb0 [(0, c.c)] rfl rfl ?zo ?zk
    case zo =>
      repeat' apply AllP.cons
      all_goals first | exact trivial | exact id | exact rfl | exact fun _ => rfl | exact Nat.le_of_ble_eq_true rfl | exact fun _ => Nat.le_of_ble_eq_true rfl | exact Int.natCast_nonneg _ | exact fun _ => Int.natCast_nonneg _ | exact within_t _ _ _ | exact (within_t _ _ _).un | exact hg
    case zk =>
    refine Aw.em tab_ok mb0 [(4, [.bool (wi c.sp 0 10000)]), (9, [.bool (wi c.la 0 10000)])] rfl rfl ?zo ?zk
    case zo =>
      repeat' apply AllP.cons
      all_goals first | exact trivial | exact id | exact rfl | exact fun _ => rfl | exact Nat.le_of_ble_eq_true rfl | exact fun _ => Nat.le_of_ble_eq_true rfl | exact Int.natCast_nonneg _ | exact fun _ => Int.natCast_nonneg _ | exact within_t _ _ _ | exact (within_t _ _ _).un
    case zk =>
    refine Aw.em tab_ok mb0 [] rfl rfl ?zo ?zk
    case zo =>
      repeat' apply AllP.cons
      all_goals first | exact trivial | exact id | exact rfl | exact fun _ => rfl | exact Nat.le_of_ble_eq_true rfl | exact fun _ => Nat.le_of_ble_eq_true rfl | exact Int.natCast_nonneg _ | exact fun _ => Int.natCast_nonneg _ | exact within_t _ _ _ | exact (within_t _ _ _).un | exact inrk k (by omega)
    case zk =>
    exact ⟨k + 1, hlt, by omega, ⟨.refl _, .refl _, .refl _, .refl _, .refl _, .refl _, .refl _, .refl _, trivial⟩, ⟨.of_eq (show A.bool (andAll b0 celOk cells (k + 1)) = A.bool (cond (cond (andAll b0 celOk cells k) (wi c.sp 0 10000) false) (wi c.la 0 10000) false) by rw [hstep, cond_assoc]; rfl), .refl _, trivial⟩, ⟨rfl, rfl, rfl, trivial⟩, Nat.le_of_ble_eq_true rfl⟩
  have hle : k = cells.length := by have := of_decide_eq_false h1; omega
  subst hle
  rw [andAll_full]
  have hbok : boxesOk cells boxes = cond (cond b0 (cells.all celOk) false) (boxes.all fun b => risingF cells.length (-1) b.l) false := by rw [hb0']; rfl
  generalize hb1 : cond b0 (cells.all celOk) false = b1 at *
  have hb1i : b1 = true → CelsIn cells ∧ boxes.length ≤ 8 := fun h => by
    rw [← hb1, hb0'] at h
    have h1 := of_decide_eq_true (ac1 (ac1 h))
    have h2 := of_decide_eq_true (ac2 (ac1 h))
    have h3 := fun c hc => List.all_eq_true.1 (ac2 h) c hc
    refine ⟨⟨by omega, fun c hc => ?_, fun c hc => ?_⟩, by omega⟩
    · have := h3 c hc; unfold celOk at this; exact wi_iff.1 (ac1 this)
    · have := h3 c hc; unfold celOk at this; exact wi_iff.1 (ac2 this)
  refine Aw.sm tab_ok mb0 [] rfl rfl ?zo ?zk
  case zo =>
    repeat' apply AllP.cons
    all_goals first | exact trivial | exact id | exact rfl | exact fun _ => rfl | exact Nat.le_of_ble_eq_true rfl | exact fun _ => Nat.le_of_ble_eq_true rfl | exact Int.natCast_nonneg _ | exact fun _ => Int.natCast_nonneg _ | exact within_t _ _ _ | exact (within_t _ _ _).un | exact (show (0 : Int) ≤ ((boxes.map NL.c).length : Int) by omega) | exact (show ((boxes.map NL.c).length : Int) ≤ (maxLen : Nat) by unfold maxLen; omega) | exact (show ((8 : Nat) : Int) * ((boxes.map NL.c).length : Int) ≤ 140737488355328 by omega)
  case zk =>
  have hzr : (((List.range (((boxes.map NL.c).length : Int).toNat * 1)).map fun j => ([A.s (.int .i64 0)] : List A).getD (j % 1) .un).map A.down) = (setsN boxes 0).map A.int := by
    rw [Int.toNat_natCast, List.length_map, zeros_is]; rfl
  have hnn : (((boxes.map NL.c).length : Int)).toNat = boxes.length := by omega
  refine Aw.keep (n := 5) (cst := [(0, .sl p .any (cells.map Cel.c)), (1, .sl q .any (boxes.map NL.c)), (2, .int most), (6, .ref 0 0), (7, .ref 1 0), (8, .ref 2 0), (10, .bool b1), (13, .ref 4 0)]) (v := []) (Hl := [(0, .cells [.sl true .exact []]), (1, .cells [.int 0]), (2, .cells [.int 0]), (3, .cells ((setsN boxes 0).map A.int)), (4, .cells [.ms 3 0 boxes.length])]) hE5 ⟨fc.under, fb.under, .s _, .ref _ _ (by decide), .ref _ _ (by decide), .ref _ _ (by decide), .s _, .ref _ _ (by decide), trivial⟩ trivial ⟨⟨by decide, un0⟩, ⟨by decide, ui0⟩, ⟨by decide, ui0⟩, ⟨by decide, cells_under _⟩, ⟨by decide, .cells _ (all1 (.ms _ _ _ (by decide)))⟩, trivial⟩
    ⟨⟨.refl _, .refl _, .refl _, .refl _, .refl _, .refl _, .refl _, .refl _, trivial⟩, trivial, ⟨rfl, rfl, rfl, congrArg (fun x => some (B.cells x)) hzr, congrArg (fun x => some (B.cells [.ms 3 0 x])) hnn, trivial⟩, Nat.le_of_ble_eq_true rfl⟩ ?_
  refine Aw.seq ?_
  refine Aw.sm tab_ok mb0 [] rfl rfl ?zo ?zk
  case zo =>
    repeat' apply AllP.cons
    all_goals first | exact trivial | exact id | exact rfl | exact fun _ => rfl | exact Nat.le_of_ble_eq_true rfl | exact fun _ => Nat.le_of_ble_eq_true rfl | exact Int.natCast_nonneg _ | exact fun _ => Int.natCast_nonneg _ | exact within_t _ _ _ | exact (within_t _ _ _).un
  case zk =>
  refine Aw.block (Aw.rounds (ι := Nat) 5 hE5 [(0, .sl p .any (cells.map Cel.c)), (2, .int most), (6, .ref 0 0), (7, .ref 1 0), (8, .ref 2 0), (10, .bool b1), (13, .ref 4 0), (51, .sl q .any (boxes.map NL.c)), (52, .int (boxes.map NL.c).length)] (fun k => [(53, .int k)]) (fun k => [(0, .cells [.sl true .exact []]), (1, .cells [.int 0]), (2, .cells [.int 0]), (3, .cells ((setsN boxes k).map A.int)), (4, .cells [.ms 3 0 boxes.length])])
    (fun k => k ≤ boxes.length ∧ (boxes.take k).all (fun b => risingF cells.length (-1) b.l) = true) (fun k => boxes.length - k) 0
    ⟨Nat.zero_le _, rfl⟩ ⟨⟨.refl _, .refl _, .refl _, .refl _, .refl _, .refl _, .refl _, .refl _, .refl _, trivial⟩, ⟨.refl _, trivial⟩, ⟨rfl, rfl, rfl, rfl, rfl, trivial⟩, Nat.le_refl _⟩ ⟨fc.under, .s _, .ref _ _ (by decide), .ref _ _ (by decide), .ref _ _ (by decide), .s _, .ref _ _ (by decide), fb.under, .s _, trivial⟩ (fun _ _ => ⟨.s _, trivial⟩) (fun _ _ => ⟨⟨by decide, un0⟩, ⟨by decide, ui0⟩, ⟨by decide, ui0⟩, ⟨by decide, cells_under _⟩, ⟨by decide, .cells _ (all1 (.ms _ _ _ (by decide)))⟩, trivial⟩) ?_)
  rintro k ⟨hk, hall⟩
  refine Aw.sm tab_ok mb0 [] rfl rfl ?zo ?zk
  case zo =>
    repeat' apply AllP.cons
    all_goals first | exact trivial | exact id | exact rfl | exact fun _ => rfl | exact Nat.le_of_ble_eq_true rfl | exact fun _ => Nat.le_of_ble_eq_true rfl | exact Int.natCast_nonneg _ | exact fun _ => Int.natCast_nonneg _ | exact within_t _ _ _ | exact (within_t _ _ _).un
  case zk =>
  refine Aw.seq (Aw.cond rfl (fun h1 => Aw.skip1 ?_) (fun h1 => Aw.exit2 ?_))
  · have hlt : k < boxes.length := by have := of_decide_eq_true h1; omega
    have hg : (boxes.map NL.c)[k]? = some boxes[k].c := get_map hlt
    have hfit : nlFit boxes[k] := hbf _ (List.getElem_mem hlt)
    have hsucc := setsN_succ boxes k hlt
    have hall2 := all_take_succ (p := fun b : NL => risingF cells.length (-1) b.l) hlt
    have hbad : risingF cells.length (-1) boxes[k].l = false → boxesOk cells boxes = false := fun h => by
      rw [hbok]
      have : (boxes.all fun b => risingF cells.length (-1) b.l) = false := by
        rw [List.all_eq_false]
        exact ⟨boxes[k], List.getElem_mem hlt, by rw [h]; simp⟩
      rw [this]; cases b1 <;> rfl
    generalize boxes[k] = bx at *
    have hl63 : (bx.l.length : Int) ≤ 9223372036854775806 := hfit
    have zl := ints_lenI bx.l
    have ul : ∀ {n}, Under n (A.sl bx.n .any (ints bx.l)) := (free_ints _ _ _).under
    have hsl := setsN_len boxes k hk
    refine Aw.seq (Aw.block ?_)
    refine Aw.sm tab_ok mb0 [(1, bx.c)] rfl rfl ?zo ?zk
    case zo =>
      repeat' apply AllP.cons
      all_goals first | exact trivial | exact id | exact rfl | exact fun _ => rfl | exact Nat.le_of_ble_eq_true rfl | exact fun _ => Nat.le_of_ble_eq_true rfl | exact Int.natCast_nonneg _ | exact fun _ => Int.natCast_nonneg _ | exact within_t _ _ _ | exact (within_t _ _ _).un | exact hg
    case zk =>
    refine Aw.sm tab_ok mb0 [] rfl rfl ?zo ?zk
    case zo =>
      repeat' apply AllP.cons
      all_goals first | exact trivial | exact id | exact rfl | exact fun _ => rfl | exact Nat.le_of_ble_eq_true rfl | exact fun _ => Nat.le_of_ble_eq_true rfl | exact Int.natCast_nonneg _ | exact fun _ => Int.natCast_nonneg _ | exact within_t _ _ _ | exact (within_t _ _ _).un
    case zk =>
    refine Aw.sm tab_ok mb0 [] rfl rfl ?zo ?zk
    case zo =>
      repeat' apply AllP.cons
      all_goals first | exact trivial | exact id | exact rfl | exact fun _ => rfl | exact Nat.le_of_ble_eq_true rfl | exact fun _ => Nat.le_of_ble_eq_true rfl | exact Int.natCast_nonneg _ | exact fun _ => Int.natCast_nonneg _ | exact within_t _ _ _ | exact (within_t _ _ _).un
    case zk =>
    refine Aw.block (Aw.rounds (ι := Nat × Int) 5 hE5 [(0, .sl p .any (cells.map Cel.c)), (2, .int most), (6, .ref 0 0), (7, .ref 1 0), (8, .ref 2 0), (10, .bool b1), (13, .ref 4 0), (14, .int k), (51, .sl q .any (boxes.map NL.c)), (52, .int (boxes.map NL.c).length), (53, .int k), (58, .sl bx.n .any (ints bx.l)), (59, .int (ints bx.l).length)] (fun i => [(16, .int i.2), (60, .int i.1)])
      (fun i => [(0, .cells [.sl true .exact []]), (1, .cells [.int 0]), (2, .cells [.int 0]), (3, .cells (((setsN boxes k).set k ((bx.l.take i.1).foldl (fun x c => ior x (bitOf c)) 0)).map A.int)), (4, .cells [.ms 3 0 boxes.length])])
      (fun i => i.1 ≤ bx.l.length ∧ (-1 ≤ i.2 ∧ i.2 ≤ cells.length) ∧ risingF cells.length i.2 (bx.l.drop i.1) = risingF cells.length (-1) bx.l) (fun i => bx.l.length - i.1) (0, -1)
      ⟨Nat.zero_le _, ⟨Int.le_refl _, by show (-1 : Int) ≤ _; omega⟩, rfl⟩ ⟨⟨.refl _, .refl _, .refl _, .refl _, .refl _, .refl _, .refl _, .refl _, .refl _, .refl _, .refl _, .refl _, .refl _, trivial⟩, ⟨.refl _, .refl _, trivial⟩, ⟨rfl, rfl, rfl, ?_, rfl, trivial⟩, Nat.le_of_ble_eq_true rfl⟩ ⟨fc.under, .s _, .ref _ _ (by decide), .ref _ _ (by decide), .ref _ _ (by decide), .s _, .ref _ _ (by decide), .s _, fb.under, .s _, .s _, ul, .s _, trivial⟩ (fun _ _ => ⟨.s _, .s _, trivial⟩) (fun _ _ => ⟨⟨by decide, un0⟩, ⟨by decide, ui0⟩, ⟨by decide, ui0⟩, ⟨by decide, cells_under _⟩, ⟨by decide, .cells _ (all1 (.ms _ _ _ (by decide)))⟩, trivial⟩) ?_)
    · show some (B.cells ((setsN boxes k).map A.int)) = some (B.cells (((setsN boxes k).set k 0).map A.int))
      have h0 := setsN_get boxes k hlt
      rw [List.getD_eq_getElem?_getD, List.getElem?_eq_getElem (by omega)] at h0
      have : (setsN boxes k).set k 0 = setsN boxes k := by
        conv => lhs; rw [← show (setsN boxes k)[k] = 0 from h0]
        exact List.set_getElem_self _
      rw [this]
    rintro ⟨j, last⟩ ⟨hj, hla, hrun⟩
    simp only at hj hla hrun
    refine Aw.sm tab_ok mb0 [] rfl rfl ?zo ?zk
    case zo =>
      repeat' apply AllP.cons
      all_goals first | exact trivial | exact id | exact rfl | exact fun _ => rfl | exact Nat.le_of_ble_eq_true rfl | exact fun _ => Nat.le_of_ble_eq_true rfl | exact Int.natCast_nonneg _ | exact fun _ => Int.natCast_nonneg _ | exact within_t _ _ _ | exact (within_t _ _ _).un
    case zk =>
    refine Aw.seq (Aw.cond rfl (fun h2 => Aw.skip1 ?_) (fun h2 => Aw.exit2 ?_))
    · have hjl : j < bx.l.length := by have := of_decide_eq_true h2; omega
      rw [List.drop_eq_getElem_cons hjl, risingF] at hrun
      have hgj : (ints bx.l)[j]? = some [.int bx.l[j]] := ints_get hjl
      have hfo := foldl_take_succ (fun x c => ior x (bitOf c)) bx.l j hjl 0
      generalize hc : bx.l[j] = c at *
      generalize (bx.l.take j).foldl (fun x c => ior x (bitOf c)) 0 = v at *
      refine Aw.seq (Aw.block ?_)
      refine Aw.sm tab_ok mb0 [(0, [.int c])] rfl rfl ?zo ?zk
      case zo =>
        repeat' apply AllP.cons
        all_goals first | exact trivial | exact id | exact rfl | exact fun _ => rfl | exact Nat.le_of_ble_eq_true rfl | exact fun _ => Nat.le_of_ble_eq_true rfl | exact Int.natCast_nonneg _ | exact fun _ => Int.natCast_nonneg _ | exact within_t _ _ _ | exact (within_t _ _ _).un | exact hgj
      case zk =>
      refine Aw.seq ?_
      refine Aw.sm tab_ok mb0 [(6, [.bool (wi c (last + 1) ((cells.map Cel.c).length - 1))])] rfl rfl ?zo ?zk
      case zo =>
        repeat' apply AllP.cons
        all_goals first | exact trivial | exact id | exact rfl | exact fun _ => rfl | exact Nat.le_of_ble_eq_true rfl | exact fun _ => Nat.le_of_ble_eq_true rfl | exact Int.natCast_nonneg _ | exact fun _ => Int.natCast_nonneg _ | exact within_t _ _ _ | exact (within_t _ _ _).un | exact (by simp only [Ob.of, inR]; omega)
      case zk =>
      rw [zc]
      refine Aw.cond rfl (fun h3 => ?_) (fun h3 => Aw.skip ?_)
      · have h3' : wi c (last + 1) (cells.length - 1) = false := by simpa using h3
        rw [h3'] at hrun
        have hno := hbad hrun.symm
        refine Aw.sm tab_ok mb0 [] rfl rfl ?zo ?zk
        case zo =>
          repeat' apply AllP.cons
          all_goals first | exact trivial | exact id | exact rfl | exact fun _ => rfl | exact Nat.le_of_ble_eq_true rfl | exact fun _ => Nat.le_of_ble_eq_true rfl | exact Int.natCast_nonneg _ | exact fun _ => Int.natCast_nonneg _ | exact within_t _ _ _ | exact (within_t _ _ _).un
        case zk =>
        exact Aw.ret ⟨_, .cons (resO rfl rfl (by decide) rfl rfl rfl) (.cons (resO rfl rfl (by decide) rfl rfl rfl) (.cons (resO rfl rfl (by decide) rfl rfl rfl) (.cons (.tmp _) .nil))), by unfold boxR; rw [hno]; rfl⟩
      have h3' : wi c (last + 1) (cells.length - 1) = true := by simpa using h3
      rw [h3'] at hrun
      have hrun : risingF cells.length c (bx.l.drop (j + 1)) = risingF cells.length (-1) bx.l := hrun
      have hcb := wi_iff.1 h3'
      have hvl : ((setsN boxes k).set k v).length = boxes.length := by rw [List.length_set]; exact hsl
      have hgv : ((((setsN boxes k).set k v).map A.int).getD (0 + k * 1 + 0) .un).down = .int v := by
        rw [Nat.add_zero, Nat.zero_add, Nat.mul_one, cells_get (by omega), getD_set' _ _ _ _ (by omega), if_pos rfl]
      have l1 : 0 + k * 1 + 0 < (((setsN boxes k).set k v).map A.int).length := by rw [List.length_map]; omega
      have l2 : 0 + k * 1 + 0 + 1 ≤ (((setsN boxes k).set k v).map A.int).length := l1
      have hkb : (k : Int) < (boxes.length : Nat) := by omega
      refine Aw.sm tab_ok mb0 [] rfl rfl ?zo ?zk
      case zo =>
        repeat' apply AllP.cons
        all_goals first | exact trivial | exact id | exact rfl | exact fun _ => rfl | exact Nat.le_of_ble_eq_true rfl | exact fun _ => Nat.le_of_ble_eq_true rfl | exact Int.natCast_nonneg _ | exact fun _ => Int.natCast_nonneg _ | exact within_t _ _ _ | exact (within_t _ _ _).un
      case zk =>
      refine Aw.ed tab_ok mixed mb0 [(4, [.int v])] rfl (by kernel_rfl) rfl rfl ?zo ?zk
      case zo =>
        repeat' apply AllP.cons
        all_goals first | exact trivial | exact id | exact rfl | exact fun _ => rfl | exact Nat.le_of_ble_eq_true rfl | exact fun _ => Nat.le_of_ble_eq_true rfl | exact Int.natCast_nonneg _ | exact fun _ => Int.natCast_nonneg _ | exact within_t _ _ _ | exact (within_t _ _ _).un | exact hgv | exact l1 | exact l2 | exact hkb | exact (show (0 : Int) ≤ c by omega)
      case zk =>
      have hset : setSeg (((setsN boxes k).set k v).map A.int) (0 + k * 1 + 0) [A.int (ior v (bitOf c))] = (((setsN boxes k).set k (ior v (bitOf c))).map A.int) := by
        rw [Nat.add_zero, Nat.zero_add, Nat.mul_one, setSeg_set (by omega), List.set_set]
      refine Aw.em tab_ok mb0 [] rfl rfl ?zo ?zk
      case zo =>
        repeat' apply AllP.cons
        all_goals first | exact trivial | exact id | exact rfl | exact fun _ => rfl | exact Nat.le_of_ble_eq_true rfl | exact fun _ => Nat.le_of_ble_eq_true rfl | exact Int.natCast_nonneg _ | exact fun _ => Int.natCast_nonneg _ | exact within_t _ _ _ | exact (within_t _ _ _).un | exact inrk j (by omega)
      case zk =>
      exact ⟨(j + 1, c), ⟨hjl, ⟨by show -1 ≤ c; omega, by show c ≤ cells.length; omega⟩, hrun⟩, by show bx.l.length - (j + 1) < bx.l.length - j; omega, ⟨.refl _, .refl _, .refl _, .refl _, .refl _, .refl _, .refl _, .refl _, .refl _, .refl _, .refl _, .refl _, .refl _, trivial⟩, ⟨.refl _, .refl _, trivial⟩, ⟨rfl, rfl, rfl, by rw [hfo]; exact congrArg (fun x => some (B.cells x)) hset, rfl, trivial⟩, Nat.le_of_ble_eq_true rfl⟩
    · have hle : j = bx.l.length := by have := of_decide_eq_false h2; omega
      subst hle
      rw [List.drop_length, risingF] at hrun
      have hso : (bx.l.take bx.l.length).foldl (fun x c => ior x (bitOf c)) 0 = setOf bx.l := by rw [List.take_length]; rfl
      rw [hso, hsucc]
      refine Aw.em tab_ok mb0 [] rfl rfl ?zo ?zk
      case zo =>
        repeat' apply AllP.cons
        all_goals first | exact trivial | exact id | exact rfl | exact fun _ => rfl | exact Nat.le_of_ble_eq_true rfl | exact fun _ => Nat.le_of_ble_eq_true rfl | exact Int.natCast_nonneg _ | exact fun _ => Int.natCast_nonneg _ | exact within_t _ _ _ | exact (within_t _ _ _).un | exact inrk k (by omega)
      case zk =>
      exact ⟨k + 1, ⟨hlt, by rw [hall2, hall, ← hrun]; rfl⟩, by omega, ⟨.refl _, .refl _, .refl _, .refl _, .refl _, .refl _, .refl _, .refl _, .refl _, trivial⟩, ⟨.refl _, trivial⟩, ⟨rfl, rfl, rfl, rfl, rfl, trivial⟩, Nat.le_of_ble_eq_true rfl⟩
  have hle : k = boxes.length := by have := of_decide_eq_false h1; omega
  subst hle
  rw [List.take_length] at hall
  rw [hall] at hbok
  have hbok : boxesOk cells boxes = b1 := by rw [hbok]; cases b1 <;> rfl
  rw [setsN_full]
  have hsl : (setsOf boxes).length = boxes.length := by simp [setsOf]
  refine Aw.keep (n := 5) (cst := [(0, .sl p .any (cells.map Cel.c)), (2, .int most), (6, .ref 0 0), (7, .ref 1 0), (8, .ref 2 0), (10, .bool b1), (13, .ref 4 0)]) (v := []) (Hl := [(0, .cells [.sl true .exact []]), (1, .cells [.int 0]), (2, .cells [.int 0]), (3, .cells ((setsOf boxes).map A.int)), (4, .cells [.ms 3 0 boxes.length])]) hE5 ⟨fc.under, .s _, .ref _ _ (by decide), .ref _ _ (by decide), .ref _ _ (by decide), .s _, .ref _ _ (by decide), trivial⟩ trivial ⟨⟨by decide, un0⟩, ⟨by decide, ui0⟩, ⟨by decide, ui0⟩, ⟨by decide, cells_under _⟩, ⟨by decide, .cells _ (all1 (.ms _ _ _ (by decide)))⟩, trivial⟩
    ⟨⟨.refl _, .refl _, .refl _, .refl _, .refl _, .refl _, .refl _, trivial⟩, trivial, ⟨rfl, rfl, rfl, rfl, rfl, trivial⟩, Nat.le_of_ble_eq_true rfl⟩ ?_
  refine Aw.freezeC (id := 3) (id2 := 4) (j := 0) (ints (setsOf boxes)) rfl rfl (by decide) (Nat.le_of_ble_eq_true rfl) rfl (ints_rows _) (by rw [ints_len, hsl]) ?_
  refine Aw.seq ?_
  refine Aw.sm tab_ok mb0 [] rfl rfl ?zo ?zk
  case zo =>
    repeat' apply AllP.cons
    all_goals first | exact trivial | exact id | exact rfl | exact fun _ => rfl | exact Nat.le_of_ble_eq_true rfl | exact fun _ => Nat.le_of_ble_eq_true rfl | exact Int.natCast_nonneg _ | exact fun _ => Int.natCast_nonneg _ | exact within_t _ _ _ | exact (within_t _ _ _).un
  case zk =>
  refine Aw.cond rfl (fun h1 => ?_) (fun h1 => Aw.skip ?_)
  · have hno : b1 = false := by simpa using h1
    refine Aw.sm tab_ok mb0 [] rfl rfl ?zo ?zk
    case zo =>
      repeat' apply AllP.cons
      all_goals first | exact trivial | exact id | exact rfl | exact fun _ => rfl | exact Nat.le_of_ble_eq_true rfl | exact fun _ => Nat.le_of_ble_eq_true rfl | exact Int.natCast_nonneg _ | exact fun _ => Int.natCast_nonneg _ | exact within_t _ _ _ | exact (within_t _ _ _).un
    case zk =>
    exact Aw.ret ⟨_, .cons (resO rfl rfl (by decide) rfl rfl rfl) (.cons (resO rfl rfl (by decide) rfl rfl rfl) (.cons (resO rfl rfl (by decide) rfl rfl rfl) (.cons (.tmp _) .nil))), by unfold boxR; rw [hbok, hno]; rfl⟩
  have hyes : b1 = true := by simpa using h1
  obtain ⟨hcin, hb8⟩ := hb1i hyes
  refine Aw.seq ?_
  refine Aw.sm tab_ok mb0 [(1, [.bool (wi most 0 8)])] rfl rfl ?zo ?zk
  case zo =>
    repeat' apply AllP.cons
    all_goals first | exact trivial | exact id | exact rfl | exact fun _ => rfl | exact Nat.le_of_ble_eq_true rfl | exact fun _ => Nat.le_of_ble_eq_true rfl | exact Int.natCast_nonneg _ | exact fun _ => Int.natCast_nonneg _ | exact within_t _ _ _ | exact (within_t _ _ _).un
  case zk =>
  refine Aw.cond rfl (fun h1 => ?_) (fun h1 => Aw.skip ?_)
  · have hno : wi most 0 8 = false := by simpa using h1
    refine Aw.sm tab_ok mb0 [] rfl rfl ?zo ?zk
    case zo =>
      repeat' apply AllP.cons
      all_goals first | exact trivial | exact id | exact rfl | exact fun _ => rfl | exact Nat.le_of_ble_eq_true rfl | exact fun _ => Nat.le_of_ble_eq_true rfl | exact Int.natCast_nonneg _ | exact fun _ => Int.natCast_nonneg _ | exact within_t _ _ _ | exact (within_t _ _ _).un
    case zk =>
    exact Aw.ret ⟨_, .cons (resO rfl rfl (by decide) rfl rfl rfl) (.cons (resO rfl rfl (by decide) rfl rfl rfl) (.cons (resO rfl rfl (by decide) rfl rfl rfl) (.cons (.tmp _) .nil))), by unfold boxR; rw [hbok, hyes, hno]; rfl⟩
  have hmo : wi most 0 8 = true := by simpa using h1
  have hmb := wi_iff.1 hmo
  have hR : boxR cells boxes most = [outA (boxF cells boxes most).chosen, .int (boxF cells boxes most).sp, .int (boxF cells boxes most).la, .int 0] := by unfold boxR; rw [hbok, hyes, hmo]; rfl
  rw [hR]
  have hF : boxF cells boxes most = bxAll cells (setsOf boxes) (List.range ((min most boxes.length).toNat + 1)) ⟨[], 0, 0⟩ := rfl
  generalize boxF cells boxes most = R at *
  generalize setsOf boxes = sets at *
  refine Aw.sm tab_ok mb0 [] rfl rfl ?zo ?zk
  case zo =>
    repeat' apply AllP.cons
    all_goals first | exact trivial | exact id | exact rfl | exact fun _ => rfl | exact Nat.le_of_ble_eq_true rfl | exact fun _ => Nat.le_of_ble_eq_true rfl | exact Int.natCast_nonneg _ | exact fun _ => Int.natCast_nonneg _ | exact within_t _ _ _ | exact (within_t _ _ _).un
  case zk =>
  refine Aw.sm tab_ok mb0 [] rfl rfl ?zo ?zk
  case zo =>
    repeat' apply AllP.cons
    all_goals first | exact trivial | exact id | exact rfl | exact fun _ => rfl | exact Nat.le_of_ble_eq_true rfl | exact fun _ => Nat.le_of_ble_eq_true rfl | exact Int.natCast_nonneg _ | exact fun _ => Int.natCast_nonneg _ | exact within_t _ _ _ | exact (within_t _ _ _).un
  case zk =>
  refine Aw.sm tab_ok mb0 [] rfl rfl ?zo ?zk
  case zo =>
    repeat' apply AllP.cons
    all_goals first | exact trivial | exact id | exact rfl | exact fun _ => rfl | exact Nat.le_of_ble_eq_true rfl | exact fun _ => Nat.le_of_ble_eq_true rfl | exact Int.natCast_nonneg _ | exact fun _ => Int.natCast_nonneg _ | exact within_t _ _ _ | exact (within_t _ _ _).un
  case zk =>
  refine Aw.keep (n := 8) (cst := [(2, .int most), (6, .ref 0 0), (7, .ref 1 0), (8, .ref 2 0), (13, .ref 4 0), (20, .ref 7 0)]) (v := []) (Hl := bxH p cells sets [] ⟨[], 0, 0⟩) hE8 ⟨.s _, .ref _ _ (by decide), .ref _ _ (by decide), .ref _ _ (by decide), .ref _ _ (by decide), .ref _ _ (by decide), trivial⟩ trivial (bxH_under _ _ _ _ _ (Nat.le_refl _))
    ⟨⟨.refl _, .refl _, .refl _, .refl _, .refl _, .refl _, trivial⟩, trivial, ⟨rfl, rfl, rfl, rfl, rfl, rfl, rfl, trivial⟩, Nat.le_of_ble_eq_true rfl⟩ ?_
  have zs := ints_lenI sets
  have hmin : (if ((ints sets).length : Int) < most then ((ints sets).length : Int) else most) = min most boxes.length := by rw [zs, hsl]; exact minI most boxes.length
  obtain ⟨M, hM⟩ : ∃ M : Nat, min most boxes.length = M := ⟨(min most boxes.length).toNat, by omega⟩
  have hM8 : M ≤ 8 := by omega
  rw [hM, Int.toNat_natCast] at hF
  have ob1 : inR ((if ((ints sets).length : Int) < most then ((ints sets).length : Int) else most) + 1) := by rw [hmin, hM]; simp only [inR]; omega
  refine Aw.seq ?_
  refine Aw.sm tab_ok mb0 [] rfl rfl ?zo ?zk
  case zo =>
    repeat' apply AllP.cons
    all_goals first | exact trivial | exact id | exact rfl | exact fun _ => rfl | exact Nat.le_of_ble_eq_true rfl | exact fun _ => Nat.le_of_ble_eq_true rfl | exact Int.natCast_nonneg _ | exact fun _ => Int.natCast_nonneg _ | exact within_t _ _ _ | exact (within_t _ _ _).un | exact ob1
  case zk =>
  refine Aw.block (Aw.rounds (ι := Nat × List (Int × Cel) × BSt) 8 hE8 [(6, .ref 0 0), (7, .ref 1 0), (8, .ref 2 0), (20, .ref 7 0), (98, .int ((M : Int) + 1))] (fun i => [(99, .int i.1)]) (fun i => bxH p cells sets i.2.1 i.2.2)
    (fun i => i.1 ≤ M + 1 ∧ MemoOk cells i.2.1 ∧ bxAll cells sets ((List.range (M + 1)).drop i.1) i.2.2 = R) (fun i => M + 1 - i.1) (0, [], ⟨[], 0, 0⟩)
    ⟨Nat.zero_le _, (fun _ _ h => by cases h), hF.symm⟩ ⟨⟨.refl _, .refl _, .refl _, .refl _, .of_eq (show A.int ((M : Int) + 1) = A.int ((if ((ints sets).length : Int) < most then ((ints sets).length : Int) else most) + 1) by rw [hmin, hM]), trivial⟩, ⟨.refl _, trivial⟩, ⟨rfl, rfl, rfl, rfl, rfl, rfl, rfl, trivial⟩, Nat.le_refl _⟩ ⟨.ref _ _ (by decide), .ref _ _ (by decide), .ref _ _ (by decide), .ref _ _ (by decide), .s _, trivial⟩ (fun _ _ => ⟨.s _, trivial⟩) (fun i _ => bxH_under _ _ _ _ _ (Nat.le_refl _)) ?_)
  rintro ⟨i, m, s⟩ ⟨hi, hgood, hrun⟩
  simp only at hi hgood hrun
  refine Aw.sm tab_ok mb0 [] rfl rfl ?zo ?zk
  case zo =>
    repeat' apply AllP.cons
    all_goals first | exact trivial | exact id | exact rfl | exact fun _ => rfl | exact Nat.le_of_ble_eq_true rfl | exact fun _ => Nat.le_of_ble_eq_true rfl | exact Int.natCast_nonneg _ | exact fun _ => Int.natCast_nonneg _ | exact within_t _ _ _ | exact (within_t _ _ _).un
  case zk =>
  refine Aw.seq (Aw.cond rfl (fun h2 => Aw.skip1 ?_) (fun h2 => Aw.exit2 ?_))
  · have hlt : i < M + 1 := by have := of_decide_eq_true h2; omega
    rw [range_drop hlt, bxAll] at hrun
    have hcall := choose_t p cells hcin sets (by omega) i [] 0 m s i (by simp) (by omega) (fun _ h => nomatch h) hgood
    generalize bxF cells sets i [] 0 s = s3 at *
    refine Aw.seq (Aw.block ?_)
    refine Aw.sm tab_ok mb0 [] rfl rfl ?zo ?zk
    case zo =>
      repeat' apply AllP.cons
      all_goals first | exact trivial | exact id | exact rfl | exact fun _ => rfl | exact Nat.le_of_ble_eq_true rfl | exact fun _ => Nat.le_of_ble_eq_true rfl | exact Int.natCast_nonneg _ | exact fun _ => Int.natCast_nonneg _ | exact within_t _ _ _ | exact (within_t _ _ _).un
    case zk =>
    refine Aw.es rfl ?_
    refine RegL.partE tab_ok mb0 false 3 0 [] ?_
    conv => arg 5; whnf
    refine PartK.mk ?zo ?zk
    case zo =>
      repeat' apply AllP.cons
      all_goals first | exact trivial | exact id | exact rfl | exact fun _ => rfl | exact Nat.le_of_ble_eq_true rfl | exact fun _ => Nat.le_of_ble_eq_true rfl | exact Int.natCast_nonneg _ | exact fun _ => Int.natCast_nonneg _ | exact within_t _ _ _ | exact (within_t _ _ _).un
    case zk =>
    refine Does.raw rfl (DoesR.call (fst := []) (cap := [.ref 6 0, .ref 1 0, .ref 2 0, .ref 0 0, .ref 4 0, .ref 7 0]) rfl rfl (enters_of Try.func82 rfl rfl) (bx_frame (l := []) rfl hcall (H := _) (c := _) ⟨rfl, rfl, rfl, rfl, rfl, rfl, rfl, trivial⟩) ?_)
    rintro v H' c' ⟨rfl, rfl, m3, hgood3, rfl⟩
    refine Aw.em tab_ok mb0 [] rfl rfl ?zo ?zk
    case zo =>
      repeat' apply AllP.cons
      all_goals first | exact trivial | exact id | exact rfl | exact fun _ => rfl | exact Nat.le_of_ble_eq_true rfl | exact fun _ => Nat.le_of_ble_eq_true rfl | exact Int.natCast_nonneg _ | exact fun _ => Int.natCast_nonneg _ | exact within_t _ _ _ | exact (within_t _ _ _).un | exact inrk i (by omega)
    case zk =>
    exact ⟨(i + 1, m3, s3), ⟨hlt, hgood3, hrun⟩, by show M + 1 - (i + 1) < M + 1 - i; omega, ⟨.refl _, .refl _, .refl _, .refl _, .refl _, trivial⟩, ⟨.refl _, trivial⟩, ⟨rfl, rfl, rfl, rfl, rfl, rfl, rfl, trivial⟩, Nat.le_of_ble_eq_true rfl⟩
  · have hend : i = M + 1 := by have := of_decide_eq_false h2; omega
    subst hend
    rw [range_end, bxAll] at hrun
    subst hrun
    obtain ⟨s1, s2, s3⟩ := s
    cases s1 with
    | nil =>
      refine Aw.sd tab_ok mixed mb0 [] rfl (by kernel_rfl) rfl rfl ?zo ?zk
      case zo =>
        repeat' apply AllP.cons
        all_goals first | exact trivial | exact id | exact rfl | exact fun _ => rfl | exact Nat.le_of_ble_eq_true rfl | exact fun _ => Nat.le_of_ble_eq_true rfl | exact Int.natCast_nonneg _ | exact fun _ => Int.natCast_nonneg _ | exact within_t _ _ _ | exact (within_t _ _ _).un
      case zk =>
      exact Aw.ret ⟨_, .cons (resO rfl rfl (by decide) rfl rfl rfl) (.cons (resO rfl rfl (by decide) rfl rfl rfl) (.cons (resO rfl rfl (by decide) rfl rfl rfl) (.cons (.tmp _) .nil))), rfl⟩
    | cons x l =>
      refine Aw.sd tab_ok mixed mb0 [] rfl (by kernel_rfl) rfl rfl ?zo ?zk
      case zo =>
        repeat' apply AllP.cons
        all_goals first | exact trivial | exact id | exact rfl | exact fun _ => rfl | exact Nat.le_of_ble_eq_true rfl | exact fun _ => Nat.le_of_ble_eq_true rfl | exact Int.natCast_nonneg _ | exact fun _ => Int.natCast_nonneg _ | exact within_t _ _ _ | exact (within_t _ _ _).un
      case zk =>
      exact Aw.ret ⟨_, .cons (resO rfl rfl (by decide) rfl rfl rfl) (.cons (resO rfl rfl (by decide) rfl rfl rfl) (.cons (resO rfl rfl (by decide) rfl rfl rfl) (.cons (.tmp _) .nil))), rfl⟩
end Go.Proofs.Ytdiclbgklegelaa

