/- ShoalFirst holds: the first track with the fewest false reports is one, and no other track that numbers choose, of which as few are false, comes before it. No condition. -/
import Derived.Test.YtohbjneaaahpcaaK7
set_option linter.all false
namespace Go.Proofs.Ytohbjneaaahpcaa
open Go Go.AL Go.AL.Q Go.AL.Sh
theorem trkN_ok {s : Sea} (ho : s.Ok) {l : List Rep} (hl : l.length ≤ 24) (hn : fewF s l < 1048576) : Trk s (trkN s l (fewF s l) (hrs s)).1 ∧ (costW s l 0 (trkN s l (fewF s l) (hrs s)).1 : Int) = fewF s l := by
  have h := trkN_inv ho hl hn (hrs s) (Nat.le_refl _)
  refine ⟨⟨h.len, h.ok⟩, ?_⟩
  have h1 := h.sum
  have h2 := h.fin rfl
  omega
theorem bef_snoc {x y : Int} : ∀ {a b : List Int}, a.length = b.length → Q.befF (a ++ [x]) (b ++ [y]) = (Q.befF a b || (a == b && decide (x < y)))
  | [], [], _ => by simp [Q.befF]; omega
  | [], _ :: _, h => by simp at h
  | _ :: _, [], h => by simp at h
  | p :: a, q :: b, h => by
    simp only [List.cons_append, Q.befF]
    by_cases e : p = q
    · subst e; rw [if_pos rfl, if_pos rfl, bef_snoc (by simpa using h)]; simp
    · rw [if_neg e, if_neg e]
      have : (p :: a == q :: b) = false := by simp [e]
      rw [this]; simp
theorem find_first {L : List Nat} {P : Nat → Bool} {c x : Nat} : L.Pairwise (· < ·) → L.find? P = some c → x ∈ L → P x = true → c ≤ x := by
  induction L with
  | nil => intro _ h; cases h
  | cons y L ih =>
    intro hp hf hx hP
    rw [List.find?_cons] at hf
    have hp1 := (List.pairwise_cons.1 hp).1
    cases hy : P y with
    | true =>
      rw [hy] at hf; cases hf
      rcases List.mem_cons.1 hx with h | h
      · omega
      · have := hp1 x h; omega
    | false =>
      rw [hy] at hf
      rcases List.mem_cons.1 hx with h | h
      · subst h; rw [hy] at hP; cases hP
      · exact ih (List.pairwise_cons.1 hp).2 hf h hP
theorem tI_inj {a b : List Nat} (h : (tI a == tI b) = true) : a = b := by
  have := eq_of_beq h
  unfold tI at this
  exact List.map_inj_right (fun x y h => Int.ofNat_inj.1 h) |>.1 this
theorem trk_first {s : Sea} (ho : s.Ok) {l : List Rep} (hl : l.length ≤ 24) (hn : fewF s l < 1048576) {T : List Nat} (hT : Trk s T) (hc : (costW s l 0 T : Int) = fewF s l) :
    ∀ h, h ≤ hrs s → Q.befF (tI (T.take h)) (tI (trkN s l (fewF s l) h).1) = false
  | 0, _ => rfl
  | h + 1, hh => by
    have ih := trk_first ho hl hn hT hc h (by omega)
    have hI := trkN_inv ho hl hn h (by omega)
    obtain ⟨c, hf, hcm, _⟩ := sel_succ ho hl hI (by omega)
    have hlt : h < T.length := by rw [hT.len]; omega
    have e1 : (trkN s l (fewF s l) (h + 1)).1 = (trkN s l (fewF s l) h).1 ++ [c] := by rw [trkN, hf]
    rw [e1, List.take_succ_eq_append_getElem hlt]
    have e2 : ∀ (a : List Nat) (x : Nat), tI (a ++ [x]) = tI a ++ [(x : Int)] := fun a x => by simp [tI]
    rw [e2, e2, bef_snoc (by rw [tI_len, tI_len, hI.len, List.length_take]; omega), ih, Bool.false_or]
    cases he : (tI (T.take h) == tI (trkN s l (fewF s l) h).1) with
    | false => rfl
    | true =>
      have he := tI_inj he
      rw [Bool.true_and, decide_eq_false_iff_not]
      have hm := okW_mem s hT.ok T[h] (List.getElem_mem hlt)
      have hsum := hI.sum
      rw [← he] at hsum
      have hdr : T.drop h = T[h] :: T.drop (h + 1) := List.drop_eq_getElem_cons hlt
      have hsplit : costW s l 0 T = costW s l 0 (T.take h) + costW s l h (T[h] :: T.drop (h + 1)) := by
        have := costW_app s l (T.take h) (T.drop h) 0
        rw [List.take_append_drop, List.length_take, Nat.min_eq_left (by omega), Nat.zero_add, hdr] at this
        exact this
      have hok : okW s 0 (T.take h ++ [T[h]]) ∧ okW s h (T[h] :: T.drop (h + 1)) := by
        have h1 := hT.ok
        rw [← List.take_append_drop h T, hdr, okW_app] at h1
        refine ⟨h1.1, ?_⟩
        have h2 := h1.2
        rw [List.length_take, Nat.min_eq_left (by omega), Nat.zero_add] at h2
        exact h2
      have hlen := hT.len
      have hbw : BwP s l h T[h] (costW s l h (T[h] :: T.drop (h + 1))) := ⟨T.drop (h + 1), by rw [List.length_drop]; omega, hok.2, rfl⟩
      have hmin := bk_at ho hl (show h < hrs s by omega) hm
      have hle288 := (TrA.le ho hl ⟨T, hT, rfl⟩)
      have hv : (bkR s l (hrs s - 1 - h)).getD T[h] 0 = (trkN s l (fewF s l) h).2 := by
        rcases hmin.or with ⟨_, h3⟩ | ⟨m, h3, ⟨t', k1, k2, k3⟩, h5⟩
        · exact absurd hbw (h3 _)
        · have h6 := h5 _ hbw
          have hT2 : Trk s (T.take h ++ T[h] :: t') := ⟨by simp only [List.length_append, List.length_take, List.length_cons]; omega, by
            rw [okW_app]; refine ⟨hok.1, ?_⟩
            rw [List.length_take, Nat.min_eq_left (by omega), Nat.zero_add]; exact k2⟩
          have h7 := (few_le ho hl hT2).1
          rw [costW_app, List.length_take, Nat.min_eq_left (by omega), Nat.zero_add, k3] at h7
          omega
      have hsel : selP s l h (trkN s l (fewF s l) h).1 (trkN s l (fewF s l) h).2 T[h] = true := by
        unfold selP
        rw [hv, beq_self_eq_true, Bool.true_and, Bool.or_eq_true]
        cases h with
        | zero => exact .inl rfl
        | succ j =>
          right
          have h8 := okW_at hT.ok hlt
          rw [Nat.zero_add] at h8
          rw [← he, Nat.add_sub_cancel, List.getD_eq_getElem?_getD, List.getElem?_take_of_lt (by omega), List.getElem?_eq_getElem (by omega)]
          exact h8
      have := find_first (cells_sorted s) hf hm hsel
      omega
theorem trk_least {s : Sea} (ho : s.Ok) {l : List Rep} (hl : l.length ≤ 24) (hn : fewF s l < 1048576) {T : List Nat} (hT : Trk s T) (hc : (costW s l 0 T : Int) = fewF s l) : Q.befF (tI T) (tI (trkN s l (fewF s l) (hrs s)).1) = false := by
  have := trk_first ho hl hn hT hc (hrs s) (Nat.le_refl _)
  rwa [List.take_of_length_le (by rw [hT.len]; exact Nat.le_refl _)] at this
theorem Trk.hours {s : Sea} (ho : s.Ok) {T : List Nat} (h : Trk s T) : (T.length : Int) = s.hours := by have := hrs_pos ho; have := h.len; omega
end Go.Proofs.Ytohbjneaaahpcaa

namespace Go.Proofs.Ytohbjneaaahpcaa
open Go Go.AL Go.AL.Q Go.AL.Sh
structure NextIs (w : Int) (G : List Int) (casts : List Sp) (k : Nat) (p : Int × Int) : Prop where
  i : ∃ i : Nat, p.1 = i ∧ i < k ∧ p.2 = worstF w G (casts.getD i ⟨0, 0⟩)
  ge : ∀ j : Nat, j < k → p.2 ≤ worstF w G (casts.getD j ⟨0, 0⟩) ∧ ((j : Int) < p.1 → p.2 < worstF w G (casts.getD j ⟨0, 0⟩))
def lastI (l : List Int) : Int := l.getLast?.getD (-1)
structure Rd (n f : Nat) (last : Int) (m : List Int) : Prop where
  len : m.length = f
  ri : risingF n last m = true
structure ChT (fd : List Int → Bool) (n f : Nat) (l : List Int) (r : Cst) : Prop where
  t : r.1 = true → ∃ m, Rd n f (lastI l) m ∧ r.2 = l ++ m ∧ fd (l ++ m) = true ∧ ∀ m', Rd n f (lastI l) m' → fd (l ++ m') = true → Q.befF m' m = false
  f : r.1 = false → ∀ m', Rd n f (lastI l) m' → fd (l ++ m') = false
structure GoT (fd : List Int → Bool) (n f : Nat) (l : List Int) (is : List Nat) (r : Cst) : Prop where
  t : r.1 = true → ∃ i ∈ is, ∃ m, Rd n f i m ∧ r.2 = l ++ (i : Int) :: m ∧ fd (l ++ (i : Int) :: m) = true ∧ ∀ i' ∈ is, ∀ m', Rd n f i' m' → fd (l ++ (i' : Int) :: m') = true → Q.befF ((i' : Int) :: m') ((i : Int) :: m) = false
  f : r.1 = false → ∀ i' ∈ is, ∀ m', Rd n f i' m' → fd (l ++ (i' : Int) :: m') = false
structure SureIs (fd : List Int → Bool) (n : Nat) (o : List Int) : Prop where
  ri : risingF n (-1) o = true
  ok : fd o = true
  pos : 1 ≤ o.length
  first : ∀ o', o' ≠ [] → risingF n (-1) o' = true → fd o' = true → o.length < o'.length ∨ o'.length = o.length ∧ Q.befF o' o = false
end Go.Proofs.Ytohbjneaaahpcaa

namespace Go.Proofs.Ytohbjneaaahpcaa
open Go Go.AL Go.AL.Q Go.AL.Sh
theorem LeastR_bad {s : Sea} {l : List Rep} (h : (LeastR s l).2.2 ≠ 0) : LeastR s l = (0, [], (LeastR s l).2.2) := by
  unfold LeastR at h ⊢
  cases h1 : s.ok <;> cases h2 : s.repsOk l <;> by_cases h3 : fewF s l < 1048576 <;> simp [h1, h2, h3] at h ⊢
theorem LeastR_good {s : Sea} {l : List Rep} (h : (LeastR s l).2.2 = 0) : s.ok = true ∧ s.repsOk l = true ∧ fewF s l < 1048576 := by
  unfold LeastR at h
  split at h
  · split at h
    · split at h
      · exact ⟨‹_›, ‹_›, ‹_›⟩
      · cases h
    · cases h
  · cases h
set_option maxRecDepth 20000 in
set_option maxHeartbeats 1000000 in
theorem law_first (x : Srch) (hx : SrFit x) (bb : Bool) (bits : List Int) (hb : (bits.length : Int) ≤ 9223372036854775806) : Ans Try.prog 8 [.agg x.c, .sl bb .any (ints bits)] (.bool true) := by
  have hso := sound_t x hx
  have hle := Least_w x hx
  refine told Try.func8 rfl rfl (Pure.of tab_ok Try.func8 rfl Try.ntmps8 rfl (allC (.agg _ x.free) (all1 (free_ints _ _ _))) (allC (fun _ => rfl) (all1 (fun _ => rfl))) (by first | exact .s _ | assumption | exact .tup _ (by intro x hx; simp only [List.mem_cons, List.not_mem_nil, or_false] at hx; rcases hx with rfl | rfl | rfl | rfl <;> first | exact .s _ | (simp_all; done))) fun E hE => ?_)
  refine Aw.sm tab_ok mb0 [] rfl rfl ?zo ?zk
  case zo =>
    repeat' apply AllP.cons
    all_goals first | exact trivial | exact id | exact rfl | exact fun _ => rfl | exact Nat.le_of_ble_eq_true rfl | exact fun _ => Nat.le_of_ble_eq_true rfl | exact Int.natCast_nonneg _ | exact fun _ => Int.natCast_nonneg _ | exact within_t _ _ _ | exact (within_t _ _ _).un | exact in_t _ _ _ | exact (in_t _ _ _).un | exact gq_f | exact gq_t | exact gq_c | exact fun _ _ => rfl | exact works_t | exact fun _ => works_t
  case zk =>
  by_cases he : (LeastR x.s x.l).2.2 = 0
  · obtain ⟨hok, hr, hfw⟩ := LeastR_good he
    rw [LeastR_ok hok hr hfw] at hle
    rw [sound_iff.2 ⟨hok, hr⟩] at hso
    have ho := Sea.ok_of hok
    have hrf := reps_fit hr
    have hp := hrs_pos ho
    have hhr := ho.hr
    have hl24 : x.l.length ≤ 24 := by have := hrf.len; omega
    obtain ⟨hT2, hc2⟩ := trkN_ok ho hl24 hfw
    have hfirst := fun T hT hc => trk_least ho hl24 hfw (T := T) hT hc
    generalize (trkN x.s x.l (fewF x.s x.l) (hrs x.s)).1 = T2 at *
    have l2 : ((ints (tI T2)).length : Int) = x.s.hours := by rw [ints_lenI, tI_len]; have := hT2.len; omega
    have hit2 := IsTrack_w x hx (tI T2).isEmpty (tI T2) (by rw [tI_len]; have := hT2.len; omega)
    rw [TrackR_ok hok hr hT2, hc2] at hit2
    have hsw := swum_w x hx ho bb bits hb
    have hsk := swumF_ok ho bits
    generalize swumF x.s bits = T at *
    have lT : ((ints (tI T)).length : Int) = T.length := by rw [ints_lenI, tI_len]
    have hit := IsTrack_w x hx (tI T).isEmpty (tI T) (by rw [tI_len]; omega)
    have hbf := before_t (tI T) (tI T2) (tI T).isEmpty (tI T2).isEmpty (by rw [tI_len]; omega) (by rw [tI_len]; have := hT2.len; omega)
    have hfl := fun (hT : Trk x.s T) => (few_le ho hl24 hT).1
    have hfT := fun (hT : Trk x.s T) => hfirst T hT
    generalize fewF x.s x.l = fw at *
    refine Aw.sm tab_ok mb0 [(4, [.tup [.int fw, outW (tI T2), .int 0]])] rfl rfl ?zo ?zk
    case zo =>
      repeat' apply AllP.cons
      all_goals first | exact trivial | exact id | exact rfl | exact fun _ => rfl | exact Nat.le_of_ble_eq_true rfl | exact fun _ => Nat.le_of_ble_eq_true rfl | exact Int.natCast_nonneg _ | exact fun _ => Int.natCast_nonneg _ | exact within_t _ _ _ | exact (within_t _ _ _).un | exact in_t _ _ _ | exact (in_t _ _ _).un | exact gq_f | exact gq_t | exact gq_c | exact fun _ _ => rfl | exact works_t | exact fun _ => works_t | exact hle
    case zk =>
    refine Aw.seq ?_
    refine Aw.sm tab_ok mb0 [(4, [.bool true])] rfl rfl ?zo ?zk
    case zo =>
      repeat' apply AllP.cons
      all_goals first | exact trivial | exact id | exact rfl | exact fun _ => rfl | exact Nat.le_of_ble_eq_true rfl | exact fun _ => Nat.le_of_ble_eq_true rfl | exact Int.natCast_nonneg _ | exact fun _ => Int.natCast_nonneg _ | exact within_t _ _ _ | exact (within_t _ _ _).un | exact in_t _ _ _ | exact (in_t _ _ _).un | exact gq_f | exact gq_t | exact gq_c | exact fun _ _ => rfl | exact works_t | exact fun _ => works_t | exact fun _ => hso
    case zk =>
    refine Aw.cond rfl (fun h => absurd h (by decide)) (fun _ => Aw.skip ?_)
    refine Aw.sm tab_ok mb0 [(5, [.tup [.int fw, .bool true, .int 0]])] rfl rfl ?zo ?zk
    case zo =>
      repeat' apply AllP.cons
      all_goals first | exact trivial | exact id | exact rfl | exact fun _ => rfl | exact Nat.le_of_ble_eq_true rfl | exact fun _ => Nat.le_of_ble_eq_true rfl | exact Int.natCast_nonneg _ | exact fun _ => Int.natCast_nonneg _ | exact within_t _ _ _ | exact (within_t _ _ _).un | exact in_t _ _ _ | exact (in_t _ _ _).un | exact gq_f | exact gq_t | exact gq_c | exact fun _ _ => rfl | exact works_t | exact fun _ => works_t | exact hit2
    case zk =>
    refine Aw.seq ?_
    refine Aw.sm tab_ok mb0 [] rfl rfl ?zo ?zk
    case zo =>
      repeat' apply AllP.cons
      all_goals first | exact trivial | exact id | exact rfl | exact fun _ => rfl | exact Nat.le_of_ble_eq_true rfl | exact fun _ => Nat.le_of_ble_eq_true rfl | exact Int.natCast_nonneg _ | exact fun _ => Int.natCast_nonneg _ | exact within_t _ _ _ | exact (within_t _ _ _).un | exact in_t _ _ _ | exact (in_t _ _ _).un | exact gq_f | exact gq_t | exact gq_c | exact fun _ _ => rfl | exact works_t | exact fun _ => works_t
    case zk =>
    refine Aw.cond rfl (fun h => ?_) (fun _ => Aw.skip ?_)
    · have h : cond (cond (cond ((0 : Int) != 0) true (!true)) true (fw != fw)) true (((ints (tI T2)).length : Int) != x.s.hours) = true := h
      rw [l2] at h
      simp at h
    refine Aw.sm tab_ok mb0 [(3, [outW (tI T)])] rfl rfl ?zo ?zk
    case zo =>
      repeat' apply AllP.cons
      all_goals first | exact trivial | exact id | exact rfl | exact fun _ => rfl | exact Nat.le_of_ble_eq_true rfl | exact fun _ => Nat.le_of_ble_eq_true rfl | exact Int.natCast_nonneg _ | exact fun _ => Int.natCast_nonneg _ | exact within_t _ _ _ | exact (within_t _ _ _).un | exact in_t _ _ _ | exact (in_t _ _ _).un | exact gq_f | exact gq_t | exact gq_c | exact fun _ _ => rfl | exact works_t | exact fun _ => works_t | exact hsw
    case zk =>
    by_cases hTl : T.length = hrs x.s
    · have hTrk : Trk x.s T := ⟨hTl, hsk.1⟩
      have h1 := hfl hTrk
      have h2 := hfT hTrk
      rw [TrackR_ok hok hr hTrk] at hit
      generalize costW x.s x.l 0 T = m at *
      have hL : (((ints (tI T)).length : Int) == x.s.hours) = true := by rw [lT]; simp; omega
      have hfin : cond (cond (cond ((0 : Int) == 0) (true == (((ints (tI T)).length : Int) == x.s.hours)) false) (cond (cond (!true) true (decide ((m : Int) > fw))) true (cond ((m : Int) == fw) (!Q.befF (tI T) (tI T2)) false)) false) true false = true := by
        rw [hL]
        by_cases h3 : (m : Int) = fw
        · rw [h2 h3]; simp [h3]
        · have : (m : Int) > fw := by omega
          simp [this]
      generalize Q.befF (tI T) (tI T2) = bv at *
      refine Aw.sm tab_ok mb0 [(5, [.tup [.int m, .bool true, .int 0]])] rfl rfl ?zo ?zk
      case zo =>
        repeat' apply AllP.cons
        all_goals first | exact trivial | exact id | exact rfl | exact fun _ => rfl | exact Nat.le_of_ble_eq_true rfl | exact fun _ => Nat.le_of_ble_eq_true rfl | exact Int.natCast_nonneg _ | exact fun _ => Int.natCast_nonneg _ | exact within_t _ _ _ | exact (within_t _ _ _).un | exact in_t _ _ _ | exact (in_t _ _ _).un | exact gq_f | exact gq_t | exact gq_c | exact fun _ _ => rfl | exact works_t | exact fun _ => works_t | exact hit
      case zk =>
      refine Aw.sm tab_ok mb0 [(27, [.bool bv]), (33, [.bool true])] rfl rfl ?zo ?zk
      case zo =>
        repeat' apply AllP.cons
        all_goals first | exact trivial | exact id | exact rfl | exact fun _ => rfl | exact Nat.le_of_ble_eq_true rfl | exact fun _ => Nat.le_of_ble_eq_true rfl | exact Int.natCast_nonneg _ | exact fun _ => Int.natCast_nonneg _ | exact within_t _ _ _ | exact (within_t _ _ _).un | exact in_t _ _ _ | exact (in_t _ _ _).un | exact gq_f | exact gq_t | exact gq_c | exact fun _ _ => rfl | exact works_t | exact fun _ => works_t | exact fun _ => hbf
      case zk =>
      exact Aw.ret ⟨_, .cons (.tmp _) .nil, congrArg A.bool hfin⟩
    · rw [TrackR_short hok hr hTl] at hit
      have hL : (((ints (tI T)).length : Int) == x.s.hours) = false := by rw [lT]; simp; omega
      have hfin : cond (cond (cond ((0 : Int) == 0) (false == (((ints (tI T)).length : Int) == x.s.hours)) false) (cond (cond (!false) true (decide ((0 : Int) > fw))) true (cond ((0 : Int) == fw) (!Q.befF (tI T) (tI T2)) false)) false) true false = true := by
        rw [hL]; simp
      generalize Q.befF (tI T) (tI T2) = bv at *
      refine Aw.sm tab_ok mb0 [(5, [.tup [.int 0, .bool false, .int 0]])] rfl rfl ?zo ?zk
      case zo =>
        repeat' apply AllP.cons
        all_goals first | exact trivial | exact id | exact rfl | exact fun _ => rfl | exact Nat.le_of_ble_eq_true rfl | exact fun _ => Nat.le_of_ble_eq_true rfl | exact Int.natCast_nonneg _ | exact fun _ => Int.natCast_nonneg _ | exact within_t _ _ _ | exact (within_t _ _ _).un | exact in_t _ _ _ | exact (in_t _ _ _).un | exact gq_f | exact gq_t | exact gq_c | exact fun _ _ => rfl | exact works_t | exact fun _ => works_t | exact hit
      case zk =>
      refine Aw.sm tab_ok mb0 [(27, [.bool bv]), (33, [.bool true])] rfl rfl ?zo ?zk
      case zo =>
        repeat' apply AllP.cons
        all_goals first | exact trivial | exact id | exact rfl | exact fun _ => rfl | exact Nat.le_of_ble_eq_true rfl | exact fun _ => Nat.le_of_ble_eq_true rfl | exact Int.natCast_nonneg _ | exact fun _ => Int.natCast_nonneg _ | exact within_t _ _ _ | exact (within_t _ _ _).un | exact in_t _ _ _ | exact (in_t _ _ _).un | exact gq_f | exact gq_t | exact gq_c | exact fun _ _ => rfl | exact works_t | exact fun _ => works_t | exact fun _ => hbf
      case zk =>
      exact Aw.ret ⟨_, .cons (.tmp _) .nil, congrArg A.bool hfin⟩
  · rw [LeastR_bad he] at hle
    simp only at hle
    generalize (LeastR x.s x.l).2.2 = e at *
    refine Aw.sm tab_ok mb0 [(4, [.tup [.int 0, outW [], .int e]])] rfl rfl ?zo ?zk
    case zo =>
      repeat' apply AllP.cons
      all_goals first | exact trivial | exact id | exact rfl | exact fun _ => rfl | exact Nat.le_of_ble_eq_true rfl | exact fun _ => Nat.le_of_ble_eq_true rfl | exact Int.natCast_nonneg _ | exact fun _ => Int.natCast_nonneg _ | exact within_t _ _ _ | exact (within_t _ _ _).un | exact in_t _ _ _ | exact (in_t _ _ _).un | exact gq_f | exact gq_t | exact gq_c | exact fun _ _ => rfl | exact works_t | exact fun _ => works_t | exact hle
    case zk =>
    have he' : (e != 0) = true := by simpa using he
    refine Aw.seq ?_
    refine Aw.sm tab_ok mb0 [(4, [.bool (soundB x)])] rfl rfl ?zo ?zk
    case zo =>
      repeat' apply AllP.cons
      all_goals first | exact trivial | exact id | exact rfl | exact fun _ => rfl | exact Nat.le_of_ble_eq_true rfl | exact fun _ => Nat.le_of_ble_eq_true rfl | exact Int.natCast_nonneg _ | exact fun _ => Int.natCast_nonneg _ | exact within_t _ _ _ | exact (within_t _ _ _).un | exact in_t _ _ _ | exact (in_t _ _ _).un | exact gq_f | exact gq_t | exact gq_c | exact fun _ _ => rfl | exact works_t | exact fun _ => works_t | exact fun _ => hso
    case zk =>
    refine Aw.cond rfl (fun _ => ?_) (fun h => ?_)
    · refine Aw.sm tab_ok mb0 [(8, [.bool true])] rfl rfl ?zo ?zk
      case zo =>
        repeat' apply AllP.cons
        all_goals first | exact trivial | exact id | exact rfl | exact fun _ => rfl | exact Nat.le_of_ble_eq_true rfl | exact fun _ => Nat.le_of_ble_eq_true rfl | exact Int.natCast_nonneg _ | exact fun _ => Int.natCast_nonneg _ | exact within_t _ _ _ | exact (within_t _ _ _).un | exact in_t _ _ _ | exact (in_t _ _ _).un | exact gq_f | exact gq_t | exact gq_c | exact fun _ _ => rfl | exact works_t | exact fun _ => works_t
      case zk =>
      exact Aw.ret ⟨_, .cons (.tmp _) .nil, rfl⟩
    · have h : cond (e != 0) true (!soundB x) = false := h
      rw [he'] at h; cases h
theorem first_l (x : Srch) (bb : Bool) (bits : List Int) (hx : SrFit2 x) (hb : (bits.length : Int) ≤ 9223372036854775806) : Ans Try.prog 8 [.agg x.c, .sl bb .any (ints bits)] (.bool true) := law_first x hx.fit bb bits hb
end Go.Proofs.Ytohbjneaaahpcaa

namespace Go.Proofs.Ytohbjneaaahpcaa
open Go Go.AL Go.ChangeShapes Go.WideShapes Go.ChangeAt Go.RowKit
set_option maxRecDepth 100000 in
theorem shoalFirst_lifted (os : Os) (started : os.Started) (H : Type) (enc : TypeId × Value → H) :
    ReturnsInHanded {} Try.checked os 8 .any (Rows.shoalFirstSpec.pre6 enc Try.prog Try.f8 [] false) (Rows.shoalFirstSpec.post enc Try.prog Try.f8 false true false false) := by
  refine lifted2 (tb := 4) (C := Try.checked) own started (by kernel_rfl) Try.func8
    (ChangeSpec.witness6 (enc := enc) (C := Try.checked) false ⟨#[], #[.agg #[.int .i64 0, .int .i64 0, .slice none 0 0, .int .i64 0, .slice none 0 0, .int .i64 0, .slice none 0 0], .slice none 0 0], []⟩ 8 (by kernel_rfl) (by kernel_rfl) (by kernel_rfl) (by kernel_rfl))
    laidOut ?_ rfl rfl (by kernel_rfl) uBool ?_ ?_
  · rw [Try.params8]; exact all2t (p := fun t => Try.prog.readableRec t = true ∧ t < Try.prog.types.size) t28 t22
  · intro ds hd
    rw [Try.params8] at hd
    match ds, hd with
    | [d0, d1], _ => rfl
  · intro W base args ds p hval hA hwt
    rw [Try.params8] at hA hval
    obtain ⟨v0, v1, d0, d1, p0, p1, rfl, rfl, rfl, h0, h1⟩ := trodAll_two hA
    obtain ⟨y0, q0, s0⟩ := arg_srch (φ := fun _ => none) (hval 0 28 v0 rfl rfl) h0 fun k hk => hwt k (List.mem_append.2 (.inl hk))
    obtain ⟨b1, y1, q1, s1⟩ := arg_ints (φ := fun _ => none) (hval 1 22 v1 rfl rfl) h1 fun k hk => hwt k (List.mem_append.2 (.inr (List.mem_append.2 (.inl hk))))
    exact ⟨_, _, vrs2 q0 q1, first_l y0 b1 y1 s0 s1⟩
theorem shoalFirst_holds : Rows.ShoalFirstSaid :=
  OpenClaim.holds_of_wide 8 Try.f8 rfl rfl rfl rfl rfl rfl rfl ⟨rfl, rfl, rfl, rfl, rfl⟩ rfl rfl rfl rfl rfl (by kernel_rfl) Try.func8 (by kernel_rfl)
    (of_decide_eq_true (by kernel_rfl)) (by unfold Func.isWrapper; first | (rw [if_pos (by decide +kernel)]; kernel_rfl) | (rw [if_neg (by decide +kernel)]; exact ⟨rfl, rfl⟩))
    (fun os started H enc _ => shoalFirst_lifted os started H enc)
end Go.Proofs.Ytohbjneaaahpcaa

