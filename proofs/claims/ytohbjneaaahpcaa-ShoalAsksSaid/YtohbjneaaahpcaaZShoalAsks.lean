/- ShoalAsks holds: Next and Sure answer as the specification does. No condition. -/
import Derived.Test.YtohbjneaaahpcaaK7
set_option linter.all false
namespace Go.AL.Q
open Go
theorem ofInt_nat (m : Nat) : BitVec.ofInt 64 (m : Int) = BitVec.ofNat 64 m := BitVec.ofInt_natCast ..
theorem wrap_nat {m : Nat} (h : m < 2 ^ 63) : IntKind.i64.wrap (m : Int) = m := wrap_in (by simp only [inR]; omega)
theorem iand_one {m : Nat} (hm : m < 2 ^ 63) : iand (m : Int) 1 = ((m % 2 : Nat) : Int) := by
  unfold iand
  rw [ofInt_nat, show (1 : Int) = ((1 : Nat) : Int) from rfl, ofInt_nat, BitVec.toNat_and, BitVec.toNat_ofNat, BitVec.toNat_ofNat, Nat.mod_eq_of_lt (show m < 2 ^ 64 by omega), Nat.mod_eq_of_lt (by decide), Nat.and_one_is_mod]
  exact wrap_nat (by omega)
theorem bitI_test {m k : Nat} (hm : m < 2 ^ 63) (hk : k ≤ 64) : bitI (m : Int) k = m.testBit k := by
  unfold bitI
  rw [Nat.min_eq_left hk]
  have e : (m : Int).fdiv (2 ^ k) = ((m / 2 ^ k : Nat) : Int) := by
    rw [Int.fdiv_eq_ediv_of_nonneg _ (by exact Int.le_of_lt (Int.pow_pos (by decide)))]
    norm_cast
  rw [e, iand_one (Nat.lt_of_le_of_lt (Nat.div_le_self _ _) hm), Nat.testBit_eq_decide_div_mod_eq]
  have : m / 2 ^ k % 2 = 0 ∨ m / 2 ^ k % 2 = 1 := by omega
  rcases this with h | h <;> rw [h] <;> decide
theorem bef_irr : ∀ a : List Int, befF a a = false
  | [] => rfl
  | x :: a => by rw [befF, if_pos rfl]; exact bef_irr a
theorem bef_tri : ∀ a b : List Int, befF a b = true ∨ a = b ∨ befF b a = true
  | [], [] => .inr (.inl rfl)
  | [], _ :: _ => .inl rfl
  | _ :: _, [] => .inr (.inr rfl)
  | x :: a, y :: b => by
    rw [befF, befF]
    by_cases h : x = y
    · subst h
      rw [if_pos rfl, if_pos rfl]
      rcases bef_tri a b with h | h | h
      · exact .inl h
      · exact .inr (.inl (by rw [h]))
      · exact .inr (.inr h)
    · rw [if_neg h, if_neg (fun e => h e.symm)]
      rcases Int.lt_or_gt_of_ne h with h | h
      · exact .inl (decide_eq_true h)
      · exact .inr (.inr (decide_eq_true h))
theorem bef_trans : ∀ a b c : List Int, befF a b = true → befF b c = true → befF a c = true
  | [], b, [], h, k => by cases b <;> simp [befF] at h k
  | [], _, _ :: _, _, _ => rfl
  | x :: a, [], c, h, _ => by simp [befF] at h
  | x :: a, y :: b, [], _, k => by simp [befF] at k
  | x :: a, y :: b, z :: c, h, k => by
    rw [befF] at h k ⊢
    by_cases h1 : x = y
    · subst h1
      rw [if_pos rfl] at h
      by_cases h2 : x = z
      · rw [if_pos h2] at k ⊢; exact bef_trans a b c h k
      · rw [if_neg h2] at k ⊢; exact k
    · rw [if_neg h1] at h
      have h := of_decide_eq_true h
      by_cases h2 : y = z
      · subst h2
        rw [if_neg h1]; exact decide_eq_true h
      · rw [if_neg h2] at k
        have k := of_decide_eq_true k
        rw [if_neg (by omega)]; exact decide_eq_true (by omega)
def Ahead (a b : List Int) : Prop := a.length < b.length ∨ (a.length = b.length ∧ befF a b = true)
theorem Ahead.irr {a : List Int} : ¬ Ahead a a := fun h => by
  rcases h with h | h
  · omega
  · rw [bef_irr] at h; cases h.2
theorem Ahead.trans {a b c : List Int} (h : Ahead a b) (k : Ahead b c) : Ahead a c := by
  rcases h with h | h <;> rcases k with k | k
  · exact .inl (by omega)
  · exact .inl (by omega)
  · exact .inl (by omega)
  · exact .inr ⟨by omega, bef_trans _ _ _ h.2 k.2⟩
theorem Ahead.tri (a b : List Int) : Ahead a b ∨ a = b ∨ Ahead b a := by
  by_cases h : a.length = b.length
  · rcases bef_tri a b with k | k | k
    · exact .inl (.inr ⟨h, k⟩)
    · exact .inr (.inl k)
    · exact .inr (.inr (.inr ⟨h.symm, k⟩))
  · by_cases h2 : a.length < b.length
    · exact .inl (.inl h2)
    · exact .inr (.inr (.inl (by omega)))
def listL (n : Nat) (L : Nat → Bool) : List Int := ((List.range n).filter L).map Int.ofNat
theorem listL_congr {n : Nat} {L K : Nat → Bool} (h : ∀ i, i < n → L i = K i) : listL n L = listL n K := by
  unfold listL
  congr 1
  exact List.filter_congr fun i hi => h i (List.mem_range.1 hi)
def setK (L : Nat → Bool) : Nat → Nat
  | 0 => 0
  | n + 1 => if L n then 2 ^ n + setK L n else setK L n
theorem setK_lt (L : Nat → Bool) : ∀ n, setK L n < 2 ^ n
  | 0 => by simp [setK]
  | n + 1 => by
    have := setK_lt L n
    rw [setK, Nat.pow_succ]; split <;> omega
theorem setK_bit (L : Nat → Bool) : ∀ n i, i < n → (setK L n).testBit i = L i
  | 0, i, h => by omega
  | n + 1, i, h => by
    rw [setK]
    by_cases e : i = n
    · subst e
      cases hl : L i with
      | true => simp [Nat.testBit_two_pow_add_eq, Nat.testBit_lt_two_pow (setK_lt L i)]
      | false => simp [Nat.testBit_lt_two_pow (setK_lt L i)]
    · have hlt : i < n := by omega
      cases hl : L n with
      | true => simp [Nat.testBit_two_pow_add_gt hlt, setK_bit L n i hlt]
      | false => simp [setK_bit L n i hlt]
theorem rising_cons {n last i : Int} {l : List Int} : risingF n last (i :: l) = true ↔ (last + 1 ≤ i ∧ i ≤ n - 1) ∧ risingF n i l = true := by
  rw [risingF, c_and, Bool.and_eq_true, wi_iff]
theorem rising_mono {n a b : Int} (h : b ≤ a) : ∀ {l : List Int}, risingF n a l = true → risingF n b l = true
  | [], _ => rfl
  | i :: l, h1 => by
    rw [rising_cons] at *
    exact ⟨⟨by omega, h1.1.2⟩, h1.2⟩
theorem rising_filter (n : Nat) (L : Nat → Bool) : ∀ (c m : Nat), m + c = n → risingF n ((m : Int) - 1) (((List.range' m c).filter L).map Int.ofNat) = true
  | 0, m, _ => rfl
  | c + 1, m, h => by
    have ih := rising_filter n L c (m + 1) (by omega)
    rw [List.range'_succ, List.filter_cons]
    split
    · rw [List.map_cons, rising_cons]
      refine ⟨⟨by simp, by simp; omega⟩, ?_⟩
      have e : (((m + 1 : Nat) : Int) - 1) = Int.ofNat m := by simp
      rw [e] at ih; exact ih
    · exact rising_mono (by omega) ih
theorem rising_list (n : Nat) (L : Nat → Bool) : risingF n (-1) (listL n L) = true := by
  have := rising_filter n L n 0 (by omega)
  unfold listL
  rw [List.range_eq_range']
  exact this
theorem rising_gt {n : Int} : ∀ {l : List Int} {a : Int}, risingF n a l = true → ∀ i ∈ l, a < i ∧ i < n
  | [], _, _, _, h => by cases h
  | x :: l, a, h, i, hi => by
    rw [rising_cons] at h
    rcases List.mem_cons.1 hi with rfl | hi
    · omega
    · have := rising_gt h.2 i hi; omega
theorem rising_back (n : Nat) : ∀ (c m : Nat) (l : List Int), m + c = n → risingF n ((m : Int) - 1) l = true → ((List.range' m c).filter fun i : Nat => l.contains (i : Int)).map Int.ofNat = l
  | 0, m, l, h, hr => by
    cases l with
    | nil => rfl
    | cons x l =>
      rw [rising_cons] at hr; omega
  | c + 1, m, l, h, hr => by
    rw [List.range'_succ, List.filter_cons]
    cases l with
    | nil =>
      have ih := rising_back n c (m + 1) [] (by omega) rfl
      rw [if_neg (by simp)]; exact ih
    | cons x l =>
      rw [rising_cons] at hr
      by_cases e : x = (m : Int)
      · subst e
        have hl := rising_gt hr.2
        have ih := rising_back n c (m + 1) l (by omega) (by rw [show (((m + 1 : Nat) : Int) - 1) = (m : Int) by omega]; exact hr.2)
        rw [if_pos (by simp), List.map_cons]
        have e2 : ((List.range' (m + 1) c).filter fun i : Nat => ((m : Int) :: l).contains (i : Int)) = (List.range' (m + 1) c).filter fun i : Nat => l.contains (i : Int) := List.filter_congr fun i hi => by
          have := List.mem_range'_1.1 hi
          rw [List.contains_cons]
          have : ((i : Int) == (m : Int)) = false := by simp; omega
          rw [this, Bool.false_or]
        rw [e2, ih]; rfl
      · have hm : ((x :: l).contains (m : Int)) = false := by
          cases e2 : (x :: l).contains (m : Int) with
          | false => rfl
          | true =>
            rcases List.mem_cons.1 (List.contains_iff_mem.1 e2) with h3 | h3
            · exact absurd h3.symm e
            · have := rising_gt hr.2 _ h3; omega
        rw [hm, if_neg (by decide)]
        refine rising_back n c (m + 1) (x :: l) (by omega) ?_
        rw [rising_cons]
        exact ⟨⟨by omega, hr.1.2⟩, hr.2⟩
theorem rising_set {n : Nat} {l : List Int} (h : risingF n (-1) l = true) : listL n (fun i => l.contains (i : Int)) = l := by
  unfold listL
  rw [List.range_eq_range']
  exact rising_back n n 0 l (by omega) h
theorem memL_setK (L : Nat → Bool) {n : Nat} (hn : n ≤ 8) : memL (setK L n : Int) n = listL n L := by
  have h1 := setK_lt L n
  have h2 : 2 ^ n ≤ 2 ^ 8 := Nat.pow_le_pow_right (by decide) hn
  show listL n (bitI (setK L n : Int)) = _
  exact listL_congr fun i hi => by rw [bitI_test (by omega) (by omega)]; exact setK_bit L n i hi
theorem memL_nil (n : Nat) : memL 0 n = [] := by
  unfold memL
  rw [List.map_eq_nil_iff, List.filter_eq_nil_iff]
  intro i _
  unfold bitI
  rw [Int.zero_fdiv]
  decide
theorem set_of {n : Nat} (hn : n ≤ 8) {l : List Int} (h1 : l ≠ []) (h2 : risingF n (-1) l = true) : ∃ q : Nat, 1 ≤ q ∧ q < 2 ^ n ∧ memL (q : Int) n = l := by
  have e := memL_setK (fun i => l.contains (i : Int)) hn
  rw [rising_set h2] at e
  have hlt := setK_lt (fun i => l.contains (i : Int)) n
  refine ⟨setK (fun i => l.contains (i : Int)) n, Nat.one_le_iff_ne_zero.2 fun h0 => ?_, by omega, e⟩
  rw [h0] at e
  exact h1 (by rw [← e]; exact memL_nil n)
theorem memL_rising {n q : Nat} : risingF n (-1) (memL (q : Int) n) = true := rising_list n (bitI q)
end Go.AL.Q

namespace Go.Proofs.Ytohbjneaaahpcaa
open Go Go.AL Go.AL.Q Go.AL.Sh
theorem Trk.hours {s : Sea} (ho : s.Ok) {T : List Nat} (h : Trk s T) : (T.length : Int) = s.hours := by have := hrs_pos ho; have := h.len; omega
end Go.Proofs.Ytohbjneaaahpcaa

namespace Go.Proofs.Ytohbjneaaahpcaa
open Go Go.AL Go.AL.Q Go.AL.Sh
structure NextIs (w : Int) (G : List Int) (casts : List Sp) (k : Nat) (p : Int × Int) : Prop where
  i : ∃ i : Nat, p.1 = i ∧ i < k ∧ p.2 = worstF w G (casts.getD i ⟨0, 0⟩)
  ge : ∀ j : Nat, j < k → p.2 ≤ worstF w G (casts.getD j ⟨0, 0⟩) ∧ ((j : Int) < p.1 → p.2 < worstF w G (casts.getD j ⟨0, 0⟩))
def lastI (l : List Int) : Int := l.getLast?.getD (-1)
theorem fromN_last {l : List Int} (h : ∀ i ∈ l, 0 ≤ i) : (fromN l : Int) = lastI l + 1 := by
  unfold fromN lastI
  cases e : l.getLast? with
  | none => rfl
  | some x =>
    have := h x (List.mem_of_getLast? e)
    simp only [Option.getD_some]; omega
theorem lastI_snoc (l : List Int) (x : Int) : lastI (l ++ [x]) = x := by unfold lastI; rw [List.getLast?_concat]; rfl
structure Rd (n f : Nat) (last : Int) (m : List Int) : Prop where
  len : m.length = f
  ri : risingF n last m = true
structure ChT (fd : List Int → Bool) (n f : Nat) (l : List Int) (r : Cst) : Prop where
  t : r.1 = true → ∃ m, Rd n f (lastI l) m ∧ r.2 = l ++ m ∧ fd (l ++ m) = true ∧ ∀ m', Rd n f (lastI l) m' → fd (l ++ m') = true → Q.befF m' m = false
  f : r.1 = false → ∀ m', Rd n f (lastI l) m' → fd (l ++ m') = false
structure GoT (fd : List Int → Bool) (n f : Nat) (l : List Int) (is : List Nat) (r : Cst) : Prop where
  t : r.1 = true → ∃ i ∈ is, ∃ m, Rd n f i m ∧ r.2 = l ++ (i : Int) :: m ∧ fd (l ++ (i : Int) :: m) = true ∧ ∀ i' ∈ is, ∀ m', Rd n f i' m' → fd (l ++ (i' : Int) :: m') = true → Q.befF ((i' : Int) :: m') ((i : Int) :: m) = false
  f : r.1 = false → ∀ i' ∈ is, ∀ m', Rd n f i' m' → fd (l ++ (i' : Int) :: m') = false
theorem chGo_is {fd : List Int → Bool} {n f : Nat} {l : List Int} {rec : List Int → List Int → Cst} (hrec : ∀ (i : Nat) (o : List Int), ChT fd n f (l ++ [(i : Int)]) (rec (l ++ [(i : Int)]) o)) : ∀ (is : List Nat) (o : List Int), is.Pairwise (· < ·) → GoT fd n f l is (chGo rec l is o)
  | [], o, _ => ⟨(fun h => by cases h), (fun _ i' h => by cases h)⟩
  | i :: is, o, hp => by
    have h1 := hrec i o
    have hap : ∀ m, l ++ [(i : Int)] ++ m = l ++ (i : Int) :: m := fun m => by simp
    rw [chGo]
    split
    · rename_i ht
      obtain ⟨m, k1, k2, k3, k4⟩ := h1.t ht
      rw [lastI_snoc] at k1 k4
      refine ⟨fun _ => ⟨i, by simp, m, k1, by rw [k2, hap], by rw [← hap]; exact k3, fun i' hi' m' hm' hfd => ?_⟩, fun h => by rw [ht] at h; cases h⟩
      rcases List.mem_cons.1 hi' with rfl | h
      · rw [Q.befF, if_pos rfl]; exact k4 m' hm' (by rw [hap]; exact hfd)
      · have := (List.pairwise_cons.1 hp).1 i' h
        rw [Q.befF, if_neg (by omega)]; exact decide_eq_false (by omega)
    · rename_i ht
      have ht : (rec (l ++ [(i : Int)]) o).1 = false := by simpa using ht
      have hno := h1.f ht
      rw [lastI_snoc] at hno
      have ih := chGo_is hrec is (rec (l ++ [(i : Int)]) o).2 (List.pairwise_cons.1 hp).2
      refine ⟨fun h => ?_, fun h i' hi' m' hm' => ?_⟩
      · obtain ⟨j, k0, m, k1, k2, k3, k4⟩ := ih.t h
        refine ⟨j, by simp [k0], m, k1, k2, k3, fun i' hi' m' hm' hfd => ?_⟩
        rcases List.mem_cons.1 hi' with rfl | h
        · have := hno m' hm'; rw [hap, hfd] at this; cases this
        · exact k4 i' h m' hm' hfd
      · rcases List.mem_cons.1 hi' with rfl | h2
        · rw [← hap]; exact hno m' hm'
        · exact ih.f h i' h2 m' hm'
theorem range_drop_mem {n a i : Nat} : i ∈ (List.range n).drop a ↔ a ≤ i ∧ i < n := by
  rw [List.range_eq_range', List.drop_range', List.mem_range']
  constructor
  · rintro ⟨j, h1, rfl⟩; omega
  · rintro ⟨h1, h2⟩; exact ⟨i - a, by omega, by omega⟩
theorem chF_is (fd : List Int → Bool) (n : Nat) : ∀ (f : Nat) (l o : List Int), (∀ i ∈ l, 0 ≤ i) → ChT fd n f l (chF fd n f l o)
  | 0, l, o, _ => by
    have hn : ∀ m, Rd n 0 (lastI l) m → m = [] := fun m h => List.eq_nil_of_length_eq_zero h.len
    refine ⟨fun h => ⟨[], ⟨rfl, rfl⟩, by simp [chF], by simpa [chF] using h, fun m' h' _ => by rw [hn m' h']; rfl⟩, fun h m' h' => ?_⟩
    rw [hn m' h', List.append_nil]; exact h
  | f + 1, l, o, hl => by
    rw [chF]
    have hl1 : ∀ i : Nat, ∀ x ∈ l ++ [(i : Int)], 0 ≤ x := fun i x hx => by
      rcases List.mem_append.1 hx with h | h
      · exact hl x h
      · simp at h; omega
    have key := chGo_is (fd := fd) (n := n) (f := f) (l := l) (rec := chF fd n f) (fun i o => chF_is fd n f _ o (hl1 i)) ((List.range n).drop (fromN l)) o (List.Pairwise.sublist (List.drop_sublist _ _) List.pairwise_lt_range)
    have hfr := fromN_last hl
    have sp : ∀ m, Rd n (f + 1) (lastI l) m → ∃ i : Nat, ∃ m2, m = (i : Int) :: m2 ∧ i ∈ (List.range n).drop (fromN l) ∧ Rd n f i m2 := fun m hm => by
      cases m with
      | nil => have := hm.len; simp at this
      | cons x m2 =>
        have h1 := hm.ri
        rw [risingF] at h1
        have h2 := wi_iff.1 (ac1 h1)
        have hx : ((x.toNat : Nat) : Int) = x := by omega
        refine ⟨x.toNat, m2, by rw [hx], range_drop_mem.2 ⟨by omega, by omega⟩, ⟨by have := hm.len; simpa using this, by rw [hx]; exact ac2 h1⟩⟩
    have sp2 : ∀ (i : Nat) m2, i ∈ (List.range n).drop (fromN l) → Rd n f i m2 → Rd n (f + 1) (lastI l) ((i : Int) :: m2) := fun i m2 hi hm => by
      have := range_drop_mem.1 hi
      refine ⟨by simp [hm.len], ?_⟩
      rw [risingF, wi_iff.2 (by omega), hm.ri]; rfl
    refine ⟨fun h => ?_, fun h m' hm' => ?_⟩
    · obtain ⟨i, k0, m, k1, k2, k3, k4⟩ := key.t h
      refine ⟨(i : Int) :: m, sp2 i m k0 k1, k2, k3, fun m' hm' hfd => ?_⟩
      obtain ⟨i', m2, rfl, q1, q2⟩ := sp m' hm'
      exact k4 i' q1 m2 q2 hfd
    · obtain ⟨i', m2, rfl, q1, q2⟩ := sp m' hm'
      exact key.f h i' q1 m2 q2
structure SureIs (fd : List Int → Bool) (n : Nat) (o : List Int) : Prop where
  ri : risingF n (-1) o = true
  ok : fd o = true
  pos : 1 ≤ o.length
  first : ∀ o', o' ≠ [] → risingF n (-1) o' = true → fd o' = true → o.length < o'.length ∨ o'.length = o.length ∧ Q.befF o' o = false
theorem suGo_is (fd : List Int → Bool) (n : Nat) : ∀ (ks : List Nat) (a : Nat) (o : List Int), ks = (List.range n).drop a → (∀ o', o' ≠ [] → risingF n (-1) o' = true → fd o' = true → a < o'.length) →
    match suGo fd n ks o with
    | some r => SureIs fd n r
    | none => ∀ o', o' ≠ [] → risingF n (-1) o' = true → fd o' = false
  | [], a, o, hk, hb => by
    rw [suGo]
    intro o' h1 h2
    rw [← Bool.not_eq_true]
    intro h3
    have h4 := hb o' h1 h2 h3
    have h5 := (rising_in h2 (by omega) (by cases o' with | nil => exact absurd rfl h1 | cons x o' => have := wi_iff.1 (ac1 (show cond _ _ false = true from h2)); omega)).2
    have : n ≤ a := by
      have := congrArg List.length hk
      simp at this; omega
    omega
  | k :: ks, a, o, hk, hb => by
    have ha : a < n := by
      have := congrArg List.length hk
      simp at this; omega
    have hk2 : (List.range n).drop a = a :: (List.range n).drop (a + 1) := by
      rw [List.drop_eq_getElem_cons (by simpa using ha)]; simp
    rw [hk2] at hk
    simp only [List.cons.injEq] at hk
    obtain ⟨rfl, hks⟩ := hk
    have key := chF_is fd n (k + 1) [] o (fun _ h => by cases h)
    rw [suGo]
    split
    · rename_i r hr
      split at hr
      · rename_i ht
        cases hr
        obtain ⟨m, k1, k2, k3, k4⟩ := key.t ht
        rw [List.nil_append] at k2 k3
        rw [k2]
        refine ⟨k1.ri, k3, by rw [k1.len]; omega, fun o' h1 h2 h3 => ?_⟩
        have h4 := hb o' h1 h2 h3
        rcases Nat.lt_or_ge (k + 1) o'.length with h5 | h5
        · left; rw [k1.len]; exact h5
        · right
          have e : o'.length = k + 1 := by omega
          exact ⟨by rw [k1.len, e], k4 o' ⟨e, h2⟩ h3⟩
      · rename_i ht
        have ht : (chF fd n (k + 1) [] o).1 = false := by simpa using ht
        have ih := suGo_is fd n ks (k + 1) (chF fd n (k + 1) [] o).2 hks (fun o' h1 h2 h3 => by
          have h4 := hb o' h1 h2 h3
          rcases Nat.lt_or_ge (k + 1) o'.length with h5 | h5
          · exact h5
          · have := key.f ht o' ⟨by omega, h2⟩
            rw [List.nil_append, h3] at this; cases this)
        rw [hr] at ih
        exact ih
    · rename_i hr
      split at hr
      · cases hr
      · rename_i ht
        have ht : (chF fd n (k + 1) [] o).1 = false := by simpa using ht
        have ih := suGo_is fd n ks (k + 1) (chF fd n (k + 1) [] o).2 hks (fun o' h1 h2 h3 => by
          have h4 := hb o' h1 h2 h3
          rcases Nat.lt_or_ge (k + 1) o'.length with h5 | h5
          · exact h5
          · have := key.f ht o' ⟨by omega, h2⟩
            rw [List.nil_append, h3] at this; cases this)
        rw [hr] at ih
        exact ih
theorem su_is (fd : List Int → Bool) (n : Nat) : match suGo fd n (List.range n) [] with
    | some r => SureIs fd n r
    | none => ∀ o', o' ≠ [] → risingF n (-1) o' = true → fd o' = false :=
  suGo_is fd n _ 0 [] rfl fun o' h _ _ => by cases o' with | nil => exact absurd rfl h | cons x o' => simp
theorem memL_rising (x : Int) (n : Nat) : risingF n (-1) (memL x n) = true := by
  unfold memL
  exact rising_of (List.Pairwise.filter _ List.pairwise_lt_range) (fun x _ => by omega) fun x hx => by
    have := List.mem_range.1 (List.mem_filter.1 hx).1; omega
end Go.Proofs.Ytohbjneaaahpcaa

namespace Go.Proofs.Ytohbjneaaahpcaa
open Go Go.AL Go.AL.Q Go.AL.Sh
end Go.Proofs.Ytohbjneaaahpcaa

namespace Go.Proofs.Ytohbjneaaahpcaa
open Go Go.AL Go.AL.Q Go.AL.Sh
end Go.Proofs.Ytohbjneaaahpcaa

namespace Go.Proofs.Ytohbjneaaahpcaa
open Go Go.AL Go.AL.Q Go.AL.Sh
theorem b0_many {s : Sea} (h : s.b0 = true) : 0 ≤ s.wide * s.high ∧ s.wide * s.high ≤ 80 := by
  obtain ⟨a, b, _⟩ := Sea.b0_ok h
  have m1 : 0 ≤ s.wide * s.high := Int.mul_nonneg (by omega) (by omega)
  have m2 : s.wide * s.high ≤ 10 * 8 := Int.mul_le_mul a.2 b.2 (by omega) (by omega)
  omega
theorem rcheck_t (s : Sea) (hf : SeaFit s) : Ans Try.prog 19 [.agg s.c] (.int s.chk) := by
  have h1 := hf.l
  have h2 := hf.d
  have ld : ((s.drift.map Sp.c).length : Int) = s.drift.length := by simp
  have us : ∀ {m : Nat}, Under m (A.pt s.c) := (Free.pt _ s.free).under
  refine told Try.func19 rfl rfl (Pure.of tab_ok Try.func19 rfl Try.ntmps19 rfl (all1 (.agg _ s.free)) (all1 (fun _ => rfl)) (by first | exact .s _ | assumption | exact .tup _ (by intro x hx; simp only [List.mem_cons, List.not_mem_nil, or_false] at hx; rcases hx with rfl | rfl | rfl | rfl <;> first | exact .s _ | (simp_all; done))) fun E hE => ?_)
  refine Aw.sm tab_ok mb0 [] rfl rfl ?zo ?zk
  case zo =>
    repeat' apply AllP.cons
    all_goals first | exact trivial
  case zk =>
  refine Aw.sm tab_ok mb0 [(2, [.bool (wi s.wide 1 10)]), (6, [.bool (wi s.high 1 8)]), (11, [.bool (wi s.speed 0 2)]), (16, [.bool (wi s.hours 1 12)])] rfl rfl ?zo ?zk
  case zo =>
    repeat' apply AllP.cons
    all_goals first | exact trivial | exact id | exact fun _ => rfl | exact Nat.le_of_ble_eq_true rfl | exact fun _ => Nat.le_of_ble_eq_true rfl | exact in_t _ _ _ | exact (in_t _ _ _).un | exact fun h => (by have := wi_iff.1 (ac2 h); simp only [Ob.of, inR]; omega)
  case zk =>
  have hb : A.bool s.b0 = A.bool (cond (cond (cond (cond (wi s.wide 1 10) (wi s.high 1 8) false) (wi s.speed 0 2) false) (wi s.hours 1 12) false) (((s.drift.map Sp.c).length : Int) == s.hours - 1) false) := by rw [ld]; rfl
  refine Aw.keep (n := 0) (cst := [(1, .pt s.c), (3, .bool s.b0)]) (v := []) (Hl := []) hE ?zu ?zw ?zx ⟨?zc, ?zv, ?zh, Nat.le_of_ble_eq_true rfl⟩ ?zr
  case zu =>
    (repeat' (first | exact trivial | exact Under.s _ | exact Under.un | assumption | exact (free_ints _ _ _).under | exact Under.ref _ _ (by decide) | exact Under.ms _ _ _ (by decide) | exact Under.mp _ (by decide) | exact (Free.agg _ (by assumption)).under | exact (Free.pt _ (by assumption)).under | exact grL_under _ | exact outA_under _ | exact Nat.le_of_ble_eq_true rfl | exact (fun _ _ => rfl) | exact us | exact .of_eq hb | (refine And.intro ?_ ?_)))
  case zw =>
    (repeat' (first | exact trivial | exact Under.s _ | exact Under.un | assumption | exact (free_ints _ _ _).under | exact Under.ref _ _ (by decide) | exact Under.ms _ _ _ (by decide) | exact Under.mp _ (by decide) | exact (Free.agg _ (by assumption)).under | exact (Free.pt _ (by assumption)).under | exact grL_under _ | exact outA_under _ | exact Nat.le_of_ble_eq_true rfl | exact (fun _ _ => rfl) | exact us | exact .of_eq hb | (refine And.intro ?_ ?_)))
  case zx =>
    (repeat' (first | exact trivial | exact Under.s _ | exact Under.un | assumption | exact (free_ints _ _ _).under | exact Under.ref _ _ (by decide) | exact Under.ms _ _ _ (by decide) | exact Under.mp _ (by decide) | exact (Free.agg _ (by assumption)).under | exact (Free.pt _ (by assumption)).under | exact grL_under _ | exact outA_under _ | exact Nat.le_of_ble_eq_true rfl | exact (fun _ _ => rfl) | exact us | exact .of_eq hb | (refine And.intro ?_ ?_)))
  case zc =>
    (repeat' (first | (refine And.intro ?_ ?_) | exact trivial | exact A.Le.refl _ | exact rfl | exact us | exact .of_eq hb))
  case zv =>
    (repeat' (first | (refine And.intro ?_ ?_) | exact trivial | exact A.Le.refl _ | exact rfl | exact us | exact .of_eq hb))
  case zh =>
    (repeat' (first | (refine And.intro ?_ ?_) | exact trivial | exact A.Le.refl _ | exact rfl | exact us | exact .of_eq hb))
  case zr =>
  have hris : s.b0 = true → Ans Try.prog 36 [.sl s.ln .any (ints s.land), .int (s.wide * s.high)] (.bool (risingF (s.wide * s.high) (-1) s.land)) := fun h => rising_t s.land s.ln _ (by omega) (by have := b0_many h; omega)
  have hb1 : s.b1 = cond s.b0 (risingF (s.wide * s.high) (-1) s.land) false := rfl
  generalize risingF (s.wide * s.high) (-1) s.land = rv at *
  have hmm : s.b0 = true → inR (s.wide * s.high) := fun h => by have := b0_many h; simp only [inR]; omega
  refine Aw.sm tab_ok mb0 [(9, [.bool rv])] rfl rfl ?zo ?zk
  case zo =>
    repeat' apply AllP.cons
    all_goals first | exact trivial | exact id | exact fun _ => rfl | exact fun _ => Nat.le_of_ble_eq_true rfl | exact hris | exact hmm
  case zk =>
  refine Aw.seq ?_
  refine Aw.sm tab_ok mb0 [] rfl rfl ?zo ?zk
  case zo =>
    repeat' apply AllP.cons
    all_goals first | exact trivial
  case zk =>
  refine Aw.block (Aw.rounds 0 hE [(1, .pt s.c)] (fun k : Nat => [(3, .bool (andAll s.b1 Sea.stepOk s.drift k)), (4, .int k)]) (fun k => []) (fun k => k ≤ s.drift.length) (fun k => s.drift.length - k) 0 ?zg ⟨?zc, ?zv, ?zh, Nat.le_of_ble_eq_true rfl⟩ ?zu (fun k zhk => ?zw) (fun k zhk => ?zx) fun k hk => ?zr)
  case zg =>
    (repeat' (first | exact Nat.zero_le _ | exact Nat.le_refl _ | exact trivial | exact us | exact .of_eq (by rw [andAll_zero, hb1]; rfl) | (refine And.intro ?_ ?_)))
  case zc =>
    (repeat' (first | (refine And.intro ?_ ?_) | exact trivial | exact A.Le.refl _ | exact rfl | exact us | exact .of_eq (by rw [andAll_zero, hb1]; rfl)))
  case zv =>
    (repeat' (first | (refine And.intro ?_ ?_) | exact trivial | exact A.Le.refl _ | exact rfl | exact us | exact .of_eq (by rw [andAll_zero, hb1]; rfl)))
  case zh =>
    (repeat' (first | (refine And.intro ?_ ?_) | exact trivial | exact A.Le.refl _ | exact rfl | exact us | exact .of_eq (by rw [andAll_zero, hb1]; rfl)))
  case zu =>
    (repeat' (first | exact trivial | exact Under.s _ | exact Under.un | assumption | exact (free_ints _ _ _).under | exact Under.ref _ _ (by decide) | exact Under.ms _ _ _ (by decide) | exact Under.mp _ (by decide) | exact (Free.agg _ (by assumption)).under | exact (Free.pt _ (by assumption)).under | exact grL_under _ | exact outA_under _ | exact Nat.le_of_ble_eq_true rfl | exact (fun _ _ => rfl) | exact us | exact .of_eq (by rw [andAll_zero, hb1]; rfl) | (refine And.intro ?_ ?_)))
  case zw =>
    (repeat' (first | exact trivial | exact Under.s _ | exact Under.un | assumption | exact (free_ints _ _ _).under | exact Under.ref _ _ (by decide) | exact Under.ms _ _ _ (by decide) | exact Under.mp _ (by decide) | exact (Free.agg _ (by assumption)).under | exact (Free.pt _ (by assumption)).under | exact grL_under _ | exact outA_under _ | exact Nat.le_of_ble_eq_true rfl | exact (fun _ _ => rfl) | exact us | exact .of_eq (by rw [andAll_zero, hb1]; rfl) | (refine And.intro ?_ ?_)))
  case zx =>
    (repeat' (first | exact trivial | exact Under.s _ | exact Under.un | assumption | exact (free_ints _ _ _).under | exact Under.ref _ _ (by decide) | exact Under.ms _ _ _ (by decide) | exact Under.mp _ (by decide) | exact (Free.agg _ (by assumption)).under | exact (Free.pt _ (by assumption)).under | exact grL_under _ | exact outA_under _ | exact Nat.le_of_ble_eq_true rfl | exact (fun _ _ => rfl) | exact us | exact .of_eq (by rw [andAll_zero, hb1]; rfl) | (refine And.intro ?_ ?_)))
  case zr =>
  refine Aw.seq ?_
  refine Aw.sm tab_ok mb0 [] rfl rfl ?zo ?zk
  case zo =>
    repeat' apply AllP.cons
    all_goals first | exact trivial | exact id | exact fun _ => rfl | exact fun _ => Nat.le_of_ble_eq_true rfl
  case zk =>
  refine Aw.cond rfl (fun h1 => Aw.skip ?_) (fun h1 => ?_)
  · have h1 : cond (andAll s.b1 Sea.stepOk s.drift k) (decide ((k : Int) < ((s.drift.map Sp.c).length : Int))) false = true := h1
    have hbk := ac1 h1
    have hlt : k < s.drift.length := by have := of_decide_eq_true (ac2 h1); omega
    have hget := get_map (f := Sp.c) hlt
    have e := andAll_succ hlt hbk
    have hso : Sea.stepOk s.drift[k] = cond (wi s.drift[k].lo (-2) 2) (wi s.drift[k].hi (-2) 2) false := rfl
    rw [hso] at e
    generalize s.drift[k] = d at *
    refine Aw.seq (Aw.block ?_)
    refine Aw.em tab_ok mb0 [(3, d.c), (6, [.bool (wi d.lo (-2) 2)]), (11, d.c), (14, [.bool (wi d.hi (-2) 2)])] rfl rfl ?zo ?zk
    case zo =>
      repeat' apply AllP.cons
      all_goals first | exact trivial | exact id | exact rfl | exact fun _ => rfl | exact Nat.le_of_ble_eq_true rfl | exact fun _ => Nat.le_of_ble_eq_true rfl | exact Int.natCast_nonneg _ | exact fun _ => Int.natCast_nonneg _ | exact in_t _ _ _ | exact (in_t _ _ _).un | exact hget | exact fun _ => hget
    case zk =>
    refine Aw.em tab_ok mb0 [] rfl rfl ?zo ?zk
    case zo =>
      repeat' apply AllP.cons
      all_goals first | exact trivial | exact inrk k (by omega)
    case zk =>
    refine ⟨k + 1, ?zg, ?zm, ⟨?zc, ?zv, ?zh, Nat.le_of_ble_eq_true rfl⟩⟩
    case zg =>
      (repeat' (first | assumption | omega | exact .of_eq (congrArg A.bool e) | (refine And.intro ?_ ?_)))
    case zm =>
      (repeat' (first | omega | exact .of_eq (congrArg A.bool e) | (refine And.intro ?_ ?_)))
    case zc =>
      (repeat' (first | (refine And.intro ?_ ?_) | exact trivial | exact A.Le.refl _ | exact rfl | exact .of_eq (congrArg A.bool e)))
    case zv =>
      (repeat' (first | (refine And.intro ?_ ?_) | exact trivial | exact A.Le.refl _ | exact rfl | exact .of_eq (congrArg A.bool e)))
    case zh =>
      (repeat' (first | (refine And.intro ?_ ?_) | exact trivial | exact A.Le.refl _ | exact rfl | exact .of_eq (congrArg A.bool e)))
  have h1 : cond (andAll s.b1 Sea.stepOk s.drift k) (decide ((k : Int) < ((s.drift.map Sp.c).length : Int))) false = false := h1
  have hend := andAll_end (b := s.b1) (p := Sea.stepOk) (l := s.drift) (k := k) (by
    cases e : andAll s.b1 Sea.stepOk s.drift k with
    | false => exact .inl rfl
    | true => rw [e] at h1; have := of_decide_eq_false h1; exact .inr (by omega)) hk
  have hok : cond s.b1 (s.drift.all Sea.stepOk) false = s.ok := rfl
  refine Aw.exit2 ?_
  rw [hend, hok]
  refine Aw.seq ?_
  refine Aw.sm tab_ok mb0 [] rfl rfl ?zo ?zk
  case zo =>
    repeat' apply AllP.cons
    all_goals first | exact trivial
  case zk =>
  refine Aw.cond rfl (fun h1 => ?_) (fun h1 => Aw.skip ?_)
  · have hno : s.ok = false := by simpa using h1
    refine Aw.sm tab_ok mb0 [] rfl rfl ?zo ?zk
    case zo =>
      repeat' apply AllP.cons
      all_goals first | exact trivial
    case zk =>
    exact Aw.ret ⟨_, .cons (.tmp _) .nil, by unfold Sea.chk; rw [hno]; rfl⟩
  · have hyes : s.ok = true := by simpa using h1
    refine Aw.sm tab_ok mb0 [] rfl rfl ?zo ?zk
    case zo =>
      repeat' apply AllP.cons
      all_goals first | exact trivial
    case zk =>
    exact Aw.ret ⟨_, .cons (.tmp _) .nil, by unfold Sea.chk; rw [hyes]; rfl⟩
def askR (s : Sea) (l : List Rep) : Int := if s.ok then if s.repsOk l then 0 else 11 else 10
theorem asked_r (s : Sea) (hf : SeaFit s) (b : Bool) (l : List Rep) (hl : (l.length : Int) ≤ 9223372036854775806) : Ans Try.prog 53 [.agg s.c, .sl b .any (l.map Rep.c)] (.int (askR s l)) := by
  have ll : ((l.map Rep.c).length : Int) = l.length := by simp
  have us : ∀ {m : Nat}, Under m (A.pt s.c) := (Free.pt _ s.free).under
  have ul : ∀ {m : Nat}, Under m (.sl b .any (l.map Rep.c)) := (free_map Rep.free _ _ _).under
  have hck := rcheck_t s hf
  refine told Try.func53 rfl rfl (Pure.of tab_ok Try.func53 rfl Try.ntmps53 rfl (allC (.agg _ s.free) (all1 (free_map Rep.free _ _ _))) (allC (fun _ => rfl) (all1 (fun _ => rfl))) (by first | exact .s _ | assumption | exact .tup _ (by intro x hx; simp only [List.mem_cons, List.not_mem_nil, or_false] at hx; rcases hx with rfl | rfl | rfl | rfl <;> first | exact .s _ | (simp_all; done))) fun E hE => ?_)
  refine Aw.sm tab_ok mb0 [] rfl rfl ?zo ?zk
  case zo =>
    repeat' apply AllP.cons
    all_goals first | exact trivial
  case zk =>
  refine Aw.seq ?_
  refine Aw.sm tab_ok mb0 [(1, [.int s.chk])] rfl rfl ?zo ?zk
  case zo =>
    repeat' apply AllP.cons
    all_goals first | exact trivial | exact Nat.le_of_ble_eq_true rfl | exact hck
  case zk =>
  refine Aw.sm tab_ok mb0 [] rfl rfl ?zo ?zk
  case zo =>
    repeat' apply AllP.cons
    all_goals first | exact trivial
  case zk =>
  cases hok : s.ok with
  | false =>
    have e : s.chk = 10 := by unfold Sea.chk; rw [hok]; rfl
    have e2 : askR s l = 10 := by unfold askR; rw [hok]; rfl
    rw [e, e2]
    refine Aw.cond rfl (fun _ => ?_) (fun h => absurd h (by decide))
    refine Aw.sm tab_ok mb0 [] rfl rfl ?zo ?zk
    case zo =>
      repeat' apply AllP.cons
      all_goals first | exact trivial
    case zk =>
    exact Aw.ret ⟨_, .cons (.tmp _) .nil, rfl⟩
  | true =>
  have e : s.chk = 0 := by unfold Sea.chk; rw [hok]; rfl
  have ho := Sea.ok_of hok
  have hm := ho.many
  have hmm : s.wide * s.high = s.many := rfl
  have hhr := ho.hr
  rw [e]
  refine Aw.cond rfl (fun h => absurd h (by decide)) (fun _ => Aw.skip ?_)
  refine Aw.sm tab_ok mb0 [] rfl rfl ?zo ?zk
  case zo =>
    repeat' apply AllP.cons
    all_goals first | exact trivial
  case zk =>
  refine Aw.seq ?_
  refine Aw.sm tab_ok mb0 [] rfl rfl ?zo ?zk
  case zo =>
    repeat' apply AllP.cons
    all_goals first | exact trivial
  case zk =>
  refine Aw.block (Aw.rounds 0 hE [(1, .sl b .any (l.map Rep.c)), (2, .pt s.c)] (fun k : Nat => [(6, .bool (andAll (decide (((l.map Rep.c).length : Int) ≤ 24)) s.repOk l k)), (7, .int k)]) (fun k => []) (fun k => k ≤ l.length) (fun k => l.length - k) 0 ?zg ⟨?zc, ?zv, ?zh, Nat.le_of_ble_eq_true rfl⟩ ?zu (fun k zhk => ?zw) (fun k zhk => ?zx) fun k hk => ?zr)
  case zg =>
    (repeat' (first | exact Nat.zero_le _ | exact Nat.le_refl _ | exact trivial | exact us | exact ul | exact .of_eq (by rw [andAll_zero]; rfl) | (refine And.intro ?_ ?_)))
  case zc =>
    (repeat' (first | (refine And.intro ?_ ?_) | exact trivial | exact A.Le.refl _ | exact rfl | exact us | exact ul | exact .of_eq (by rw [andAll_zero]; rfl)))
  case zv =>
    (repeat' (first | (refine And.intro ?_ ?_) | exact trivial | exact A.Le.refl _ | exact rfl | exact us | exact ul | exact .of_eq (by rw [andAll_zero]; rfl)))
  case zh =>
    (repeat' (first | (refine And.intro ?_ ?_) | exact trivial | exact A.Le.refl _ | exact rfl | exact us | exact ul | exact .of_eq (by rw [andAll_zero]; rfl)))
  case zu =>
    (repeat' (first | exact trivial | exact Under.s _ | exact Under.un | assumption | exact (free_ints _ _ _).under | exact Under.ref _ _ (by decide) | exact Under.ms _ _ _ (by decide) | exact Under.mp _ (by decide) | exact (Free.agg _ (by assumption)).under | exact (Free.pt _ (by assumption)).under | exact grL_under _ | exact outA_under _ | exact Nat.le_of_ble_eq_true rfl | exact (fun _ _ => rfl) | exact us | exact ul | exact .of_eq (by rw [andAll_zero]; rfl) | (refine And.intro ?_ ?_)))
  case zw =>
    (repeat' (first | exact trivial | exact Under.s _ | exact Under.un | assumption | exact (free_ints _ _ _).under | exact Under.ref _ _ (by decide) | exact Under.ms _ _ _ (by decide) | exact Under.mp _ (by decide) | exact (Free.agg _ (by assumption)).under | exact (Free.pt _ (by assumption)).under | exact grL_under _ | exact outA_under _ | exact Nat.le_of_ble_eq_true rfl | exact (fun _ _ => rfl) | exact us | exact ul | exact .of_eq (by rw [andAll_zero]; rfl) | (refine And.intro ?_ ?_)))
  case zx =>
    (repeat' (first | exact trivial | exact Under.s _ | exact Under.un | assumption | exact (free_ints _ _ _).under | exact Under.ref _ _ (by decide) | exact Under.ms _ _ _ (by decide) | exact Under.mp _ (by decide) | exact (Free.agg _ (by assumption)).under | exact (Free.pt _ (by assumption)).under | exact grL_under _ | exact outA_under _ | exact Nat.le_of_ble_eq_true rfl | exact (fun _ _ => rfl) | exact us | exact ul | exact .of_eq (by rw [andAll_zero]; rfl) | (refine And.intro ?_ ?_)))
  case zr =>
  refine Aw.seq ?_
  refine Aw.sm tab_ok mb0 [] rfl rfl ?zo ?zk
  case zo =>
    repeat' apply AllP.cons
    all_goals first | exact trivial | exact id | exact fun _ => rfl
  case zk =>
  refine Aw.cond rfl (fun h1 => Aw.skip ?_) (fun h1 => ?_)
  · have h1 : cond (andAll (decide (((l.map Rep.c).length : Int) ≤ 24)) s.repOk l k) (decide ((k : Int) < ((l.map Rep.c).length : Int))) false = true := h1
    have hbk := ac1 h1
    have hlt : k < l.length := by have := of_decide_eq_true (ac2 h1); omega
    have hget := get_map (f := Rep.c) hlt
    have e := andAll_succ hlt hbk
    have hso : s.repOk l[k] = cond (cond (wi l[k].hour 0 (s.hours - 1)) (wi l[k].cell 0 (s.wide * s.high - 1)) false) (wi l[k].far 0 9) false := rfl
    rw [hso] at e
    generalize l[k] = r at *
    refine Aw.seq (Aw.block ?_)
    refine Aw.ed tab_ok mixed mb0 [(2, r.c), (8, [.bool (wi r.hour 0 (s.hours - 1))]), (12, r.c), (21, [.bool (wi r.cell 0 (s.wide * s.high - 1))]), (26, r.c), (29, [.bool (wi r.far 0 9)])] rfl (by kernel_rfl) rfl rfl ?zo ?zk
    case zo =>
      repeat' apply AllP.cons
      all_goals first | exact trivial | exact id | exact rfl | exact fun _ => rfl | exact Nat.le_of_ble_eq_true rfl | exact fun _ => Nat.le_of_ble_eq_true rfl | exact Int.natCast_nonneg _ | exact fun _ => Int.natCast_nonneg _ | exact in_t _ _ _ | exact (in_t _ _ _).un | exact hget | exact fun _ => hget | exact (by simp only [Ob.of, inR]; omega)
    case zk =>
    refine Aw.em tab_ok mb0 [] rfl rfl ?zo ?zk
    case zo =>
      repeat' apply AllP.cons
      all_goals first | exact trivial | exact inrk k (by omega)
    case zk =>
    refine ⟨k + 1, ?zg, ?zm, ⟨?zc, ?zv, ?zh, Nat.le_of_ble_eq_true rfl⟩⟩
    case zg =>
      (repeat' (first | assumption | omega | exact .of_eq (congrArg A.bool e) | (refine And.intro ?_ ?_)))
    case zm =>
      (repeat' (first | omega | exact .of_eq (congrArg A.bool e) | (refine And.intro ?_ ?_)))
    case zc =>
      (repeat' (first | (refine And.intro ?_ ?_) | exact trivial | exact A.Le.refl _ | exact rfl | exact .of_eq (congrArg A.bool e)))
    case zv =>
      (repeat' (first | (refine And.intro ?_ ?_) | exact trivial | exact A.Le.refl _ | exact rfl | exact .of_eq (congrArg A.bool e)))
    case zh =>
      (repeat' (first | (refine And.intro ?_ ?_) | exact trivial | exact A.Le.refl _ | exact rfl | exact .of_eq (congrArg A.bool e)))
  have h1 : cond (andAll (decide (((l.map Rep.c).length : Int) ≤ 24)) s.repOk l k) (decide ((k : Int) < ((l.map Rep.c).length : Int))) false = false := h1
  have hend := andAll_end (b := decide (((l.map Rep.c).length : Int) ≤ 24)) (p := s.repOk) (l := l) (k := k) (by
    cases e : andAll (decide (((l.map Rep.c).length : Int) ≤ 24)) s.repOk l k with
    | false => exact .inl rfl
    | true => rw [e] at h1; have := of_decide_eq_false h1; exact .inr (by omega)) hk
  have hrk : cond (decide (((l.map Rep.c).length : Int) ≤ 24)) (l.all s.repOk) false = s.repsOk l := by rw [ll]; rfl
  refine Aw.exit2 ?_
  rw [hend, hrk]
  refine Aw.seq ?_
  refine Aw.sm tab_ok mb0 [] rfl rfl ?zo ?zk
  case zo =>
    repeat' apply AllP.cons
    all_goals first | exact trivial
  case zk =>
  refine Aw.cond rfl (fun h1 => ?_) (fun h1 => Aw.skip ?_)
  · have hno : s.repsOk l = false := by simpa using h1
    refine Aw.sm tab_ok mb0 [] rfl rfl ?zo ?zk
    case zo =>
      repeat' apply AllP.cons
      all_goals first | exact trivial
    case zk =>
    exact Aw.ret ⟨_, .cons (.tmp _) .nil, by unfold askR; rw [hok, hno]; rfl⟩
  · have hyes : s.repsOk l = true := by simpa using h1
    refine Aw.sm tab_ok mb0 [] rfl rfl ?zo ?zk
    case zo =>
      repeat' apply AllP.cons
      all_goals first | exact trivial
    case zk =>
    exact Aw.ret ⟨_, .cons (.tmp _) .nil, by unfold askR; rw [hok, hyes]; rfl⟩
end Go.Proofs.Ytohbjneaaahpcaa

namespace Go.Proofs.Ytohbjneaaahpcaa
open Go Go.AL Go.AL.Q Go.AL.Sh
theorem ref_fold {inf : Nat} {P : Nat → Nat → Prop} {nx : Nat → Int} {u : Nat → Nat} {ok : Nat → Bool} : ∀ (L : List Nat) (Q : Nat → Prop) (b : Int), MinIs inf Q b → (∀ o ∈ L, MinIs inf (P o) (nx o)) → (∀ n, Q n → n ≤ inf) → (∀ o ∈ L, ∀ n, P o n → n + u o < inf) →
    MinIs inf (fun n => Q n ∨ ∃ o ∈ L, ok o = true ∧ ∃ m, P o m ∧ n = m + u o) (L.foldl (fun b o => if nx o < inf ∧ ok o = true then gmin b (nx o + u o) else b) b)
  | [], Q, b, h, _, _, _ => h.congr fun n => by simp
  | o :: L, Q, b, h, hm, hQ, hP => by
    rw [List.foldl_cons]
    have ho := hm o (by simp)
    by_cases hc : nx o < inf ∧ ok o = true
    · rw [if_pos hc]
      have h1 : MinIs inf (fun n => ∃ m, P o m ∧ n = m + u o) (nx o + u o) := by
        rcases ho.or with ⟨e, _⟩ | ⟨m, e, p, q⟩
        · omega
        · exact ⟨.inr ⟨m + u o, by omega, ⟨m, p, rfl⟩, fun j ⟨k, hk, e2⟩ => by have := q k hk; omega⟩⟩
      refine (ref_fold L (fun n => Q n ∨ ∃ m, P o m ∧ n = m + u o) _ (h.min h1 hQ fun n ⟨m, k, e⟩ => by have := hP o (by simp) m k; omega) (fun x hx => hm x (by simp [hx])) (fun n k => k.elim (hQ n) fun ⟨m, k, e⟩ => by have := hP o (by simp) m k; omega) fun x hx => hP x (by simp [hx])).congr fun n => ?_
      simp only [List.mem_cons, exists_eq_or_imp, or_assoc, hc.2, true_and]
    · rw [if_neg hc]
      refine (ref_fold L Q b h (fun x hx => hm x (by simp [hx])) hQ fun x hx => hP x (by simp [hx])).congr fun n => ?_
      simp only [List.mem_cons, exists_eq_or_imp]
      have hno : ¬ (ok o = true ∧ ∃ m, P o m ∧ n = m + u o) := by
        rintro ⟨k1, m, k2, _⟩
        rcases ho.or with ⟨_, e⟩ | ⟨j, e, p, q⟩
        · exact e m k2
        · have := hP o (by simp) j p
          have h9 : ¬ nx o < inf := fun h => hc ⟨h, k1⟩
          omega
      constructor
      · rintro (h1 | h1)
        · exact .inl h1
        · exact .inr (.inr h1)
      · rintro (h1 | h1 | h1)
        · exact .inl h1
        · exact absurd h1 hno
        · exact .inr h1
def refB (s : Sea) (l : List Rep) (nx : List Int) (h c m : Nat) : Int := (List.range m).foldl (fun b o => if nx.getD o 0 < (1000 : Nat) ∧ stp s h c o = true then gmin b (unN s l h c + nx.getD o 0) else b) (1000 : Nat)
def refA (s : Sea) (l : List Rep) (pv : List Int) (h c m : Nat) : Int := (List.range m).foldl (fun b o => if pv.getD o 0 < (1000 : Nat) ∧ stp s h o c = true then gmin b (pv.getD o 0 + unN s l h o) else b) (1000 : Nat)
def behV (s : Sea) (l : List Rep) (nx : Option (List Int)) (h c : Nat) : Int := if watB s c then (match nx with | none => (unN s l h c : Int) | some nx => refB s l nx h c s.many.toNat) else 1000
def aheV (s : Sea) (l : List Rep) (pv : Option (List Int)) (h c : Nat) : Int := if watB s c then (match pv with | none => 0 | some pv => refA s l pv (h - 1) c s.many.toNat) else 1000
def rowK (val : Nat → Int) (n : Nat) : List Int := (List.range n).map val
theorem rowK_succ (val : Nat → Int) (n : Nat) : rowK val (n + 1) = rowK val n ++ [val n] := by unfold rowK; simp [List.range_succ]
theorem rowK_len (val : Nat → Int) (n : Nat) : (rowK val n).length = n := by simp [rowK]
theorem rowK_at (val : Nat → Int) {n c : Nat} (h : c < n) : (rowK val n).getD c 0 = val c := by simp [rowK, List.getD_eq_getElem?_getD, h]
def behR (s : Sea) (l : List Rep) : Nat → List Int
  | 0 => rowK (behV s l none (hrs s - 1)) s.many.toNat
  | j + 1 => rowK (behV s l (some (behR s l j)) (hrs s - 1 - (j + 1))) s.many.toNat
def aheR (s : Sea) (l : List Rep) : Nat → List Int
  | 0 => rowK (aheV s l none 0) s.many.toNat
  | h + 1 => rowK (aheV s l (some (aheR s l h)) (h + 1)) s.many.toNat
theorem wat_iff {s : Sea} (ho : s.Ok) (c : Nat) : watB s c = true ↔ c ∈ cellsL s := watB_nat ho c
theorem cells_many {s : Sea} (ho : s.Ok) {c : Nat} (h : c ∈ cellsL s) : c < s.many.toNat := List.mem_range.1 (List.mem_filter.1 h).1
theorem beh_min {s : Sea} (ho : s.Ok) {l : List Rep} (hl : l.length ≤ 24) : ∀ j, j < hrs s → ∀ c, c < s.many.toNat → MinIs 1000 (BwP s l (hrs s - 1 - j) c) ((behR s l j).getD c 0)
  | 0, hj, c, hc => by
    rw [behR, rowK_at _ hc]
    unfold behV
    by_cases hw : watB s c = true
    · rw [if_pos hw]
      have hm := (wat_iff ho c).1 hw
      have hh : hrs s - 1 + 1 = hrs s := by omega
      exact ⟨.inr ⟨unN s l (hrs s - 1) c, rfl, (BwP.last hh hm _).2 rfl, fun m h => by rw [(BwP.last hh hm _).1 h]; exact Nat.le_refl _⟩⟩
    · rw [if_neg hw]
      exact ⟨.inl ⟨rfl, fun n h => hw ((wat_iff ho c).2 h.mem)⟩⟩
  | j + 1, hj, c, hc => by
    rw [behR, rowK_at _ hc]
    unfold behV
    have hp := hrs_pos ho
    by_cases hw : watB s c = true
    · rw [if_pos hw]
      have hm := (wat_iff ho c).1 hw
      have ih := beh_min ho hl j (by omega)
      have key := ref_fold (inf := 1000) (P := fun o => BwP s l (hrs s - 1 - j) o) (nx := fun o => (behR s l j).getD o 0) (u := fun _ => unN s l (hrs s - 1 - (j + 1)) c) (ok := fun o => stp s (hrs s - 1 - (j + 1)) c o) (List.range s.many.toNat) (fun _ => False) 1000 MinIs.none
        (fun o ho' => ih o (List.mem_range.1 ho')) (fun n h => h.elim) fun o _ n hn => by have := hn.le hl; have := unN_le s hl (hrs s - 1 - (j + 1)) c; omega
      have e : refB s l (behR s l j) (hrs s - 1 - (j + 1)) c s.many.toNat = (List.range s.many.toNat).foldl (fun b o => if (behR s l j).getD o 0 < (1000 : Nat) ∧ stp s (hrs s - 1 - (j + 1)) c o = true then gmin b ((behR s l j).getD o 0 + unN s l (hrs s - 1 - (j + 1)) c) else b) (1000 : Nat) := by
        unfold refB
        simp only [Int.add_comm]
      show MinIs 1000 _ (refB s l (behR s l j) (hrs s - 1 - (j + 1)) c s.many.toNat)
      rw [e]
      refine key.congr fun n => ?_
      rw [BwP.succ (by omega) hm, show hrs s - 1 - (j + 1) + 1 = hrs s - 1 - j by omega]
      simp only [false_or]
      constructor
      · rintro ⟨o, h1, h2, m, h3, h4⟩
        exact ⟨m, ⟨o, List.mem_filter.2 ⟨h3.mem, h2⟩, h3⟩, h4⟩
      · rintro ⟨m, ⟨o, h1, h2⟩, h3⟩
        obtain ⟨h4, h5⟩ := List.mem_filter.1 h1
        exact ⟨o, List.mem_range.2 (cells_many ho h4), h5, m, h2, h3⟩
    · rw [if_neg hw]
      exact ⟨.inl ⟨rfl, fun n h => hw ((wat_iff ho c).2 h.mem)⟩⟩
def AhP (s : Sea) (l : List Rep) (h c n : Nat) : Prop := FwP s l h c (n + unN s l h c)
theorem FwP.ge {s : Sea} {l : List Rep} {h c n : Nat} (k : FwP s l h c n) : unN s l h c ≤ n := by
  obtain ⟨t, rfl, _, rfl⟩ := k
  rw [costW_app]; simp [costW]
theorem ahe_min {s : Sea} (ho : s.Ok) {l : List Rep} (hl : l.length ≤ 24) : ∀ h, h < hrs s → ∀ c, c < s.many.toNat → MinIs 1000 (AhP s l h c) ((aheR s l h).getD c 0)
  | 0, hj, c, hc => by
    rw [aheR, rowK_at _ hc]
    unfold aheV
    by_cases hw : watB s c = true
    · rw [if_pos hw]
      have hm := (wat_iff ho c).1 hw
      exact ⟨.inr ⟨0, rfl, (FwP.zero hm _).2 (by omega), fun m _ => Nat.zero_le m⟩⟩
    · rw [if_neg hw]
      exact ⟨.inl ⟨rfl, fun n h => hw ((wat_iff ho c).2 h.mem)⟩⟩
  | h + 1, hj, c, hc => by
    rw [aheR, rowK_at _ hc]
    unfold aheV
    have hp := hrs_pos ho
    by_cases hw : watB s c = true
    · rw [if_pos hw]
      have hm := (wat_iff ho c).1 hw
      have ih := ahe_min ho hl h (by omega)
      have key := ref_fold (inf := 1000) (P := fun o => AhP s l h o) (nx := fun o => (aheR s l h).getD o 0) (u := fun o => unN s l h o) (ok := fun o => stp s h o c) (List.range s.many.toNat) (fun _ => False) 1000 MinIs.none
        (fun o ho' => ih o (List.mem_range.1 ho')) (fun n h => h.elim) fun o _ n hn => by have := FwP.le hl hn; omega
      show MinIs 1000 _ (refA s l (aheR s l h) (h + 1 - 1) c s.many.toNat)
      rw [Nat.add_sub_cancel]
      refine key.congr fun n => ?_
      unfold AhP
      rw [FwP.succ hm]
      simp only [false_or]
      constructor
      · rintro ⟨o, h1, h2, m, h3, h4⟩
        exact ⟨m + unN s l h o, ⟨o, List.mem_filter.2 ⟨h3.mem, h2⟩, h3⟩, by omega⟩
      · rintro ⟨m, ⟨o, h1, h2⟩, h3⟩
        obtain ⟨h4, h5⟩ := List.mem_filter.1 h1
        have := h2.ge
        exact ⟨o, List.mem_range.2 (cells_many ho h4), h5, m - unN s l h o, by rw [show m - unN s l h o + unN s l h o = m by omega]; exact h2, by omega⟩
    · rw [if_neg hw]
      exact ⟨.inl ⟨rfl, fun n h => hw ((wat_iff ho c).2 h.mem)⟩⟩
theorem MinIs.bd {P : Nat → Prop} {v : Int} (h : MinIs 1000 P v) (hb : ∀ n, P n → n ≤ 1000) : 0 ≤ v ∧ v ≤ 1000 := ⟨h.nonneg, h.le hb⟩
theorem beh_bd {s : Sea} (ho : s.Ok) {l : List Rep} (hl : l.length ≤ 24) {j c : Nat} (hj : j < hrs s) (hc : c < s.many.toNat) : 0 ≤ (behR s l j).getD c 0 ∧ (behR s l j).getD c 0 ≤ 1000 :=
  (beh_min ho hl j hj c hc).bd fun n h => by have := h.le hl; have := hrs_pos ho; omega
theorem ahe_bd {s : Sea} (ho : s.Ok) {l : List Rep} (hl : l.length ≤ 24) {h c : Nat} (hj : h < hrs s) (hc : c < s.many.toNat) : 0 ≤ (aheR s l h).getD c 0 ∧ (aheR s l h).getD c 0 ≤ 1000 :=
  (ahe_min ho hl h hj c hc).bd fun n h => by have := FwP.le hl h; have := hrs_pos ho; omega
theorem behR_len (s : Sea) (l : List Rep) (j : Nat) : (behR s l j).length = s.many.toNat := by cases j <;> exact rowK_len _ _
theorem aheR_len (s : Sea) (l : List Rep) (j : Nat) : (aheR s l j).length = s.many.toNat := by cases j <;> exact rowK_len _ _
theorem sum_le {s : Sea} (ho : s.Ok) {l : List Rep} (hl : l.length ≤ 24) {h : Nat} (hh : h < hrs s) {c : Nat} (hc : c < s.many.toNat) {w : Int} (hw : w ≤ 24) :
    (aheR s l h).getD c 0 + (behR s l (hrs s - 1 - h)).getD c 0 ≤ w ↔ c ∈ cellsL s ∧ (thrR s l h).getD c 0 ≤ w := by
  have h1 := ahe_min ho hl h hh c hc
  have h2 := beh_min ho hl (hrs s - 1 - h) (by omega) c hc
  rw [show hrs s - 1 - (hrs s - 1 - h) = h by omega] at h2
  have n1 := h1.nonneg
  have n2 := h2.nonneg
  constructor
  · intro hle
    rcases h1.or with ⟨e1, _⟩ | ⟨a, e1, p1, _⟩
    · omega
    rcases h2.or with ⟨e2, _⟩ | ⟨b, e2, p2, _⟩
    · omega
    have hm : c ∈ cellsL s := p2.mem
    refine ⟨hm, ((thr_min ho hl hh hm).le_iff (by omega)).2 ⟨a + b, by omega, (TrP.iff _).2 ⟨a + unN s l h c, b, p1, p2, by omega⟩⟩⟩
  · rintro ⟨hm, hle⟩
    obtain ⟨n, k1, k2⟩ := ((thr_min ho hl hh hm).le_iff (by omega)).1 hle
    obtain ⟨a, b, p1, p2, e⟩ := (TrP.iff n).1 k2
    have hg := p1.ge
    have q1 := (h1.le_iff (w := (a - unN s l h c : Nat)) (by have := p1.le hl; have := hrs_pos ho; omega)).2 ⟨a - unN s l h c, by omega, by unfold AhP; rw [show a - unN s l h c + unN s l h c = a by omega]; exact p1⟩
    have q2 := (h2.le_iff (w := b) (by have := p2.le hl; have := hrs_pos ho; omega)).2 ⟨b, by omega, p2⟩
    omega
end Go.Proofs.Ytohbjneaaahpcaa

namespace Go.Proofs.Ytohbjneaaahpcaa
open Go Go.AL Go.AL.Q Go.AL.Sh
theorem bool_iff2 {a b : Bool} (h : a = true ↔ b = true) : a = b := by cases a <;> cases b <;> simp_all
def rcanP (s : Sea) (l : List Rep) (wrong : Int) (h c : Nat) : Bool := decide ((aheR s l h).getD c 0 + (behR s l (hrs s - 1 - h)).getD c 0 ≤ wrong)
def rcanK (s : Sea) (l : List Rep) (wrong : Int) (h n : Nat) : List Int := ((List.range n).filter (rcanP s l wrong h)).map Int.ofNat
theorem rcanK_succ (s : Sea) (l : List Rep) (wrong : Int) (h n : Nat) : rcanK s l wrong h (n + 1) = if rcanP s l wrong h n then rcanK s l wrong h n ++ [(n : Int)] else rcanK s l wrong h n := by
  unfold rcanK
  rw [List.range_succ, List.filter_append, List.map_append, List.filter_cons]
  cases rcanP s l wrong h n <;> simp
theorem rcanK_len (s : Sea) (l : List Rep) (wrong : Int) (h n : Nat) : (rcanK s l wrong h n).length ≤ n := by
  unfold rcanK; rw [List.length_map]; exact Nat.le_trans (List.length_filter_le _ _) (by simp)
theorem rcan_is {s : Sea} (ho : s.Ok) {l : List Rep} (hl : l.length ≤ 24) {wrong hour : Int} (hw : wrong ≤ 24) (h0 : 0 ≤ hour) (h1 : hour < s.hours) : rcanK s l wrong hour.toNat s.many.toNat = canF s l wrong hour := by
  have hp := hrs_pos ho
  rw [canF_eq]
  unfold rcanK cellsL
  rw [List.filter_filter]
  congr 1
  refine List.filter_congr fun c hc => ?_
  have hc := List.mem_range.1 hc
  refine bool_iff2 ?_
  unfold rcanP
  rw [decide_eq_true_eq, sum_le ho hl (by omega) hc hw, Bool.and_eq_true, decide_eq_true_eq]
  unfold cellsL
  rw [List.mem_filter, List.mem_range]
  constructor
  · rintro ⟨⟨_, h2⟩, h3⟩; exact ⟨h3, h2⟩
  · rintro ⟨h3, h2⟩; exact ⟨⟨hc, h2⟩, h3⟩
end Go.Proofs.Ytohbjneaaahpcaa

namespace Go.Proofs.Ytohbjneaaahpcaa
open Go Go.AL Go.AL.Q Go.AL.Sh
theorem canE_or (G : List Int) : canE G = 0 ∨ canE G = 12 := by cases G; exact .inr rfl; exact .inl rfl
end Go.Proofs.Ytohbjneaaahpcaa

namespace Go.Proofs.Ytohbjneaaahpcaa
open Go Go.AL Go.AL.Q Go.AL.Sh
theorem shl1 {n : Nat} (h : n ≤ 8) : IntKind.i64.wrap (1 * 2 ^ (min ((n : Int).toNat) 64)) = ((2 ^ n : Nat) : Int) := by
  have : n = 0 ∨ n = 1 ∨ n = 2 ∨ n = 3 ∨ n = 4 ∨ n = 5 ∨ n = 6 ∨ n = 7 ∨ n = 8 := by omega
  rcases this with rfl | rfl | rfl | rfl | rfl | rfl | rfl | rfl | rfl <;> decide +kernel
theorem fnd_nil {w : Int} {G : List Int} {casts : List Sp} (h : G ≠ []) : fndB w G casts [] = false := by
  cases G with
  | nil => exact absurd rfl h
  | cons x G => rfl
theorem members_w (s : Int) (n : Nat) (hn : n ≤ 1000) : Ans Try.prog 42 [.int s, .int n] (outW (memL s n)) := Ans_out (members_t s n hn) (outA_le _)
end Go.Proofs.Ytohbjneaaahpcaa

namespace Go.Proofs.Ytohbjneaaahpcaa
open Go Go.AL Go.AL.Q Go.AL.Sh
def rnxK (w : Int) (G : List Int) (casts : List Sp) : Nat → Int × Int
  | 0 => (0, (G.length : Int) + 1)
  | k + 1 => if worstF w G (casts.getD k ⟨0, 0⟩) < (rnxK w G casts k).2 then ((k : Int), worstF w G (casts.getD k ⟨0, 0⟩)) else rnxK w G casts k
theorem worst_le (w : Int) (G : List Int) (c : Sp) : 0 ≤ worstF w G c ∧ worstF w G c ≤ G.length := by
  have := cntC_bd w G c G.length
  unfold worstF; rw [gmax_eq]; omega
theorem rnxK_is (w : Int) (G : List Int) (casts : List Sp) : ∀ k, rnxK w G casts (k + 1) = nextK w G casts (k + 1)
  | 0 => by
    have := worst_le w G (casts.getD 0 ⟨0, 0⟩)
    rw [rnxK, nextK, if_pos (show worstF w G (casts.getD 0 ⟨0, 0⟩) < (rnxK w G casts 0).2 by show _ < (G.length : Int) + 1; omega), if_pos (.inl rfl)]
  | k + 1 => by
    rw [rnxK, nextK, rnxK_is w G casts k]
    by_cases h : worstF w G (casts.getD (k + 1) ⟨0, 0⟩) < (nextK w G casts (k + 1)).2
    · rw [if_pos h, if_pos (.inr h)]
    · rw [if_neg h, if_neg (fun h2 => h (h2.resolve_left (by omega)))]
theorem rnxK_bd (w : Int) (G : List Int) (casts : List Sp) : ∀ k, 0 ≤ (rnxK w G casts k).2 ∧ (rnxK w G casts k).2 ≤ (G.length : Int) + 1
  | 0 => ⟨by show 0 ≤ (G.length : Int) + 1; omega, Int.le_refl _⟩
  | k + 1 => by
    have ih := rnxK_bd w G casts k
    have := worst_le w G (casts.getD k ⟨0, 0⟩)
    rw [rnxK]; split
    · exact ⟨this.1, by show worstF w G _ ≤ _; omega⟩
    · exact ih
def rbetB (fd : List Int → Bool) (own best : List Int) : Bool := cond (fd own) (cond (cond ((best.length : Int) == 0) true (decide ((own.length : Int) < best.length))) true (cond ((own.length : Int) == best.length) (Q.befF own best) false)) false
def rbK (fd : List Int → Bool) (n : Nat) : Nat → List Int
  | 0 => []
  | q + 1 => if rbetB fd (memL ((q : Int) + 1) n) (rbK fd n q) then memL ((q : Int) + 1) n else rbK fd n q
structure RbIs (fd : List Int → Bool) (n q : Nat) (b : List Int) : Prop where
  or : (b = [] ∧ ∀ p : Nat, 1 ≤ p → p ≤ q → fd (memL p n) = false) ∨ (b ≠ [] ∧ fd b = true ∧ (∃ p : Nat, 1 ≤ p ∧ p ≤ q ∧ b = memL p n) ∧ ∀ p : Nat, 1 ≤ p → p ≤ q → fd (memL p n) = true → ¬ Ahead (memL p n) b)
theorem rbet_iff {fd : List Int → Bool} {own best : List Int} : rbetB fd own best = true ↔ fd own = true ∧ (best = [] ∨ Ahead own best) := by
  have hb : (((best.length : Nat) : Int) == 0) = true ↔ best = [] := by
    rw [beq_iff_eq]; cases best with
    | nil => simp
    | cons x l => simp; omega
  have hc : ∀ x : Bool, cond x true = fun y : Bool => x || y := fun x => by cases x <;> rfl
  have hd : ∀ x y : Bool, cond x y false = (x && y) := fun x y => by cases x <;> rfl
  unfold rbetB Ahead
  rw [hd, hd, hc, hc]
  simp only [Bool.and_eq_true, Bool.or_eq_true, decide_eq_true_eq]
  rw [hb, beq_iff_eq]
  constructor
  · rintro ⟨h1, (h2 | h2) | ⟨h2, h3⟩⟩
    · exact ⟨h1, .inl h2⟩
    · exact ⟨h1, .inr (.inl (by omega))⟩
    · exact ⟨h1, .inr (.inr ⟨by omega, h3⟩)⟩
  · rintro ⟨h1, h2 | h2 | ⟨h2, h3⟩⟩
    · exact ⟨h1, .inl (.inl h2)⟩
    · exact ⟨h1, .inl (.inr (by omega))⟩
    · exact ⟨h1, .inr ⟨by omega, h3⟩⟩
theorem rbK_is {fd : List Int → Bool} {n : Nat} (hn : fd [] = false) : ∀ q, RbIs fd n q (rbK fd n q)
  | 0 => ⟨.inl ⟨rfl, fun p h1 h2 => by omega⟩⟩
  | q + 1 => by
    have ih := rbK_is (n := n) hn q
    have hc : ((q : Int) + 1) = ((q + 1 : Nat) : Int) := by omega
    rw [rbK, hc]
    split
    · rename_i h
      obtain ⟨h1, h2⟩ := rbet_iff.1 h
      refine ⟨.inr ⟨(fun e => by rw [e, hn] at h1; cases h1), h1, ⟨q + 1, by omega, by omega, rfl⟩, fun p k1 k2 k3 k4 => ?_⟩⟩
      by_cases e : p = q + 1
      · subst e; exact Ahead.irr k4
      · rcases ih.or with ⟨_, g⟩ | ⟨g1, g2, _, g4⟩
        · rw [g p k1 (by omega)] at k3; cases k3
        · rcases h2 with h2 | h2
          · exact g1 h2
          · exact g4 p k1 (by omega) k3 (k4.trans h2)
    · rename_i h
      rcases ih.or with ⟨g0, g⟩ | ⟨g1, g2, ⟨p0, g5, g6, g7⟩, g4⟩
      · refine ⟨.inl ⟨g0, fun p k1 k2 => ?_⟩⟩
        by_cases e : p = q + 1
        · subst e
          rw [← Bool.not_eq_true]
          intro k3
          exact h (rbet_iff.2 ⟨k3, .inl g0⟩)
        · exact g p k1 (by omega)
      · refine ⟨.inr ⟨g1, g2, ⟨p0, g5, by omega, g7⟩, fun p k1 k2 k3 k4 => ?_⟩⟩
        by_cases e : p = q + 1
        · subst e; exact h (rbet_iff.2 ⟨k3, .inr k4⟩)
        · exact g4 p k1 (by omega) k3 k4
theorem rb_su {fd : List Int → Bool} {n : Nat} (hn : fd [] = false) (h8 : n ≤ 8) : rbK fd n (2 ^ n - 1) = match suGo fd n (List.range n) [] with | some r => r | none => [] := by
  have h1 := (rbK_is (n := n) hn (2 ^ n - 1)).or
  have h2 := su_is fd n
  have hp := Nat.one_le_two_pow (n := n)
  generalize rbK fd n (2 ^ n - 1) = b at *
  cases hs : suGo fd n (List.range n) [] with
  | none =>
    rw [hs] at h2
    rcases h1 with ⟨h, _⟩ | ⟨g1, g2, ⟨p, g3, g4, g5⟩, _⟩
    · exact h
    · have := h2 b g1 (by rw [g5]; exact memL_rising _ _)
      rw [g2] at this; cases this
  | some r =>
    rw [hs] at h2
    have hr : r ≠ [] := fun e => by have := h2.pos; rw [e] at this; simp at this
    obtain ⟨q, k1, k2, k3⟩ := set_of h8 hr h2.ri
    rcases h1 with ⟨_, g⟩ | ⟨g1, g2, ⟨p, g3, g4, g5⟩, g6⟩
    · have := g q k1 (by omega)
      rw [k3, h2.ok] at this; cases this
    · have n1 := g6 q k1 (by omega) (by rw [k3]; exact h2.ok)
      rw [k3] at n1
      have n2 : ¬ Ahead b r := fun h => by
        rcases h2.first b g1 (by rw [g5]; exact memL_rising _ _) g2 with k | ⟨k, k'⟩
        · rcases h with h | ⟨h, _⟩ <;> omega
        · rcases h with h | ⟨_, h⟩
          · omega
          · rw [h] at k'; cases k'
      rcases Ahead.tri b r with h | h | h
      · exact absurd h n2
      · exact h
      · exact absurd h n1
theorem rbK_rising (fd : List Int → Bool) (n : Nat) : ∀ q, (rbK fd n q).length ≤ n
  | 0 => Nat.zero_le _
  | q + 1 => by
    rw [rbK]; split
    · exact memL_len _ _
    · exact rbK_rising fd n q
end Go.Proofs.Ytohbjneaaahpcaa

namespace Go.Proofs.Ytohbjneaaahpcaa
open Go Go.AL Go.AL.Q Go.AL.Sh
def bB (row : Nat → List Int) (n : Nat) : B := .cells ((List.range n).map fun i => outA (row i))
theorem bB_under (row : Nat → List Int) (n : Nat) {m : Nat} : UnderB m (bB row n) := .cells _ fun x hx => by
  obtain ⟨i, _, rfl⟩ := List.mem_map.1 hx; exact (outA_free _).under
theorem bB_congr {row row' : Nat → List Int} {n : Nat} (h : ∀ i, i < n → row i = row' i) : bB row n = bB row' n := by
  unfold bB
  rw [List.map_congr_left fun i hi => by rw [h i (List.mem_range.1 hi)]]
theorem bB_zero (n : Nat) : ((List.range (n * 1)).map fun j => ([A.sl true .exact []] : List A).getD (j % 1) .un).map A.down = (List.range n).map fun _ => outA [] := by
  rw [Nat.mul_one, List.map_map]
  exact List.map_congr_left fun j _ => by show A.down (([A.sl true .exact []] : List A).getD (j % 1) .un) = _; rw [Nat.mod_one]; rfl
theorem setSeg_one {cs : List A} {k : Nat} {v : A} (h : k < cs.length) : setSeg cs k [v] = cs.set k v := by
  rw [List.set_eq_take_append_cons_drop, if_pos h]; simp [setSeg]
theorem bB_set {row row' : Nat → List Int} {n k : Nat} {x : Int} {l : List Int} (hk : k < n) (h : ∀ i, i < n → i ≠ k → row i = row' i) (hr : row' k = x :: l) : setSeg ((List.range n).map fun i => outA (row i)) (0 + k * 1) [A.sl false .any (ints (x :: l))] = (List.range n).map fun i => outA (row' i) := by
  rw [Nat.zero_add, Nat.mul_one, setSeg_one (by simpa using hk)]
  refine List.ext_getElem (by simp) fun i h1 h2 => ?_
  rw [List.getElem_set]
  have hi : i < n := by simpa using h2
  by_cases e : k = i
  · subst e; simp [hr, outA]
  · rw [if_neg e]; simp [h i hi (Ne.symm e)]
theorem bB_get {row : Nat → List Int} {n k : Nat} (hk : k < n) : (((List.range n).map fun i => outA (row i)).getD (0 + k * 1) .un).down = outA (row k) := by
  rw [Nat.zero_add, Nat.mul_one, List.getD_eq_getElem?_getD, List.getElem?_map, List.getElem?_range hk]
  show (outA (row k)).down = _
  cases row k <;> rfl
theorem rows_one {α : Type} {L : List α} (f : α → A) : RowsAre (L.map f) (L.map fun i => [(f i).down]) 1 := by
  refine ⟨fun e he => ?_, by simp, fun i j hi hj => ?_⟩
  · obtain ⟨i, _, rfl⟩ := List.mem_map.1 he; rfl
  · obtain rfl : j = 0 := by omega
    have hi' : i < L.length := by simpa using hi
    simp [List.getD_eq_getElem?_getD, hi']
theorem bB_len (row : Nat → List Int) (n : Nat) : ((List.range n).map fun i => outA (row i)).length = n := by simp
theorem plus_o (l : List Int) (n : Int) (hl : l.length ≤ 100) : Ans Try.prog 61 [outA l, .int n] (.sl false .any (ints (l ++ [n]))) := by
  cases l with
  | nil => exact AnsL (plus_t true [] n hl) (.cons (.any _ _ _) (.cons (.refl _) .nil))
  | cons x l => exact plus_t false (x :: l) n hl
theorem outA_cons {l : List Int} (h : 0 < l.length) : outA l = .sl false .any (ints l) := by cases l with | nil => cases h | cons x l => rfl
def nxO (s : Sea) (l : List Rep) : Nat → Option (List Int)
  | 0 => none
  | k + 1 => some (behR s l k)
theorem behR_nx (s : Sea) (l : List Rep) (k : Nat) : behR s l k = rowK (behV s l (nxO s l k) (hrs s - 1 - k)) s.many.toNat := by cases k <;> rfl
def bRow (s : Sea) (l : List Rep) (k : Nat) (part : List Int) : Nat → List Int := fun i => if hrs s - k ≤ i then behR s l (hrs s - 1 - i) else if i = hrs s - 1 - k then part else []
def pvO (s : Sea) (l : List Rep) : Nat → Option (List Int)
  | 0 => none
  | k + 1 => some (aheR s l k)
theorem aheR_pv (s : Sea) (l : List Rep) (k : Nat) : aheR s l k = rowK (aheV s l (pvO s l k) k) s.many.toNat := by cases k <;> rfl
def aRow (s : Sea) (l : List Rep) (k : Nat) (part : List Int) : Nat → List Int := fun i => if i < k then aheR s l i else if i = k then part else []
theorem refB_succ (s : Sea) (l : List Rep) (nx : List Int) (h c o : Nat) : refB s l nx h c (o + 1) = if nx.getD o 0 < (1000 : Nat) ∧ stp s h c o = true then gmin (refB s l nx h c o) (unN s l h c + nx.getD o 0) else refB s l nx h c o := by
  unfold refB; rw [List.range_succ, List.foldl_append]; rfl
theorem refA_succ (s : Sea) (l : List Rep) (pv : List Int) (h c o : Nat) : refA s l pv h c (o + 1) = if pv.getD o 0 < (1000 : Nat) ∧ stp s h o c = true then gmin (refA s l pv h c o) (pv.getD o 0 + unN s l h o) else refA s l pv h c o := by
  unfold refA; rw [List.range_succ, List.foldl_append]; rfl
set_option maxRecDepth 20000 in
set_option maxHeartbeats 2000000 in
theorem behind_t (s : Sea) (hf : SeaFit s) (ho : s.Ok) (b : Bool) (l : List Rep) (hl : RepFit s l) : Ans Try.prog 60 [.agg s.c, .sl b .any (l.map Rep.c)] (.sl false .any ((List.range (hrs s)).map fun h => [outW (behR s l (hrs s - 1 - h))])) := by
  have hfr : Free (.sl false .any ((List.range (hrs s)).map fun h => [outW (behR s l (hrs s - 1 - h))])) := .sl _ _ _ fun e he x hx => by
    obtain ⟨i, _, rfl⟩ := List.mem_map.1 he
    simp at hx; subst hx; exact outW_free _
  have us : ∀ {m : Nat}, Under m (A.pt s.c) := (Free.pt _ s.free).under
  have ul : ∀ {m : Nat}, Under m (.sl b .any (l.map Rep.c)) := (free_map Rep.free _ _ _).under
  have hm := ho.many
  have hmm : s.wide * s.high = s.many := rfl
  have hp := hrs_pos ho
  have hhr := ho.hr
  have hdl := ho.dl
  have hl24 : l.length ≤ 24 := by have := hl.len; omega
  have hlen : ∀ j, (behR s l j).length = s.many.toNat := behR_len s l
  refine told Try.func60 rfl rfl (Pure.of tab_ok Try.func60 rfl Try.ntmps60 rfl (allC (.agg _ s.free) (all1 (free_map Rep.free _ _ _))) (allC (fun _ => rfl) (all1 (fun _ => rfl))) (by first | exact .s _ | assumption | exact .tup _ (by intro x hx; simp only [List.mem_cons, List.not_mem_nil, or_false] at hx; rcases hx with rfl | rfl | rfl | rfl <;> first | exact .s _ | (simp_all; done))) fun E hE => ?_)
  have h1E : ∀ id, 1 ≤ id → E.φ0 id = none := fun id h => hE id (by omega)
  refine Aw.sm tab_ok mb0 [] rfl rfl ?zo ?zk
  case zo =>
    repeat' apply AllP.cons
    all_goals first | exact trivial
  case zk =>
  refine Aw.sm tab_ok mb0 [] rfl rfl ?zo ?zk
  case zo =>
    repeat' apply AllP.cons
    all_goals first | exact trivial | exact rfl | exact Nat.le_of_ble_eq_true rfl | exact (by simp only [Ob.of]; omega) | exact (show ((24 : Nat) : Int) * s.hours ≤ 140737488355328 by omega) | exact (show s.hours ≤ (maxLen : Int) by unfold maxLen; omega)
  case zk =>
  have hz : B.cells (((List.range (s.hours.toNat * 1)).map fun j => ([A.sl true .exact []] : List A).getD (j % 1) .un).map A.down) = bB (bRow s l 0 []) (hrs s) := by
    rw [bB_zero]
    show B.cells ((List.range (hrs s)).map fun _ => outA []) = _
    refine congrArg B.cells (List.map_congr_left fun i hi => ?_)
    have := List.mem_range.1 hi
    have e : bRow s l 0 [] i = [] := by unfold bRow; rw [if_neg (by omega)]; split <;> rfl
    rw [e]
  refine Aw.seq ?_
  refine Aw.sm tab_ok mb0 [] rfl rfl ?zo ?zk
  case zo =>
    repeat' apply AllP.cons
    all_goals first | exact trivial | exact Nat.le_of_ble_eq_true rfl | exact (by simp only [Ob.of, inR]; omega)
  case zk =>
  refine Aw.block (Aw.rounds 1 h1E [(1, .sl b .any (l.map Rep.c)), (2, .pt s.c), (5, .ms 0 0 (hrs s))] (fun k : Nat => [(6, .int ((hrs s : Int) - 1 - k))]) (fun k => [(0, bB (bRow s l k []) (hrs s))]) (fun k => k ≤ hrs s) (fun k => hrs s - k) 0 ?zg ⟨?zc, ?zv, ?zh, Nat.le_of_ble_eq_true rfl⟩ ?zu (fun k zhk => ?zw) (fun k zhk => ?zx) fun k hk => ?zr)
  case zg =>
    (repeat' (first | exact Nat.zero_le _ | exact Nat.le_refl _ | exact trivial | exact us | exact ul | exact (congrArg some hz) | exact bB_under _ _ | exact .of_eq (congrArg A.int (by omega)) | exact Under.ms _ _ _ (by decide) | (refine And.intro ?_ ?_)))
  case zc =>
    (repeat' (first | (refine And.intro ?_ ?_) | exact trivial | exact A.Le.refl _ | exact rfl | exact us | exact ul | exact (congrArg some hz) | exact bB_under _ _ | exact .of_eq (congrArg A.int (by omega)) | exact Under.ms _ _ _ (by decide)))
  case zv =>
    (repeat' (first | (refine And.intro ?_ ?_) | exact trivial | exact A.Le.refl _ | exact rfl | exact us | exact ul | exact (congrArg some hz) | exact bB_under _ _ | exact .of_eq (congrArg A.int (by omega)) | exact Under.ms _ _ _ (by decide)))
  case zh =>
    (repeat' (first | (refine And.intro ?_ ?_) | exact trivial | exact A.Le.refl _ | exact rfl | exact us | exact ul | exact (congrArg some hz) | exact bB_under _ _ | exact .of_eq (congrArg A.int (by omega)) | exact Under.ms _ _ _ (by decide)))
  case zu =>
    (repeat' (first | exact trivial | exact Under.s _ | exact Under.un | assumption | exact (free_ints _ _ _).under | exact Under.ref _ _ (by decide) | exact Under.ms _ _ _ (by decide) | exact Under.mp _ (by decide) | exact (Free.agg _ (by assumption)).under | exact (Free.pt _ (by assumption)).under | exact grL_under _ | exact outA_under _ | exact Nat.le_of_ble_eq_true rfl | exact (fun _ _ => rfl) | exact us | exact ul | exact (congrArg some hz) | exact bB_under _ _ | exact .of_eq (congrArg A.int (by omega)) | (refine And.intro ?_ ?_)))
  case zw =>
    (repeat' (first | exact trivial | exact Under.s _ | exact Under.un | assumption | exact (free_ints _ _ _).under | exact Under.ref _ _ (by decide) | exact Under.ms _ _ _ (by decide) | exact Under.mp _ (by decide) | exact (Free.agg _ (by assumption)).under | exact (Free.pt _ (by assumption)).under | exact grL_under _ | exact outA_under _ | exact Nat.le_of_ble_eq_true rfl | exact (fun _ _ => rfl) | exact us | exact ul | exact (congrArg some hz) | exact bB_under _ _ | exact .of_eq (congrArg A.int (by omega)) | (refine And.intro ?_ ?_)))
  case zx =>
    (repeat' (first | exact trivial | exact Under.s _ | exact Under.un | assumption | exact (free_ints _ _ _).under | exact Under.ref _ _ (by decide) | exact Under.ms _ _ _ (by decide) | exact Under.mp _ (by decide) | exact (Free.agg _ (by assumption)).under | exact (Free.pt _ (by assumption)).under | exact grL_under _ | exact outA_under _ | exact Nat.le_of_ble_eq_true rfl | exact (fun _ _ => rfl) | exact us | exact ul | exact (congrArg some hz) | exact bB_under _ _ | exact .of_eq (congrArg A.int (by omega)) | (refine And.intro ?_ ?_)))
  case zr =>
  refine Aw.seq ?_
  refine Aw.sm tab_ok mb0 [] rfl rfl ?zo ?zk
  case zo =>
    repeat' apply AllP.cons
    all_goals first | exact trivial
  case zk =>
  refine Aw.cond rfl (fun h1 => Aw.skip ?_) (fun h1 => ?_)
  · have hlt : k < hrs s := by have := of_decide_eq_true (show decide (((hrs s : Int) - 1 - k ≥ 0)) = true from h1); omega
    obtain ⟨h, hh⟩ : ∃ h : Nat, h = hrs s - 1 - k := ⟨_, rfl⟩
    rw [show (hrs s : Int) - 1 - k = (h : Int) by omega]
    have hval : ∀ c, c < s.many.toNat → behV s l (nxO s l k) h c = (behR s l k).getD c 0 := fun c hc => by rw [behR_nx, rowK_at _ hc, ← hh]
    have hrow : ∀ c, rowK (behV s l (nxO s l k) h) (c + 1) = rowK (behV s l (nxO s l k) h) c ++ [behV s l (nxO s l k) h c] := rowK_succ _
    have hR : behR s l k = rowK (behV s l (nxO s l k) h) s.many.toNat := by rw [behR_nx, ← hh]
    have hrl : ∀ c, (rowK (behV s l (nxO s l k) h) c).length = c := rowK_len _
    have hset : ∀ (p p' : List Int) (x : Int) (q : List Int), p' = x :: q → setSeg ((List.range (hrs s)).map fun i => outA (bRow s l k p i)) (0 + h * 1) [A.sl false .any (ints (x :: q))] = (List.range (hrs s)).map fun i => outA (bRow s l k p' i) := fun p p' x q e =>
      bB_set (by omega) (fun i hi hne => by unfold bRow; rw [if_neg (show ¬ i = hrs s - 1 - k by omega), if_neg (show ¬ i = hrs s - 1 - k by omega)]) (by unfold bRow; rw [if_neg (by omega), if_pos hh]; exact e)
    have hgp : ∀ p : List Int, (((List.range (hrs s)).map fun i => outA (bRow s l k p i)).getD (0 + h * 1) .un).down = outA p := fun p => by
      rw [bB_get (by omega)]; congr 1; unfold bRow; rw [if_neg (by omega), if_pos hh]
    refine Aw.seq (Aw.block ?_)
    refine Aw.sm tab_ok mb0 [] rfl rfl ?zo ?zk
    case zo =>
      repeat' apply AllP.cons
      all_goals first | exact trivial
    case zk =>
    refine Aw.block (Aw.rounds 1 h1E [(1, .sl b .any (l.map Rep.c)), (2, .pt s.c), (5, .ms 0 0 (hrs s)), (6, .int h)] (fun c : Nat => [(7, .int c)]) (fun c => [(0, bB (bRow s l k (rowK (behV s l (nxO s l k) h) c)) (hrs s))]) (fun c => c ≤ s.many.toNat) (fun c => s.many.toNat - c) 0 ?zg ⟨?zc, ?zv, ?zh, Nat.le_of_ble_eq_true rfl⟩ ?zu (fun c zhk => ?zw) (fun c zhk => ?zx) fun c hk => ?zr)
    case zg =>
      (repeat' (first | exact Nat.zero_le _ | exact Nat.le_refl _ | exact trivial | exact us | exact ul | exact bB_under _ _ | exact Under.ms _ _ _ (by decide) | (refine And.intro ?_ ?_)))
    case zc =>
      (repeat' (first | (refine And.intro ?_ ?_) | exact trivial | exact A.Le.refl _ | exact rfl | exact us | exact ul | exact bB_under _ _ | exact Under.ms _ _ _ (by decide)))
    case zv =>
      (repeat' (first | (refine And.intro ?_ ?_) | exact trivial | exact A.Le.refl _ | exact rfl | exact us | exact ul | exact bB_under _ _ | exact Under.ms _ _ _ (by decide)))
    case zh =>
      (repeat' (first | (refine And.intro ?_ ?_) | exact trivial | exact A.Le.refl _ | exact rfl | exact us | exact ul | exact bB_under _ _ | exact Under.ms _ _ _ (by decide)))
    case zu =>
      (repeat' (first | exact trivial | exact Under.s _ | exact Under.un | assumption | exact (free_ints _ _ _).under | exact Under.ref _ _ (by decide) | exact Under.ms _ _ _ (by decide) | exact Under.mp _ (by decide) | exact (Free.agg _ (by assumption)).under | exact (Free.pt _ (by assumption)).under | exact grL_under _ | exact outA_under _ | exact Nat.le_of_ble_eq_true rfl | exact (fun _ _ => rfl) | exact us | exact ul | exact bB_under _ _ | (refine And.intro ?_ ?_)))
    case zw =>
      (repeat' (first | exact trivial | exact Under.s _ | exact Under.un | assumption | exact (free_ints _ _ _).under | exact Under.ref _ _ (by decide) | exact Under.ms _ _ _ (by decide) | exact Under.mp _ (by decide) | exact (Free.agg _ (by assumption)).under | exact (Free.pt _ (by assumption)).under | exact grL_under _ | exact outA_under _ | exact Nat.le_of_ble_eq_true rfl | exact (fun _ _ => rfl) | exact us | exact ul | exact bB_under _ _ | (refine And.intro ?_ ?_)))
    case zx =>
      (repeat' (first | exact trivial | exact Under.s _ | exact Under.un | assumption | exact (free_ints _ _ _).under | exact Under.ref _ _ (by decide) | exact Under.ms _ _ _ (by decide) | exact Under.mp _ (by decide) | exact (Free.agg _ (by assumption)).under | exact (Free.pt _ (by assumption)).under | exact grL_under _ | exact outA_under _ | exact Nat.le_of_ble_eq_true rfl | exact (fun _ _ => rfl) | exact us | exact ul | exact bB_under _ _ | (refine And.intro ?_ ?_)))
    case zr =>
    refine Aw.seq ?_
    refine Aw.sm tab_ok mb0 [] rfl rfl ?zo ?zk
    case zo =>
      repeat' apply AllP.cons
      all_goals first | exact trivial | exact Nat.le_of_ble_eq_true rfl | exact (by simp only [Ob.of, inR]; omega)
    case zk =>
    refine Aw.cond rfl (fun h2 => Aw.skip ?_) (fun h2 => ?_)
    · have hlc : c < s.many.toNat := by have := of_decide_eq_true (show decide ((c : Int) < s.many) = true from h2); omega
      have hwa := water_t s hf ho c
      have hrowc := hrow c
      have hrlc := hrl c
      have hvc : behV s l (nxO s l k) h c = if watB s c then (match nxO s l k with | none => (unN s l h c : Int) | some nx => refB s l nx (h) c s.many.toNat) else 1000 := rfl
      have hli := lies_t s ho b l hl h c (by omega)
      have hun := unN_le s hl24 h c
      rw [unN_eq] at hli
      generalize hpe : rowK (behV s l (nxO s l k) h) c = part at *
      refine Aw.seq (Aw.block ?_)
      refine Aw.sm tab_ok mb0 [] rfl rfl ?zo ?zk
      case zo =>
        repeat' apply AllP.cons
        all_goals first | exact trivial
      case zk =>
      refine Aw.seq ?_
      cases hw : watB s c with
      | false =>
        rw [hw] at hwa hvc
        refine Aw.sm tab_ok mb0 [(2, [.bool false])] rfl rfl ?zo ?zk
        case zo =>
          repeat' apply AllP.cons
          all_goals first | exact trivial | exact id | exact fun _ => rfl | exact Nat.le_of_ble_eq_true rfl | exact fun _ => Nat.le_of_ble_eq_true rfl | exact hwa | exact fun h => nomatch h
        case zk =>
        refine Aw.cond rfl (fun h => by have h : false = true := h; cases h) (fun _ => Aw.skip ?_)
        refine Aw.seq ?_
        refine Aw.sm tab_ok mb0 [] rfl rfl ?zo ?zk
        case zo =>
          repeat' apply AllP.cons
          all_goals first | exact trivial
        case zk =>
        refine Aw.block (Aw.rounds 1 h1E [(1, .sl b .any (l.map Rep.c)), (2, .pt s.c), (5, .ms 0 0 (hrs s)), (6, .int h), (7, .int c)] (fun z : Unit => [(8, .int 1000), (9, .int 0)]) (fun z => [(0, bB (bRow s l k part) (hrs s))]) (fun z => True) (fun z => 0) () ?zg ⟨?zc, ?zv, ?zh, Nat.le_of_ble_eq_true rfl⟩ ?zu (fun z zhk => ?zw) (fun z zhk => ?zx) fun z hk => ?zr)
        case zg =>
          (repeat' (first | exact Nat.zero_le _ | exact Nat.le_refl _ | exact trivial | exact us | exact ul | exact bB_under _ _ | exact Under.ms _ _ _ (by decide) | (refine And.intro ?_ ?_)))
        case zc =>
          (repeat' (first | (refine And.intro ?_ ?_) | exact trivial | exact A.Le.refl _ | exact rfl | exact us | exact ul | exact bB_under _ _ | exact Under.ms _ _ _ (by decide)))
        case zv =>
          (repeat' (first | (refine And.intro ?_ ?_) | exact trivial | exact A.Le.refl _ | exact rfl | exact us | exact ul | exact bB_under _ _ | exact Under.ms _ _ _ (by decide)))
        case zh =>
          (repeat' (first | (refine And.intro ?_ ?_) | exact trivial | exact A.Le.refl _ | exact rfl | exact us | exact ul | exact bB_under _ _ | exact Under.ms _ _ _ (by decide)))
        case zu =>
          (repeat' (first | exact trivial | exact Under.s _ | exact Under.un | assumption | exact (free_ints _ _ _).under | exact Under.ref _ _ (by decide) | exact Under.ms _ _ _ (by decide) | exact Under.mp _ (by decide) | exact (Free.agg _ (by assumption)).under | exact (Free.pt _ (by assumption)).under | exact grL_under _ | exact outA_under _ | exact Nat.le_of_ble_eq_true rfl | exact (fun _ _ => rfl) | exact us | exact ul | exact bB_under _ _ | (refine And.intro ?_ ?_)))
        case zw =>
          (repeat' (first | exact trivial | exact Under.s _ | exact Under.un | assumption | exact (free_ints _ _ _).under | exact Under.ref _ _ (by decide) | exact Under.ms _ _ _ (by decide) | exact Under.mp _ (by decide) | exact (Free.agg _ (by assumption)).under | exact (Free.pt _ (by assumption)).under | exact grL_under _ | exact outA_under _ | exact Nat.le_of_ble_eq_true rfl | exact (fun _ _ => rfl) | exact us | exact ul | exact bB_under _ _ | (refine And.intro ?_ ?_)))
        case zx =>
          (repeat' (first | exact trivial | exact Under.s _ | exact Under.un | assumption | exact (free_ints _ _ _).under | exact Under.ref _ _ (by decide) | exact Under.ms _ _ _ (by decide) | exact Under.mp _ (by decide) | exact (Free.agg _ (by assumption)).under | exact (Free.pt _ (by assumption)).under | exact grL_under _ | exact outA_under _ | exact Nat.le_of_ble_eq_true rfl | exact (fun _ _ => rfl) | exact us | exact ul | exact bB_under _ _ | (refine And.intro ?_ ?_)))
        case zr =>
        refine Aw.seq ?_
        refine Aw.sm tab_ok mb0 [(2, [.bool false])] rfl rfl ?zo ?zk
        case zo =>
          repeat' apply AllP.cons
          all_goals first | exact trivial | exact id | exact fun _ => rfl | exact Nat.le_of_ble_eq_true rfl | exact fun _ => Nat.le_of_ble_eq_true rfl | exact hwa | exact fun h => nomatch h
        case zk =>
        refine Aw.cond rfl (fun h => by have h : false = true := h; cases h) (fun _ => ?_)
        refine Aw.exit2 ?_
        have hvc : behV s l (nxO s l k) h c = 1000 := hvc
        generalize (1000 : Int) = n at *
        cases part with
        | nil =>
          have hpl := plus_o [] n (by omega)
          have hgq := hgp []
          have hsq := hset [] ([] ++ [n]) n [] rfl
          have hlq := bB_len (bRow s l k []) (hrs s)
          have hhv : 0 + h * 1 < hrs s := by omega
          refine Aw.em tab_ok mb0 [(5, [outA []]), (7, [.sl false .any (ints ([] ++ [n]))])] rfl rfl ?zo ?zk
          case zo =>
            repeat' apply AllP.cons
            all_goals first | exact trivial | exact rfl | exact Int.natCast_nonneg _ | exact hgq | exact hpl | exact (show 0 + h * 1 < _ by rw [hlq]; exact hhv) | exact (show (h : Int) < (hrs s : Int) by omega)
          case zk =>
          refine Aw.em tab_ok mb0 [] rfl rfl ?zo ?zk
          case zo =>
            repeat' apply AllP.cons
            all_goals first | exact trivial | exact (by simp only [Ob.of, inR]; omega)
          case zk =>
          refine ⟨c + 1, ?zg, ?zm, ⟨?zc, ?zv, ?zh, Nat.le_of_ble_eq_true rfl⟩⟩
          case zg =>
            (repeat' (first | assumption | omega | exact (by rw [hrowc, hvc]; exact congrArg (fun x => some (B.cells x)) hsq) | (refine And.intro ?_ ?_)))
          case zm =>
            (repeat' (first | omega | exact (by rw [hrowc, hvc]; exact congrArg (fun x => some (B.cells x)) hsq) | (refine And.intro ?_ ?_)))
          case zc =>
            (repeat' (first | (refine And.intro ?_ ?_) | exact trivial | exact A.Le.refl _ | exact rfl | exact (by rw [hrowc, hvc]; exact congrArg (fun x => some (B.cells x)) hsq)))
          case zv =>
            (repeat' (first | (refine And.intro ?_ ?_) | exact trivial | exact A.Le.refl _ | exact rfl | exact (by rw [hrowc, hvc]; exact congrArg (fun x => some (B.cells x)) hsq)))
          case zh =>
            (repeat' (first | (refine And.intro ?_ ?_) | exact trivial | exact A.Le.refl _ | exact rfl | exact (by rw [hrowc, hvc]; exact congrArg (fun x => some (B.cells x)) hsq)))
        | cons y part =>
          have hpl := plus_o (y :: part) n (by omega)
          have hgq := hgp (y :: part)
          have hsq := hset (y :: part) ((y :: part) ++ [n]) y (part ++ [n]) rfl
          have hlq := bB_len (bRow s l k (y :: part)) (hrs s)
          have hhv : 0 + h * 1 < hrs s := by omega
          refine Aw.em tab_ok mb0 [(5, [outA (y :: part)]), (7, [.sl false .any (ints ((y :: part) ++ [n]))])] rfl rfl ?zo ?zk
          case zo =>
            repeat' apply AllP.cons
            all_goals first | exact trivial | exact rfl | exact Int.natCast_nonneg _ | exact hgq | exact hpl | exact (show 0 + h * 1 < _ by rw [hlq]; exact hhv) | exact (show (h : Int) < (hrs s : Int) by omega)
          case zk =>
          refine Aw.em tab_ok mb0 [] rfl rfl ?zo ?zk
          case zo =>
            repeat' apply AllP.cons
            all_goals first | exact trivial | exact (by simp only [Ob.of, inR]; omega)
          case zk =>
          refine ⟨c + 1, ?zg, ?zm, ⟨?zc, ?zv, ?zh, Nat.le_of_ble_eq_true rfl⟩⟩
          case zg =>
            (repeat' (first | assumption | omega | exact (by rw [hrowc, hvc]; exact congrArg (fun x => some (B.cells x)) hsq) | (refine And.intro ?_ ?_)))
          case zm =>
            (repeat' (first | omega | exact (by rw [hrowc, hvc]; exact congrArg (fun x => some (B.cells x)) hsq) | (refine And.intro ?_ ?_)))
          case zc =>
            (repeat' (first | (refine And.intro ?_ ?_) | exact trivial | exact A.Le.refl _ | exact rfl | exact (by rw [hrowc, hvc]; exact congrArg (fun x => some (B.cells x)) hsq)))
          case zv =>
            (repeat' (first | (refine And.intro ?_ ?_) | exact trivial | exact A.Le.refl _ | exact rfl | exact (by rw [hrowc, hvc]; exact congrArg (fun x => some (B.cells x)) hsq)))
          case zh =>
            (repeat' (first | (refine And.intro ?_ ?_) | exact trivial | exact A.Le.refl _ | exact rfl | exact (by rw [hrowc, hvc]; exact congrArg (fun x => some (B.cells x)) hsq)))
      | true =>
      rw [hw] at hwa hvc
      cases k with
      | zero =>
        have hvc : behV s l (nxO s l 0) h c = (unN s l h c : Int) := hvc
        have e9 : ((h : Int) == s.hours - 1) = true := by rw [beq_iff_eq]; omega
        have e10 : decide ((h : Int) < s.hours - 1) = false := decide_eq_false (by omega)
        refine Aw.sm tab_ok mb0 [(2, [.bool true])] rfl rfl ?zo ?zk
        case zo =>
          repeat' apply AllP.cons
          all_goals first | exact trivial | exact id | exact fun _ => rfl | exact Nat.le_of_ble_eq_true rfl | exact fun _ => Nat.le_of_ble_eq_true rfl | exact hwa | exact fun _ => (by simp only [Ob.of, inR]; omega)
        case zk =>
        refine Aw.cond rfl (fun _ => ?_) (fun h9 => by have h9 : cond true ((h : Int) == s.hours - 1) false = false := h9; rw [e9] at h9; cases h9)
        generalize (unN s l h c : Int) = n at *
        refine Aw.em tab_ok mb0 [(4, [.int n])] rfl rfl ?zo ?zk
        case zo =>
          repeat' apply AllP.cons
          all_goals first | exact trivial | exact Nat.le_of_ble_eq_true rfl | exact hli
        case zk =>
        refine Aw.seq ?_
        refine Aw.sm tab_ok mb0 [] rfl rfl ?zo ?zk
        case zo =>
          repeat' apply AllP.cons
          all_goals first | exact trivial
        case zk =>
        refine Aw.block (Aw.rounds 1 h1E [(1, .sl b .any (l.map Rep.c)), (2, .pt s.c), (5, .ms 0 0 (hrs s)), (6, .int h), (7, .int c)] (fun z : Unit => [(8, .int n), (9, .int 0)]) (fun z => [(0, bB (bRow s l 0 part) (hrs s))]) (fun z => True) (fun z => 0) () ?zg ⟨?zc, ?zv, ?zh, Nat.le_of_ble_eq_true rfl⟩ ?zu (fun z zhk => ?zw) (fun z zhk => ?zx) fun z hk => ?zr)
        case zg =>
          (repeat' (first | exact Nat.zero_le _ | exact Nat.le_refl _ | exact trivial | exact us | exact ul | exact bB_under _ _ | exact Under.ms _ _ _ (by decide) | (refine And.intro ?_ ?_)))
        case zc =>
          (repeat' (first | (refine And.intro ?_ ?_) | exact trivial | exact A.Le.refl _ | exact rfl | exact us | exact ul | exact bB_under _ _ | exact Under.ms _ _ _ (by decide)))
        case zv =>
          (repeat' (first | (refine And.intro ?_ ?_) | exact trivial | exact A.Le.refl _ | exact rfl | exact us | exact ul | exact bB_under _ _ | exact Under.ms _ _ _ (by decide)))
        case zh =>
          (repeat' (first | (refine And.intro ?_ ?_) | exact trivial | exact A.Le.refl _ | exact rfl | exact us | exact ul | exact bB_under _ _ | exact Under.ms _ _ _ (by decide)))
        case zu =>
          (repeat' (first | exact trivial | exact Under.s _ | exact Under.un | assumption | exact (free_ints _ _ _).under | exact Under.ref _ _ (by decide) | exact Under.ms _ _ _ (by decide) | exact Under.mp _ (by decide) | exact (Free.agg _ (by assumption)).under | exact (Free.pt _ (by assumption)).under | exact grL_under _ | exact outA_under _ | exact Nat.le_of_ble_eq_true rfl | exact (fun _ _ => rfl) | exact us | exact ul | exact bB_under _ _ | (refine And.intro ?_ ?_)))
        case zw =>
          (repeat' (first | exact trivial | exact Under.s _ | exact Under.un | assumption | exact (free_ints _ _ _).under | exact Under.ref _ _ (by decide) | exact Under.ms _ _ _ (by decide) | exact Under.mp _ (by decide) | exact (Free.agg _ (by assumption)).under | exact (Free.pt _ (by assumption)).under | exact grL_under _ | exact outA_under _ | exact Nat.le_of_ble_eq_true rfl | exact (fun _ _ => rfl) | exact us | exact ul | exact bB_under _ _ | (refine And.intro ?_ ?_)))
        case zx =>
          (repeat' (first | exact trivial | exact Under.s _ | exact Under.un | assumption | exact (free_ints _ _ _).under | exact Under.ref _ _ (by decide) | exact Under.ms _ _ _ (by decide) | exact Under.mp _ (by decide) | exact (Free.agg _ (by assumption)).under | exact (Free.pt _ (by assumption)).under | exact grL_under _ | exact outA_under _ | exact Nat.le_of_ble_eq_true rfl | exact (fun _ _ => rfl) | exact us | exact ul | exact bB_under _ _ | (refine And.intro ?_ ?_)))
        case zr =>
        refine Aw.seq ?_
        refine Aw.sm tab_ok mb0 [(2, [.bool true])] rfl rfl ?zo ?zk
        case zo =>
          repeat' apply AllP.cons
          all_goals first | exact trivial | exact id | exact fun _ => rfl | exact Nat.le_of_ble_eq_true rfl | exact fun _ => Nat.le_of_ble_eq_true rfl | exact hwa | exact fun _ => (by simp only [Ob.of, inR]; omega)
        case zk =>
        refine Aw.cond rfl (fun h9 => ?_) (fun _ => ?_)
        · have h9 : cond (cond true (decide ((h : Int) < s.hours - 1)) false) (decide (((0 : Nat) : Int) < s.wide * s.high)) false = true := h9
          rw [e10] at h9; cases h9
        refine Aw.exit2 ?_
        cases part with
        | nil =>
          have hpl := plus_o [] n (by omega)
          have hgq := hgp []
          have hsq := hset [] ([] ++ [n]) n [] rfl
          have hlq := bB_len (bRow s l 0 []) (hrs s)
          have hhv : 0 + h * 1 < hrs s := by omega
          refine Aw.em tab_ok mb0 [(5, [outA []]), (7, [.sl false .any (ints ([] ++ [n]))])] rfl rfl ?zo ?zk
          case zo =>
            repeat' apply AllP.cons
            all_goals first | exact trivial | exact rfl | exact Int.natCast_nonneg _ | exact hgq | exact hpl | exact (show 0 + h * 1 < _ by rw [hlq]; exact hhv) | exact (show (h : Int) < (hrs s : Int) by omega)
          case zk =>
          refine Aw.em tab_ok mb0 [] rfl rfl ?zo ?zk
          case zo =>
            repeat' apply AllP.cons
            all_goals first | exact trivial | exact (by simp only [Ob.of, inR]; omega)
          case zk =>
          refine ⟨c + 1, ?zg, ?zm, ⟨?zc, ?zv, ?zh, Nat.le_of_ble_eq_true rfl⟩⟩
          case zg =>
            (repeat' (first | assumption | omega | exact (by rw [hrowc, hvc]; exact congrArg (fun x => some (B.cells x)) hsq) | (refine And.intro ?_ ?_)))
          case zm =>
            (repeat' (first | omega | exact (by rw [hrowc, hvc]; exact congrArg (fun x => some (B.cells x)) hsq) | (refine And.intro ?_ ?_)))
          case zc =>
            (repeat' (first | (refine And.intro ?_ ?_) | exact trivial | exact A.Le.refl _ | exact rfl | exact (by rw [hrowc, hvc]; exact congrArg (fun x => some (B.cells x)) hsq)))
          case zv =>
            (repeat' (first | (refine And.intro ?_ ?_) | exact trivial | exact A.Le.refl _ | exact rfl | exact (by rw [hrowc, hvc]; exact congrArg (fun x => some (B.cells x)) hsq)))
          case zh =>
            (repeat' (first | (refine And.intro ?_ ?_) | exact trivial | exact A.Le.refl _ | exact rfl | exact (by rw [hrowc, hvc]; exact congrArg (fun x => some (B.cells x)) hsq)))
        | cons y part =>
          have hpl := plus_o (y :: part) n (by omega)
          have hgq := hgp (y :: part)
          have hsq := hset (y :: part) ((y :: part) ++ [n]) y (part ++ [n]) rfl
          have hlq := bB_len (bRow s l 0 (y :: part)) (hrs s)
          have hhv : 0 + h * 1 < hrs s := by omega
          refine Aw.em tab_ok mb0 [(5, [outA (y :: part)]), (7, [.sl false .any (ints ((y :: part) ++ [n]))])] rfl rfl ?zo ?zk
          case zo =>
            repeat' apply AllP.cons
            all_goals first | exact trivial | exact rfl | exact Int.natCast_nonneg _ | exact hgq | exact hpl | exact (show 0 + h * 1 < _ by rw [hlq]; exact hhv) | exact (show (h : Int) < (hrs s : Int) by omega)
          case zk =>
          refine Aw.em tab_ok mb0 [] rfl rfl ?zo ?zk
          case zo =>
            repeat' apply AllP.cons
            all_goals first | exact trivial | exact (by simp only [Ob.of, inR]; omega)
          case zk =>
          refine ⟨c + 1, ?zg, ?zm, ⟨?zc, ?zv, ?zh, Nat.le_of_ble_eq_true rfl⟩⟩
          case zg =>
            (repeat' (first | assumption | omega | exact (by rw [hrowc, hvc]; exact congrArg (fun x => some (B.cells x)) hsq) | (refine And.intro ?_ ?_)))
          case zm =>
            (repeat' (first | omega | exact (by rw [hrowc, hvc]; exact congrArg (fun x => some (B.cells x)) hsq) | (refine And.intro ?_ ?_)))
          case zc =>
            (repeat' (first | (refine And.intro ?_ ?_) | exact trivial | exact A.Le.refl _ | exact rfl | exact (by rw [hrowc, hvc]; exact congrArg (fun x => some (B.cells x)) hsq)))
          case zv =>
            (repeat' (first | (refine And.intro ?_ ?_) | exact trivial | exact A.Le.refl _ | exact rfl | exact (by rw [hrowc, hvc]; exact congrArg (fun x => some (B.cells x)) hsq)))
          case zh =>
            (repeat' (first | (refine And.intro ?_ ?_) | exact trivial | exact A.Le.refl _ | exact rfl | exact (by rw [hrowc, hvc]; exact congrArg (fun x => some (B.cells x)) hsq)))
      | succ k =>
        have hvc : behV s l (nxO s l (k + 1)) h c = refB s l (behR s l k) h c s.many.toNat := hvc
        have e9 : ((h : Int) == s.hours - 1) = false := by rw [beq_eq_false_iff_ne]; omega
        have e10 : decide ((h : Int) < s.hours - 1) = true := decide_eq_true (by omega)
        have hgn : (((List.range (hrs s)).map fun i => outA (bRow s l (k + 1) part i)).getD (0 + (h + 1) * 1) .un).down = .sl false .any (ints (behR s l k)) := by
          rw [bB_get (by omega)]
          have e : bRow s l (k + 1) part (h + 1) = behR s l k := by unfold bRow; rw [if_pos (by omega)]; congr 1; omega
          rw [e]; exact outA_cons (by rw [hlen]; omega)
        have hbd := fun o ho' => beh_bd ho hl24 (j := k) (c := o) (by omega) ho'
        refine Aw.sm tab_ok mb0 [(2, [.bool true])] rfl rfl ?zo ?zk
        case zo =>
          repeat' apply AllP.cons
          all_goals first | exact trivial | exact id | exact fun _ => rfl | exact Nat.le_of_ble_eq_true rfl | exact fun _ => Nat.le_of_ble_eq_true rfl | exact hwa | exact fun _ => (by simp only [Ob.of, inR]; omega)
        case zk =>
        refine Aw.cond rfl (fun h9 => by have h9 : cond true ((h : Int) == s.hours - 1) false = true := h9; rw [e9] at h9; cases h9) (fun _ => Aw.skip ?_)
        refine Aw.seq ?_
        refine Aw.sm tab_ok mb0 [] rfl rfl ?zo ?zk
        case zo =>
          repeat' apply AllP.cons
          all_goals first | exact trivial
        case zk =>
        refine Aw.block (Aw.rounds 1 h1E [(1, .sl b .any (l.map Rep.c)), (2, .pt s.c), (5, .ms 0 0 (hrs s)), (6, .int h), (7, .int c)] (fun o : Nat => [(8, .int (refB s l (behR s l k) h c o)), (9, .int o)]) (fun o => [(0, bB (bRow s l (k + 1) part) (hrs s))]) (fun o => o ≤ s.many.toNat) (fun o => s.many.toNat - o) 0 ?zg ⟨?zc, ?zv, ?zh, Nat.le_of_ble_eq_true rfl⟩ ?zu (fun o zhk => ?zw) (fun o zhk => ?zx) fun o hk => ?zr)
        case zg =>
          (repeat' (first | exact Nat.zero_le _ | exact Nat.le_refl _ | exact trivial | exact us | exact ul | exact bB_under _ _ | exact Under.ms _ _ _ (by decide) | (refine And.intro ?_ ?_)))
        case zc =>
          (repeat' (first | (refine And.intro ?_ ?_) | exact trivial | exact A.Le.refl _ | exact rfl | exact us | exact ul | exact bB_under _ _ | exact Under.ms _ _ _ (by decide)))
        case zv =>
          (repeat' (first | (refine And.intro ?_ ?_) | exact trivial | exact A.Le.refl _ | exact rfl | exact us | exact ul | exact bB_under _ _ | exact Under.ms _ _ _ (by decide)))
        case zh =>
          (repeat' (first | (refine And.intro ?_ ?_) | exact trivial | exact A.Le.refl _ | exact rfl | exact us | exact ul | exact bB_under _ _ | exact Under.ms _ _ _ (by decide)))
        case zu =>
          (repeat' (first | exact trivial | exact Under.s _ | exact Under.un | assumption | exact (free_ints _ _ _).under | exact Under.ref _ _ (by decide) | exact Under.ms _ _ _ (by decide) | exact Under.mp _ (by decide) | exact (Free.agg _ (by assumption)).under | exact (Free.pt _ (by assumption)).under | exact grL_under _ | exact outA_under _ | exact Nat.le_of_ble_eq_true rfl | exact (fun _ _ => rfl) | exact us | exact ul | exact bB_under _ _ | (refine And.intro ?_ ?_)))
        case zw =>
          (repeat' (first | exact trivial | exact Under.s _ | exact Under.un | assumption | exact (free_ints _ _ _).under | exact Under.ref _ _ (by decide) | exact Under.ms _ _ _ (by decide) | exact Under.mp _ (by decide) | exact (Free.agg _ (by assumption)).under | exact (Free.pt _ (by assumption)).under | exact grL_under _ | exact outA_under _ | exact Nat.le_of_ble_eq_true rfl | exact (fun _ _ => rfl) | exact us | exact ul | exact bB_under _ _ | (refine And.intro ?_ ?_)))
        case zx =>
          (repeat' (first | exact trivial | exact Under.s _ | exact Under.un | assumption | exact (free_ints _ _ _).under | exact Under.ref _ _ (by decide) | exact Under.ms _ _ _ (by decide) | exact Under.mp _ (by decide) | exact (Free.agg _ (by assumption)).under | exact (Free.pt _ (by assumption)).under | exact grL_under _ | exact outA_under _ | exact Nat.le_of_ble_eq_true rfl | exact (fun _ _ => rfl) | exact us | exact ul | exact bB_under _ _ | (refine And.intro ?_ ?_)))
        case zr =>
        refine Aw.seq ?_
        refine Aw.sm tab_ok mb0 [(2, [.bool true])] rfl rfl ?zo ?zk
        case zo =>
          repeat' apply AllP.cons
          all_goals first | exact trivial | exact id | exact fun _ => rfl | exact Nat.le_of_ble_eq_true rfl | exact fun _ => Nat.le_of_ble_eq_true rfl | exact hwa | exact fun _ => (by simp only [Ob.of, inR]; omega)
        case zk =>
        refine Aw.cond rfl (fun h3 => Aw.skip ?_) (fun h3 => ?_)
        · have h3 : cond (cond true (decide ((h : Int) < s.hours - 1)) false) (decide ((o : Int) < s.wide * s.high)) false = true := h3
          have hlo : o < s.many.toNat := by have := of_decide_eq_true (ac2 h3); omega
          have hgo : (ints (behR s l k))[o]? = some [.int ((behR s l k).getD o 0)] := by
            have hx : o < (behR s l k).length := by rw [hlen]; exact hlo
            rw [ints_get hx]; simp [List.getD_eq_getElem?_getD, hx]
          have hsu := refB_succ s l (behR s l k) h c o
          have hb1 := hbd o hlo
          have hst := step_t s ho h c o (by omega) (by omega) (by omega) (by omega)
          have hsv : stp s h c o = s.steps h (placeP s.wide c) (placeP s.wide o) := rfl
          rw [← hsv] at hst
          have hlq := bB_len (bRow s l (k + 1) part) (hrs s)
          generalize (behR s l k).getD o 0 = v at *
          generalize stp s h c o = sv at *
          generalize refB s l (behR s l k) h c o = bst at *
          generalize behR s l k = nx at *
          have hu24 : 0 ≤ (unN s l h c : Int) ∧ (unN s l h c : Int) ≤ 24 := by omega
          generalize (unN s l h c : Int) = u at *
          have hhv : 0 + (h + 1) * 1 < hrs s := by omega
          have th : ((h : Int) + 1).toNat = h + 1 := by omega
          refine Aw.seq (Aw.block ?_)
          refine Aw.sm tab_ok mb0 [(4, [.sl false .any (ints nx)]), (6, [.int v]), (14, [.bool sv])] rfl rfl ?zo ?zk
          case zo =>
            repeat' apply AllP.cons
            all_goals first | exact trivial | exact id | exact rfl | exact fun _ => rfl | exact Nat.le_of_ble_eq_true rfl | exact fun _ => Nat.le_of_ble_eq_true rfl | exact Int.natCast_nonneg _ | exact (by rw [th]; exact hgn) | exact hgo | exact fun _ => hst | exact (show 0 + ((h : Int) + 1).toNat * 1 < _ by rw [th, hlq]; exact hhv) | exact (show ((h : Int) + 1) < (hrs s : Int) by omega) | exact (by simp only [Ob.of, inR]; omega)
          case zk =>
          refine Aw.cond rfl (fun h4 => ?_) (fun h4 => Aw.skip ?_)
          · have h4 : cond (decide (v < 1000)) sv false = true := h4
            have hv1 := of_decide_eq_true (ac1 h4)
            rw [if_pos ⟨hv1, ac2 h4⟩] at hsu
            refine Aw.ed tab_ok mixed mb0 [(5, [.int u]), (10, [.sl false .any (ints nx)]), (12, [.int v])] rfl (by kernel_rfl) rfl rfl ?zo ?zk
            case zo =>
              repeat' apply AllP.cons
              all_goals first | exact trivial | exact rfl | exact Nat.le_of_ble_eq_true rfl | exact Int.natCast_nonneg _ | exact hli | exact (by rw [th]; exact hgn) | exact hgo | exact (show 0 + ((h : Int) + 1).toNat * 1 < _ by rw [th, hlq]; exact hhv) | exact (show ((h : Int) + 1) < (hrs s : Int) by omega) | exact (by simp only [Ob.of, inR]; omega)
            case zk =>
            refine Aw.em tab_ok mb0 [] rfl rfl ?zo ?zk
            case zo =>
              repeat' apply AllP.cons
              all_goals first | exact trivial | exact (by simp only [Ob.of, inR]; omega)
            case zk =>
            refine ⟨o + 1, ?zg, ?zm, ⟨?zc, ?zv, ?zh, Nat.le_of_ble_eq_true rfl⟩⟩
            case zg =>
              (repeat' (first | assumption | omega | exact .of_eq (congrArg A.int hsu) | (refine And.intro ?_ ?_)))
            case zm =>
              (repeat' (first | omega | exact .of_eq (congrArg A.int hsu) | (refine And.intro ?_ ?_)))
            case zc =>
              (repeat' (first | (refine And.intro ?_ ?_) | exact trivial | exact A.Le.refl _ | exact rfl | exact .of_eq (congrArg A.int hsu)))
            case zv =>
              (repeat' (first | (refine And.intro ?_ ?_) | exact trivial | exact A.Le.refl _ | exact rfl | exact .of_eq (congrArg A.int hsu)))
            case zh =>
              (repeat' (first | (refine And.intro ?_ ?_) | exact trivial | exact A.Le.refl _ | exact rfl | exact .of_eq (congrArg A.int hsu)))
          · have h4 : cond (decide (v < 1000)) sv false = false := h4
            rw [if_neg (fun h5 => by rw [decide_eq_true (show v < 1000 from h5.1), h5.2] at h4; cases h4)] at hsu
            refine Aw.em tab_ok mb0 [] rfl rfl ?zo ?zk
            case zo =>
              repeat' apply AllP.cons
              all_goals first | exact trivial | exact (by simp only [Ob.of, inR]; omega)
            case zk =>
            refine ⟨o + 1, ?zg, ?zm, ⟨?zc, ?zv, ?zh, Nat.le_of_ble_eq_true rfl⟩⟩
            case zg =>
              (repeat' (first | assumption | omega | exact .of_eq (congrArg A.int hsu) | (refine And.intro ?_ ?_)))
            case zm =>
              (repeat' (first | omega | exact .of_eq (congrArg A.int hsu) | (refine And.intro ?_ ?_)))
            case zc =>
              (repeat' (first | (refine And.intro ?_ ?_) | exact trivial | exact A.Le.refl _ | exact rfl | exact .of_eq (congrArg A.int hsu)))
            case zv =>
              (repeat' (first | (refine And.intro ?_ ?_) | exact trivial | exact A.Le.refl _ | exact rfl | exact .of_eq (congrArg A.int hsu)))
            case zh =>
              (repeat' (first | (refine And.intro ?_ ?_) | exact trivial | exact A.Le.refl _ | exact rfl | exact .of_eq (congrArg A.int hsu)))
        have h3 : cond (cond true (decide ((h : Int) < s.hours - 1)) false) (decide ((o : Int) < s.wide * s.high)) false = false := h3
        rw [e10] at h3
        have hoe : o = s.many.toNat := by have := of_decide_eq_false (show decide ((o : Int) < s.wide * s.high) = false from h3); omega
        subst hoe
        refine Aw.exit2 ?_
        generalize refB s l (behR s l k) h c s.many.toNat = n at *
        cases part with
        | nil =>
          have hpl := plus_o [] n (by omega)
          have hgq := hgp []
          have hsq := hset [] ([] ++ [n]) n [] rfl
          have hlq := bB_len (bRow s l (k + 1) []) (hrs s)
          have hhv : 0 + h * 1 < hrs s := by omega
          refine Aw.em tab_ok mb0 [(5, [outA []]), (7, [.sl false .any (ints ([] ++ [n]))])] rfl rfl ?zo ?zk
          case zo =>
            repeat' apply AllP.cons
            all_goals first | exact trivial | exact rfl | exact Int.natCast_nonneg _ | exact hgq | exact hpl | exact (show 0 + h * 1 < _ by rw [hlq]; exact hhv) | exact (show (h : Int) < (hrs s : Int) by omega)
          case zk =>
          refine Aw.em tab_ok mb0 [] rfl rfl ?zo ?zk
          case zo =>
            repeat' apply AllP.cons
            all_goals first | exact trivial | exact (by simp only [Ob.of, inR]; omega)
          case zk =>
          refine ⟨c + 1, ?zg, ?zm, ⟨?zc, ?zv, ?zh, Nat.le_of_ble_eq_true rfl⟩⟩
          case zg =>
            (repeat' (first | assumption | omega | exact (by rw [hrowc, hvc]; exact congrArg (fun x => some (B.cells x)) hsq) | (refine And.intro ?_ ?_)))
          case zm =>
            (repeat' (first | omega | exact (by rw [hrowc, hvc]; exact congrArg (fun x => some (B.cells x)) hsq) | (refine And.intro ?_ ?_)))
          case zc =>
            (repeat' (first | (refine And.intro ?_ ?_) | exact trivial | exact A.Le.refl _ | exact rfl | exact (by rw [hrowc, hvc]; exact congrArg (fun x => some (B.cells x)) hsq)))
          case zv =>
            (repeat' (first | (refine And.intro ?_ ?_) | exact trivial | exact A.Le.refl _ | exact rfl | exact (by rw [hrowc, hvc]; exact congrArg (fun x => some (B.cells x)) hsq)))
          case zh =>
            (repeat' (first | (refine And.intro ?_ ?_) | exact trivial | exact A.Le.refl _ | exact rfl | exact (by rw [hrowc, hvc]; exact congrArg (fun x => some (B.cells x)) hsq)))
        | cons y part =>
          have hpl := plus_o (y :: part) n (by omega)
          have hgq := hgp (y :: part)
          have hsq := hset (y :: part) ((y :: part) ++ [n]) y (part ++ [n]) rfl
          have hlq := bB_len (bRow s l (k + 1) (y :: part)) (hrs s)
          have hhv : 0 + h * 1 < hrs s := by omega
          refine Aw.em tab_ok mb0 [(5, [outA (y :: part)]), (7, [.sl false .any (ints ((y :: part) ++ [n]))])] rfl rfl ?zo ?zk
          case zo =>
            repeat' apply AllP.cons
            all_goals first | exact trivial | exact rfl | exact Int.natCast_nonneg _ | exact hgq | exact hpl | exact (show 0 + h * 1 < _ by rw [hlq]; exact hhv) | exact (show (h : Int) < (hrs s : Int) by omega)
          case zk =>
          refine Aw.em tab_ok mb0 [] rfl rfl ?zo ?zk
          case zo =>
            repeat' apply AllP.cons
            all_goals first | exact trivial | exact (by simp only [Ob.of, inR]; omega)
          case zk =>
          refine ⟨c + 1, ?zg, ?zm, ⟨?zc, ?zv, ?zh, Nat.le_of_ble_eq_true rfl⟩⟩
          case zg =>
            (repeat' (first | assumption | omega | exact (by rw [hrowc, hvc]; exact congrArg (fun x => some (B.cells x)) hsq) | (refine And.intro ?_ ?_)))
          case zm =>
            (repeat' (first | omega | exact (by rw [hrowc, hvc]; exact congrArg (fun x => some (B.cells x)) hsq) | (refine And.intro ?_ ?_)))
          case zc =>
            (repeat' (first | (refine And.intro ?_ ?_) | exact trivial | exact A.Le.refl _ | exact rfl | exact (by rw [hrowc, hvc]; exact congrArg (fun x => some (B.cells x)) hsq)))
          case zv =>
            (repeat' (first | (refine And.intro ?_ ?_) | exact trivial | exact A.Le.refl _ | exact rfl | exact (by rw [hrowc, hvc]; exact congrArg (fun x => some (B.cells x)) hsq)))
          case zh =>
            (repeat' (first | (refine And.intro ?_ ?_) | exact trivial | exact A.Le.refl _ | exact rfl | exact (by rw [hrowc, hvc]; exact congrArg (fun x => some (B.cells x)) hsq)))
    have hce : c = s.many.toNat := by have := of_decide_eq_false (show decide ((c : Int) < s.many) = false from h2); omega
    subst hce
    refine Aw.exit2 ?_
    rw [← hR]
    have hnext : bB (bRow s l k (behR s l k)) (hrs s) = bB (bRow s l (k + 1) []) (hrs s) := bB_congr fun i hi => by
      unfold bRow
      by_cases e : i = hrs s - 1 - k
      · rw [if_neg (by omega), if_pos e, if_pos (by omega)]; congr 1; omega
      · rw [if_neg e]
        by_cases e2 : hrs s - k ≤ i
        · rw [if_pos e2, if_pos (by omega)]
        · rw [if_neg e2, if_neg (by omega)]; split <;> rfl
    refine Aw.em tab_ok mb0 [] rfl rfl ?zo ?zk
    case zo =>
      repeat' apply AllP.cons
      all_goals first | exact trivial | exact (by simp only [Ob.of, inR]; omega)
    case zk =>
    refine ⟨k + 1, ?zg, ?zm, ⟨?zc, ?zv, ?zh, Nat.le_of_ble_eq_true rfl⟩⟩
    case zg =>
      (repeat' (first | assumption | omega | exact congrArg some hnext | exact .of_eq (congrArg A.int (by omega)) | (refine And.intro ?_ ?_)))
    case zm =>
      (repeat' (first | omega | exact congrArg some hnext | exact .of_eq (congrArg A.int (by omega)) | (refine And.intro ?_ ?_)))
    case zc =>
      (repeat' (first | (refine And.intro ?_ ?_) | exact trivial | exact A.Le.refl _ | exact rfl | exact congrArg some hnext | exact .of_eq (congrArg A.int (by omega))))
    case zv =>
      (repeat' (first | (refine And.intro ?_ ?_) | exact trivial | exact A.Le.refl _ | exact rfl | exact congrArg some hnext | exact .of_eq (congrArg A.int (by omega))))
    case zh =>
      (repeat' (first | (refine And.intro ?_ ?_) | exact trivial | exact A.Le.refl _ | exact rfl | exact congrArg some hnext | exact .of_eq (congrArg A.int (by omega))))
  have hke : k = hrs s := by have := of_decide_eq_false (show decide (((hrs s : Int) - 1 - k ≥ 0)) = false from h1); omega
  subst hke
  refine Aw.exit2 ?_
  refine Aw.freezeS (id := 0) (t := 5) (n := hrs s) (sz := 1) (cs := (List.range (hrs s)).map fun i => outA (bRow s l (hrs s) [] i)) ((List.range (hrs s)).map fun i => [(outA (bRow s l (hrs s) [] i)).down]) rfl rfl (rows_one _) (by simp) ?_
  refine Aw.sm tab_ok mb0 [] rfl rfl ?zo ?zk
  case zo =>
    repeat' apply AllP.cons
    all_goals first | exact trivial
  case zk =>
  refine Aw.ret ⟨_, .cons (.tmp _) .nil, congrArg (A.sl false .any) (List.map_congr_left fun i hi => ?_)⟩
  have hi := List.mem_range.1 hi
  have e : bRow s l (hrs s) [] i = behR s l (hrs s - 1 - i) := by unfold bRow; rw [if_pos (by omega)]
  rw [e, outA_cons (by rw [hlen]; omega)]
  show [A.sl false .any (ints _)] = [A.sl (List.isEmpty _) .any (ints _)]
  cases hq : behR s l (hrs s - 1 - i) with
  | nil => have := hlen (hrs s - 1 - i); rw [hq] at this; simp at this; omega
  | cons y q => rfl
set_option maxRecDepth 20000 in
set_option maxHeartbeats 2000000 in
theorem ahead_t (s : Sea) (hf : SeaFit s) (ho : s.Ok) (b : Bool) (l : List Rep) (hl : RepFit s l) : Ans Try.prog 64 [.agg s.c, .sl b .any (l.map Rep.c)] (.sl false .any ((List.range (hrs s)).map fun h => [outW (aheR s l h)])) := by
  have hfr : Free (.sl false .any ((List.range (hrs s)).map fun h => [outW (aheR s l h)])) := .sl _ _ _ fun e he x hx => by
    obtain ⟨i, _, rfl⟩ := List.mem_map.1 he
    simp at hx; subst hx; exact outW_free _
  have us : ∀ {m : Nat}, Under m (A.pt s.c) := (Free.pt _ s.free).under
  have ul : ∀ {m : Nat}, Under m (.sl b .any (l.map Rep.c)) := (free_map Rep.free _ _ _).under
  have hm := ho.many
  have hmm : s.wide * s.high = s.many := rfl
  have hp := hrs_pos ho
  have hhr := ho.hr
  have hdl := ho.dl
  have hl24 : l.length ≤ 24 := by have := hl.len; omega
  have hlen : ∀ j, (aheR s l j).length = s.many.toNat := aheR_len s l
  refine told Try.func64 rfl rfl (Pure.of tab_ok Try.func64 rfl Try.ntmps64 rfl (allC (.agg _ s.free) (all1 (free_map Rep.free _ _ _))) (allC (fun _ => rfl) (all1 (fun _ => rfl))) (by first | exact .s _ | assumption | exact .tup _ (by intro x hx; simp only [List.mem_cons, List.not_mem_nil, or_false] at hx; rcases hx with rfl | rfl | rfl | rfl <;> first | exact .s _ | (simp_all; done))) fun E hE => ?_)
  have h1E : ∀ id, 1 ≤ id → E.φ0 id = none := fun id h => hE id (by omega)
  refine Aw.sm tab_ok mb0 [] rfl rfl ?zo ?zk
  case zo =>
    repeat' apply AllP.cons
    all_goals first | exact trivial
  case zk =>
  refine Aw.sm tab_ok mb0 [] rfl rfl ?zo ?zk
  case zo =>
    repeat' apply AllP.cons
    all_goals first | exact trivial | exact rfl | exact Nat.le_of_ble_eq_true rfl | exact (by simp only [Ob.of]; omega) | exact (show ((24 : Nat) : Int) * s.hours ≤ 140737488355328 by omega) | exact (show s.hours ≤ (maxLen : Int) by unfold maxLen; omega)
  case zk =>
  have hz : B.cells (((List.range (s.hours.toNat * 1)).map fun j => ([A.sl true .exact []] : List A).getD (j % 1) .un).map A.down) = bB (aRow s l 0 []) (hrs s) := by
    rw [bB_zero]
    show B.cells ((List.range (hrs s)).map fun _ => outA []) = _
    refine congrArg B.cells (List.map_congr_left fun i hi => ?_)
    have := List.mem_range.1 hi
    have e : aRow s l 0 [] i = [] := by unfold aRow; rw [if_neg (by omega)]; split <;> rfl
    rw [e]
  refine Aw.seq ?_
  refine Aw.sm tab_ok mb0 [] rfl rfl ?zo ?zk
  case zo =>
    repeat' apply AllP.cons
    all_goals first | exact trivial
  case zk =>
  refine Aw.block (Aw.rounds 1 h1E [(1, .sl b .any (l.map Rep.c)), (2, .pt s.c), (5, .ms 0 0 (hrs s))] (fun k : Nat => [(6, .int ((k : Int)))]) (fun k => [(0, bB (aRow s l k []) (hrs s))]) (fun k => k ≤ hrs s) (fun k => hrs s - k) 0 ?zg ⟨?zc, ?zv, ?zh, Nat.le_of_ble_eq_true rfl⟩ ?zu (fun k zhk => ?zw) (fun k zhk => ?zx) fun k hk => ?zr)
  case zg =>
    (repeat' (first | exact Nat.zero_le _ | exact Nat.le_refl _ | exact trivial | exact us | exact ul | exact (congrArg some hz) | exact bB_under _ _ | exact .of_eq (congrArg A.int (by omega)) | exact Under.ms _ _ _ (by decide) | (refine And.intro ?_ ?_)))
  case zc =>
    (repeat' (first | (refine And.intro ?_ ?_) | exact trivial | exact A.Le.refl _ | exact rfl | exact us | exact ul | exact (congrArg some hz) | exact bB_under _ _ | exact .of_eq (congrArg A.int (by omega)) | exact Under.ms _ _ _ (by decide)))
  case zv =>
    (repeat' (first | (refine And.intro ?_ ?_) | exact trivial | exact A.Le.refl _ | exact rfl | exact us | exact ul | exact (congrArg some hz) | exact bB_under _ _ | exact .of_eq (congrArg A.int (by omega)) | exact Under.ms _ _ _ (by decide)))
  case zh =>
    (repeat' (first | (refine And.intro ?_ ?_) | exact trivial | exact A.Le.refl _ | exact rfl | exact us | exact ul | exact (congrArg some hz) | exact bB_under _ _ | exact .of_eq (congrArg A.int (by omega)) | exact Under.ms _ _ _ (by decide)))
  case zu =>
    (repeat' (first | exact trivial | exact Under.s _ | exact Under.un | assumption | exact (free_ints _ _ _).under | exact Under.ref _ _ (by decide) | exact Under.ms _ _ _ (by decide) | exact Under.mp _ (by decide) | exact (Free.agg _ (by assumption)).under | exact (Free.pt _ (by assumption)).under | exact grL_under _ | exact outA_under _ | exact Nat.le_of_ble_eq_true rfl | exact (fun _ _ => rfl) | exact us | exact ul | exact (congrArg some hz) | exact bB_under _ _ | exact .of_eq (congrArg A.int (by omega)) | (refine And.intro ?_ ?_)))
  case zw =>
    (repeat' (first | exact trivial | exact Under.s _ | exact Under.un | assumption | exact (free_ints _ _ _).under | exact Under.ref _ _ (by decide) | exact Under.ms _ _ _ (by decide) | exact Under.mp _ (by decide) | exact (Free.agg _ (by assumption)).under | exact (Free.pt _ (by assumption)).under | exact grL_under _ | exact outA_under _ | exact Nat.le_of_ble_eq_true rfl | exact (fun _ _ => rfl) | exact us | exact ul | exact (congrArg some hz) | exact bB_under _ _ | exact .of_eq (congrArg A.int (by omega)) | (refine And.intro ?_ ?_)))
  case zx =>
    (repeat' (first | exact trivial | exact Under.s _ | exact Under.un | assumption | exact (free_ints _ _ _).under | exact Under.ref _ _ (by decide) | exact Under.ms _ _ _ (by decide) | exact Under.mp _ (by decide) | exact (Free.agg _ (by assumption)).under | exact (Free.pt _ (by assumption)).under | exact grL_under _ | exact outA_under _ | exact Nat.le_of_ble_eq_true rfl | exact (fun _ _ => rfl) | exact us | exact ul | exact (congrArg some hz) | exact bB_under _ _ | exact .of_eq (congrArg A.int (by omega)) | (refine And.intro ?_ ?_)))
  case zr =>
  refine Aw.seq ?_
  refine Aw.sm tab_ok mb0 [] rfl rfl ?zo ?zk
  case zo =>
    repeat' apply AllP.cons
    all_goals first | exact trivial | exact Nat.le_of_ble_eq_true rfl
  case zk =>
  refine Aw.cond rfl (fun h1 => Aw.skip ?_) (fun h1 => ?_)
  · have hlt : k < hrs s := by have := of_decide_eq_true (show decide (((k : Int) < s.hours)) = true from h1); omega
    obtain ⟨h, hh⟩ : ∃ h : Nat, h = k := ⟨_, rfl⟩
    have hval : ∀ c, c < s.many.toNat → aheV s l (pvO s l k) k c = (aheR s l k).getD c 0 := fun c hc => by rw [aheR_pv, rowK_at _ hc]
    have hrow : ∀ c, rowK (aheV s l (pvO s l k) k) (c + 1) = rowK (aheV s l (pvO s l k) k) c ++ [aheV s l (pvO s l k) k c] := rowK_succ _
    have hR : aheR s l k = rowK (aheV s l (pvO s l k) k) s.many.toNat := by rw [aheR_pv]
    have hrl : ∀ c, (rowK (aheV s l (pvO s l k) k) c).length = c := rowK_len _
    have hset : ∀ (p p' : List Int) (x : Int) (q : List Int), p' = x :: q → setSeg ((List.range (hrs s)).map fun i => outA (aRow s l k p i)) (0 + k * 1) [A.sl false .any (ints (x :: q))] = (List.range (hrs s)).map fun i => outA (aRow s l k p' i) := fun p p' x q e =>
      bB_set (by omega) (fun i hi hne => by unfold aRow; rw [if_neg hne, if_neg hne]) (by unfold aRow; rw [if_neg (by omega), if_pos rfl]; exact e)
    have hgp : ∀ p : List Int, (((List.range (hrs s)).map fun i => outA (aRow s l k p i)).getD (0 + k * 1) .un).down = outA p := fun p => by
      rw [bB_get (by omega)]; congr 1; unfold aRow; rw [if_neg (by omega), if_pos rfl]
    refine Aw.seq (Aw.block ?_)
    refine Aw.sm tab_ok mb0 [] rfl rfl ?zo ?zk
    case zo =>
      repeat' apply AllP.cons
      all_goals first | exact trivial
    case zk =>
    refine Aw.block (Aw.rounds 1 h1E [(1, .sl b .any (l.map Rep.c)), (2, .pt s.c), (5, .ms 0 0 (hrs s)), (6, .int k)] (fun c : Nat => [(7, .int c)]) (fun c => [(0, bB (aRow s l k (rowK (aheV s l (pvO s l k) k) c)) (hrs s))]) (fun c => c ≤ s.many.toNat) (fun c => s.many.toNat - c) 0 ?zg ⟨?zc, ?zv, ?zh, Nat.le_of_ble_eq_true rfl⟩ ?zu (fun c zhk => ?zw) (fun c zhk => ?zx) fun c hk => ?zr)
    case zg =>
      (repeat' (first | exact Nat.zero_le _ | exact Nat.le_refl _ | exact trivial | exact us | exact ul | exact bB_under _ _ | exact Under.ms _ _ _ (by decide) | (refine And.intro ?_ ?_)))
    case zc =>
      (repeat' (first | (refine And.intro ?_ ?_) | exact trivial | exact A.Le.refl _ | exact rfl | exact us | exact ul | exact bB_under _ _ | exact Under.ms _ _ _ (by decide)))
    case zv =>
      (repeat' (first | (refine And.intro ?_ ?_) | exact trivial | exact A.Le.refl _ | exact rfl | exact us | exact ul | exact bB_under _ _ | exact Under.ms _ _ _ (by decide)))
    case zh =>
      (repeat' (first | (refine And.intro ?_ ?_) | exact trivial | exact A.Le.refl _ | exact rfl | exact us | exact ul | exact bB_under _ _ | exact Under.ms _ _ _ (by decide)))
    case zu =>
      (repeat' (first | exact trivial | exact Under.s _ | exact Under.un | assumption | exact (free_ints _ _ _).under | exact Under.ref _ _ (by decide) | exact Under.ms _ _ _ (by decide) | exact Under.mp _ (by decide) | exact (Free.agg _ (by assumption)).under | exact (Free.pt _ (by assumption)).under | exact grL_under _ | exact outA_under _ | exact Nat.le_of_ble_eq_true rfl | exact (fun _ _ => rfl) | exact us | exact ul | exact bB_under _ _ | (refine And.intro ?_ ?_)))
    case zw =>
      (repeat' (first | exact trivial | exact Under.s _ | exact Under.un | assumption | exact (free_ints _ _ _).under | exact Under.ref _ _ (by decide) | exact Under.ms _ _ _ (by decide) | exact Under.mp _ (by decide) | exact (Free.agg _ (by assumption)).under | exact (Free.pt _ (by assumption)).under | exact grL_under _ | exact outA_under _ | exact Nat.le_of_ble_eq_true rfl | exact (fun _ _ => rfl) | exact us | exact ul | exact bB_under _ _ | (refine And.intro ?_ ?_)))
    case zx =>
      (repeat' (first | exact trivial | exact Under.s _ | exact Under.un | assumption | exact (free_ints _ _ _).under | exact Under.ref _ _ (by decide) | exact Under.ms _ _ _ (by decide) | exact Under.mp _ (by decide) | exact (Free.agg _ (by assumption)).under | exact (Free.pt _ (by assumption)).under | exact grL_under _ | exact outA_under _ | exact Nat.le_of_ble_eq_true rfl | exact (fun _ _ => rfl) | exact us | exact ul | exact bB_under _ _ | (refine And.intro ?_ ?_)))
    case zr =>
    refine Aw.seq ?_
    refine Aw.sm tab_ok mb0 [] rfl rfl ?zo ?zk
    case zo =>
      repeat' apply AllP.cons
      all_goals first | exact trivial | exact Nat.le_of_ble_eq_true rfl | exact (by simp only [Ob.of, inR]; omega)
    case zk =>
    refine Aw.cond rfl (fun h2 => Aw.skip ?_) (fun h2 => ?_)
    · have hlc : c < s.many.toNat := by have := of_decide_eq_true (show decide ((c : Int) < s.many) = true from h2); omega
      have hwa := water_t s hf ho c
      have hrowc := hrow c
      have hrlc := hrl c
      have hvc : aheV s l (pvO s l k) k c = if watB s c then (match pvO s l k with | none => 0 | some nx => refA s l nx (k - 1) c s.many.toNat) else 1000 := rfl
      have hli := lies_t s ho b l hl k c (by omega)
      have hun := unN_le s hl24 k c
      rw [unN_eq] at hli
      generalize hpe : rowK (aheV s l (pvO s l k) k) c = part at *
      refine Aw.seq (Aw.block ?_)
      refine Aw.sm tab_ok mb0 [] rfl rfl ?zo ?zk
      case zo =>
        repeat' apply AllP.cons
        all_goals first | exact trivial
      case zk =>
      refine Aw.seq ?_
      cases hw : watB s c with
      | false =>
        rw [hw] at hwa hvc
        refine Aw.sm tab_ok mb0 [(2, [.bool false])] rfl rfl ?zo ?zk
        case zo =>
          repeat' apply AllP.cons
          all_goals first | exact trivial | exact id | exact fun _ => rfl | exact Nat.le_of_ble_eq_true rfl | exact hwa
        case zk =>
        refine Aw.cond rfl (fun h => by have h : false = true := h; cases h) (fun _ => Aw.skip ?_)
        refine Aw.seq ?_
        refine Aw.sm tab_ok mb0 [] rfl rfl ?zo ?zk
        case zo =>
          repeat' apply AllP.cons
          all_goals first | exact trivial
        case zk =>
        refine Aw.block (Aw.rounds 1 h1E [(1, .sl b .any (l.map Rep.c)), (2, .pt s.c), (5, .ms 0 0 (hrs s)), (6, .int k), (7, .int c)] (fun z : Unit => [(8, .int 1000), (9, .int 0)]) (fun z => [(0, bB (aRow s l k part) (hrs s))]) (fun z => True) (fun z => 0) () ?zg ⟨?zc, ?zv, ?zh, Nat.le_of_ble_eq_true rfl⟩ ?zu (fun z zhk => ?zw) (fun z zhk => ?zx) fun z hk => ?zr)
        case zg =>
          (repeat' (first | exact Nat.zero_le _ | exact Nat.le_refl _ | exact trivial | exact us | exact ul | exact bB_under _ _ | exact Under.ms _ _ _ (by decide) | (refine And.intro ?_ ?_)))
        case zc =>
          (repeat' (first | (refine And.intro ?_ ?_) | exact trivial | exact A.Le.refl _ | exact rfl | exact us | exact ul | exact bB_under _ _ | exact Under.ms _ _ _ (by decide)))
        case zv =>
          (repeat' (first | (refine And.intro ?_ ?_) | exact trivial | exact A.Le.refl _ | exact rfl | exact us | exact ul | exact bB_under _ _ | exact Under.ms _ _ _ (by decide)))
        case zh =>
          (repeat' (first | (refine And.intro ?_ ?_) | exact trivial | exact A.Le.refl _ | exact rfl | exact us | exact ul | exact bB_under _ _ | exact Under.ms _ _ _ (by decide)))
        case zu =>
          (repeat' (first | exact trivial | exact Under.s _ | exact Under.un | assumption | exact (free_ints _ _ _).under | exact Under.ref _ _ (by decide) | exact Under.ms _ _ _ (by decide) | exact Under.mp _ (by decide) | exact (Free.agg _ (by assumption)).under | exact (Free.pt _ (by assumption)).under | exact grL_under _ | exact outA_under _ | exact Nat.le_of_ble_eq_true rfl | exact (fun _ _ => rfl) | exact us | exact ul | exact bB_under _ _ | (refine And.intro ?_ ?_)))
        case zw =>
          (repeat' (first | exact trivial | exact Under.s _ | exact Under.un | assumption | exact (free_ints _ _ _).under | exact Under.ref _ _ (by decide) | exact Under.ms _ _ _ (by decide) | exact Under.mp _ (by decide) | exact (Free.agg _ (by assumption)).under | exact (Free.pt _ (by assumption)).under | exact grL_under _ | exact outA_under _ | exact Nat.le_of_ble_eq_true rfl | exact (fun _ _ => rfl) | exact us | exact ul | exact bB_under _ _ | (refine And.intro ?_ ?_)))
        case zx =>
          (repeat' (first | exact trivial | exact Under.s _ | exact Under.un | assumption | exact (free_ints _ _ _).under | exact Under.ref _ _ (by decide) | exact Under.ms _ _ _ (by decide) | exact Under.mp _ (by decide) | exact (Free.agg _ (by assumption)).under | exact (Free.pt _ (by assumption)).under | exact grL_under _ | exact outA_under _ | exact Nat.le_of_ble_eq_true rfl | exact (fun _ _ => rfl) | exact us | exact ul | exact bB_under _ _ | (refine And.intro ?_ ?_)))
        case zr =>
        refine Aw.seq ?_
        refine Aw.sm tab_ok mb0 [(2, [.bool false])] rfl rfl ?zo ?zk
        case zo =>
          repeat' apply AllP.cons
          all_goals first | exact trivial | exact id | exact fun _ => rfl | exact Nat.le_of_ble_eq_true rfl | exact fun _ => Nat.le_of_ble_eq_true rfl | exact hwa | exact fun h => nomatch h
        case zk =>
        refine Aw.cond rfl (fun h => by have h : false = true := h; cases h) (fun _ => ?_)
        refine Aw.exit2 ?_
        have hvc : aheV s l (pvO s l k) k c = 1000 := hvc
        generalize (1000 : Int) = n at *
        cases part with
        | nil =>
          have hpl := plus_o [] n (by omega)
          have hgq := hgp []
          have hsq := hset [] ([] ++ [n]) n [] rfl
          have hlq := bB_len (aRow s l k []) (hrs s)
          have hhv : 0 + k * 1 < hrs s := by omega
          refine Aw.em tab_ok mb0 [(5, [outA []]), (7, [.sl false .any (ints ([] ++ [n]))])] rfl rfl ?zo ?zk
          case zo =>
            repeat' apply AllP.cons
            all_goals first | exact trivial | exact rfl | exact Int.natCast_nonneg _ | exact hgq | exact hpl | exact (show 0 + k * 1 < _ by rw [hlq]; exact hhv) | exact (show (k : Int) < (hrs s : Int) by omega)
          case zk =>
          refine Aw.em tab_ok mb0 [] rfl rfl ?zo ?zk
          case zo =>
            repeat' apply AllP.cons
            all_goals first | exact trivial | exact (by simp only [Ob.of, inR]; omega)
          case zk =>
          refine ⟨c + 1, ?zg, ?zm, ⟨?zc, ?zv, ?zh, Nat.le_of_ble_eq_true rfl⟩⟩
          case zg =>
            (repeat' (first | assumption | omega | exact (by rw [hrowc, hvc]; exact congrArg (fun x => some (B.cells x)) hsq) | (refine And.intro ?_ ?_)))
          case zm =>
            (repeat' (first | omega | exact (by rw [hrowc, hvc]; exact congrArg (fun x => some (B.cells x)) hsq) | (refine And.intro ?_ ?_)))
          case zc =>
            (repeat' (first | (refine And.intro ?_ ?_) | exact trivial | exact A.Le.refl _ | exact rfl | exact (by rw [hrowc, hvc]; exact congrArg (fun x => some (B.cells x)) hsq)))
          case zv =>
            (repeat' (first | (refine And.intro ?_ ?_) | exact trivial | exact A.Le.refl _ | exact rfl | exact (by rw [hrowc, hvc]; exact congrArg (fun x => some (B.cells x)) hsq)))
          case zh =>
            (repeat' (first | (refine And.intro ?_ ?_) | exact trivial | exact A.Le.refl _ | exact rfl | exact (by rw [hrowc, hvc]; exact congrArg (fun x => some (B.cells x)) hsq)))
        | cons y part =>
          have hpl := plus_o (y :: part) n (by omega)
          have hgq := hgp (y :: part)
          have hsq := hset (y :: part) ((y :: part) ++ [n]) y (part ++ [n]) rfl
          have hlq := bB_len (aRow s l k (y :: part)) (hrs s)
          have hhv : 0 + k * 1 < hrs s := by omega
          refine Aw.em tab_ok mb0 [(5, [outA (y :: part)]), (7, [.sl false .any (ints ((y :: part) ++ [n]))])] rfl rfl ?zo ?zk
          case zo =>
            repeat' apply AllP.cons
            all_goals first | exact trivial | exact rfl | exact Int.natCast_nonneg _ | exact hgq | exact hpl | exact (show 0 + k * 1 < _ by rw [hlq]; exact hhv) | exact (show (k : Int) < (hrs s : Int) by omega)
          case zk =>
          refine Aw.em tab_ok mb0 [] rfl rfl ?zo ?zk
          case zo =>
            repeat' apply AllP.cons
            all_goals first | exact trivial | exact (by simp only [Ob.of, inR]; omega)
          case zk =>
          refine ⟨c + 1, ?zg, ?zm, ⟨?zc, ?zv, ?zh, Nat.le_of_ble_eq_true rfl⟩⟩
          case zg =>
            (repeat' (first | assumption | omega | exact (by rw [hrowc, hvc]; exact congrArg (fun x => some (B.cells x)) hsq) | (refine And.intro ?_ ?_)))
          case zm =>
            (repeat' (first | omega | exact (by rw [hrowc, hvc]; exact congrArg (fun x => some (B.cells x)) hsq) | (refine And.intro ?_ ?_)))
          case zc =>
            (repeat' (first | (refine And.intro ?_ ?_) | exact trivial | exact A.Le.refl _ | exact rfl | exact (by rw [hrowc, hvc]; exact congrArg (fun x => some (B.cells x)) hsq)))
          case zv =>
            (repeat' (first | (refine And.intro ?_ ?_) | exact trivial | exact A.Le.refl _ | exact rfl | exact (by rw [hrowc, hvc]; exact congrArg (fun x => some (B.cells x)) hsq)))
          case zh =>
            (repeat' (first | (refine And.intro ?_ ?_) | exact trivial | exact A.Le.refl _ | exact rfl | exact (by rw [hrowc, hvc]; exact congrArg (fun x => some (B.cells x)) hsq)))
      | true =>
      rw [hw] at hwa hvc
      cases k with
      | zero =>
        have hvc : aheV s l (pvO s l 0) 0 c = 0 := hvc
        refine Aw.sm tab_ok mb0 [(2, [.bool true])] rfl rfl ?zo ?zk
        case zo =>
          repeat' apply AllP.cons
          all_goals first | exact trivial | exact id | exact fun _ => rfl | exact Nat.le_of_ble_eq_true rfl | exact hwa
        case zk =>
        refine Aw.cond rfl (fun _ => ?_) (fun h9 => absurd h9 (by decide))
        refine Aw.em tab_ok mb0 [] rfl rfl ?zo ?zk
        case zo =>
          repeat' apply AllP.cons
          all_goals first | exact trivial
        case zk =>
        refine Aw.seq ?_
        refine Aw.sm tab_ok mb0 [] rfl rfl ?zo ?zk
        case zo =>
          repeat' apply AllP.cons
          all_goals first | exact trivial
        case zk =>
        refine Aw.block (Aw.rounds 1 h1E [(1, .sl b .any (l.map Rep.c)), (2, .pt s.c), (5, .ms 0 0 (hrs s)), (6, .int ((0 : Nat) : Int)), (7, .int c)] (fun z : Unit => [(8, .int 0), (9, .int 0)]) (fun z => [(0, bB (aRow s l 0 part) (hrs s))]) (fun z => True) (fun z => 0) () ?zg ⟨?zc, ?zv, ?zh, Nat.le_of_ble_eq_true rfl⟩ ?zu (fun z zhk => ?zw) (fun z zhk => ?zx) fun z hk => ?zr)
        case zg =>
          (repeat' (first | exact Nat.zero_le _ | exact Nat.le_refl _ | exact trivial | exact us | exact ul | exact bB_under _ _ | exact Under.ms _ _ _ (by decide) | (refine And.intro ?_ ?_)))
        case zc =>
          (repeat' (first | (refine And.intro ?_ ?_) | exact trivial | exact A.Le.refl _ | exact rfl | exact us | exact ul | exact bB_under _ _ | exact Under.ms _ _ _ (by decide)))
        case zv =>
          (repeat' (first | (refine And.intro ?_ ?_) | exact trivial | exact A.Le.refl _ | exact rfl | exact us | exact ul | exact bB_under _ _ | exact Under.ms _ _ _ (by decide)))
        case zh =>
          (repeat' (first | (refine And.intro ?_ ?_) | exact trivial | exact A.Le.refl _ | exact rfl | exact us | exact ul | exact bB_under _ _ | exact Under.ms _ _ _ (by decide)))
        case zu =>
          (repeat' (first | exact trivial | exact Under.s _ | exact Under.un | assumption | exact (free_ints _ _ _).under | exact Under.ref _ _ (by decide) | exact Under.ms _ _ _ (by decide) | exact Under.mp _ (by decide) | exact (Free.agg _ (by assumption)).under | exact (Free.pt _ (by assumption)).under | exact grL_under _ | exact outA_under _ | exact Nat.le_of_ble_eq_true rfl | exact (fun _ _ => rfl) | exact us | exact ul | exact bB_under _ _ | (refine And.intro ?_ ?_)))
        case zw =>
          (repeat' (first | exact trivial | exact Under.s _ | exact Under.un | assumption | exact (free_ints _ _ _).under | exact Under.ref _ _ (by decide) | exact Under.ms _ _ _ (by decide) | exact Under.mp _ (by decide) | exact (Free.agg _ (by assumption)).under | exact (Free.pt _ (by assumption)).under | exact grL_under _ | exact outA_under _ | exact Nat.le_of_ble_eq_true rfl | exact (fun _ _ => rfl) | exact us | exact ul | exact bB_under _ _ | (refine And.intro ?_ ?_)))
        case zx =>
          (repeat' (first | exact trivial | exact Under.s _ | exact Under.un | assumption | exact (free_ints _ _ _).under | exact Under.ref _ _ (by decide) | exact Under.ms _ _ _ (by decide) | exact Under.mp _ (by decide) | exact (Free.agg _ (by assumption)).under | exact (Free.pt _ (by assumption)).under | exact grL_under _ | exact outA_under _ | exact Nat.le_of_ble_eq_true rfl | exact (fun _ _ => rfl) | exact us | exact ul | exact bB_under _ _ | (refine And.intro ?_ ?_)))
        case zr =>
        refine Aw.seq ?_
        refine Aw.sm tab_ok mb0 [(2, [.bool true])] rfl rfl ?zo ?zk
        case zo =>
          repeat' apply AllP.cons
          all_goals first | exact trivial | exact id | exact fun _ => rfl | exact Nat.le_of_ble_eq_true rfl | exact fun _ => Nat.le_of_ble_eq_true rfl | exact hwa | exact fun h => nomatch h
        case zk =>
        refine Aw.cond rfl (fun h9 => absurd h9 (by simp)) (fun _ => ?_)
        refine Aw.exit2 ?_
        obtain ⟨n, hn0⟩ : ∃ n : Int, n = 0 := ⟨0, rfl⟩
        rw [← hn0] at hvc
        have hn1 : A.int 0 = A.int n := by rw [hn0]
        rw [hn1]
        cases part with
        | nil =>
          have hpl := plus_o [] n (by omega)
          have hgq := hgp []
          have hsq := hset [] ([] ++ [n]) n [] rfl
          have hlq := bB_len (aRow s l 0 []) (hrs s)
          have hhv : 0 + 0 * 1 < hrs s := by omega
          refine Aw.em tab_ok mb0 [(5, [outA []]), (7, [.sl false .any (ints ([] ++ [n]))])] rfl rfl ?zo ?zk
          case zo =>
            repeat' apply AllP.cons
            all_goals first | exact trivial | exact rfl | exact Int.natCast_nonneg _ | exact hgq | exact hpl | exact (show 0 + 0 * 1 < _ by rw [hlq]; exact hhv) | exact (show ((0 : Nat) : Int) < (hrs s : Int) by omega)
          case zk =>
          refine Aw.em tab_ok mb0 [] rfl rfl ?zo ?zk
          case zo =>
            repeat' apply AllP.cons
            all_goals first | exact trivial | exact (by simp only [Ob.of, inR]; omega)
          case zk =>
          refine ⟨c + 1, ?zg, ?zm, ⟨?zc, ?zv, ?zh, Nat.le_of_ble_eq_true rfl⟩⟩
          case zg =>
            (repeat' (first | assumption | omega | exact (by rw [hrowc, hvc]; exact congrArg (fun x => some (B.cells x)) hsq) | (refine And.intro ?_ ?_)))
          case zm =>
            (repeat' (first | omega | exact (by rw [hrowc, hvc]; exact congrArg (fun x => some (B.cells x)) hsq) | (refine And.intro ?_ ?_)))
          case zc =>
            (repeat' (first | (refine And.intro ?_ ?_) | exact trivial | exact A.Le.refl _ | exact rfl | exact (by rw [hrowc, hvc]; exact congrArg (fun x => some (B.cells x)) hsq)))
          case zv =>
            (repeat' (first | (refine And.intro ?_ ?_) | exact trivial | exact A.Le.refl _ | exact rfl | exact (by rw [hrowc, hvc]; exact congrArg (fun x => some (B.cells x)) hsq)))
          case zh =>
            (repeat' (first | (refine And.intro ?_ ?_) | exact trivial | exact A.Le.refl _ | exact rfl | exact (by rw [hrowc, hvc]; exact congrArg (fun x => some (B.cells x)) hsq)))
        | cons y part =>
          have hpl := plus_o (y :: part) n (by omega)
          have hgq := hgp (y :: part)
          have hsq := hset (y :: part) ((y :: part) ++ [n]) y (part ++ [n]) rfl
          have hlq := bB_len (aRow s l 0 (y :: part)) (hrs s)
          have hhv : 0 + 0 * 1 < hrs s := by omega
          refine Aw.em tab_ok mb0 [(5, [outA (y :: part)]), (7, [.sl false .any (ints ((y :: part) ++ [n]))])] rfl rfl ?zo ?zk
          case zo =>
            repeat' apply AllP.cons
            all_goals first | exact trivial | exact rfl | exact Int.natCast_nonneg _ | exact hgq | exact hpl | exact (show 0 + 0 * 1 < _ by rw [hlq]; exact hhv) | exact (show ((0 : Nat) : Int) < (hrs s : Int) by omega)
          case zk =>
          refine Aw.em tab_ok mb0 [] rfl rfl ?zo ?zk
          case zo =>
            repeat' apply AllP.cons
            all_goals first | exact trivial | exact (by simp only [Ob.of, inR]; omega)
          case zk =>
          refine ⟨c + 1, ?zg, ?zm, ⟨?zc, ?zv, ?zh, Nat.le_of_ble_eq_true rfl⟩⟩
          case zg =>
            (repeat' (first | assumption | omega | exact (by rw [hrowc, hvc]; exact congrArg (fun x => some (B.cells x)) hsq) | (refine And.intro ?_ ?_)))
          case zm =>
            (repeat' (first | omega | exact (by rw [hrowc, hvc]; exact congrArg (fun x => some (B.cells x)) hsq) | (refine And.intro ?_ ?_)))
          case zc =>
            (repeat' (first | (refine And.intro ?_ ?_) | exact trivial | exact A.Le.refl _ | exact rfl | exact (by rw [hrowc, hvc]; exact congrArg (fun x => some (B.cells x)) hsq)))
          case zv =>
            (repeat' (first | (refine And.intro ?_ ?_) | exact trivial | exact A.Le.refl _ | exact rfl | exact (by rw [hrowc, hvc]; exact congrArg (fun x => some (B.cells x)) hsq)))
          case zh =>
            (repeat' (first | (refine And.intro ?_ ?_) | exact trivial | exact A.Le.refl _ | exact rfl | exact (by rw [hrowc, hvc]; exact congrArg (fun x => some (B.cells x)) hsq)))
      | succ k =>
        have hvc : aheV s l (pvO s l (k + 1)) (k + 1) c = refA s l (aheR s l k) k c s.many.toNat := hvc
        have hgn : (((List.range (hrs s)).map fun i => outA (aRow s l (k + 1) part i)).getD (0 + k * 1) .un).down = .sl false .any (ints (aheR s l k)) := by
          rw [bB_get (by omega)]
          have e : aRow s l (k + 1) part k = aheR s l k := by unfold aRow; rw [if_pos (by omega)]
          rw [e]; exact outA_cons (by rw [hlen]; omega)
        have hbd := fun o ho' => ahe_bd ho hl24 (h := k) (c := o) (by omega) ho'
        have e9 : (((k + 1 : Nat) : Int) == 0) = false := by rw [beq_eq_false_iff_ne]; omega
        have e10 : decide (((k + 1 : Nat) : Int) > 0) = true := decide_eq_true (by omega)
        refine Aw.sm tab_ok mb0 [(2, [.bool true])] rfl rfl ?zo ?zk
        case zo =>
          repeat' apply AllP.cons
          all_goals first | exact trivial | exact id | exact fun _ => rfl | exact Nat.le_of_ble_eq_true rfl | exact hwa
        case zk =>
        refine Aw.cond rfl (fun h9 => by have h9 : cond true (((k + 1 : Nat) : Int) == 0) false = true := h9; rw [e9] at h9; cases h9) (fun _ => Aw.skip ?_)
        refine Aw.seq ?_
        refine Aw.sm tab_ok mb0 [] rfl rfl ?zo ?zk
        case zo =>
          repeat' apply AllP.cons
          all_goals first | exact trivial
        case zk =>
        refine Aw.block (Aw.rounds 1 h1E [(1, .sl b .any (l.map Rep.c)), (2, .pt s.c), (5, .ms 0 0 (hrs s)), (6, .int ((k + 1 : Nat) : Int)), (7, .int c)] (fun o : Nat => [(8, .int (refA s l (aheR s l k) k c o)), (9, .int o)]) (fun o => [(0, bB (aRow s l (k + 1) part) (hrs s))]) (fun o => o ≤ s.many.toNat) (fun o => s.many.toNat - o) 0 ?zg ⟨?zc, ?zv, ?zh, Nat.le_of_ble_eq_true rfl⟩ ?zu (fun o zhk => ?zw) (fun o zhk => ?zx) fun o hk => ?zr)
        case zg =>
          (repeat' (first | exact Nat.zero_le _ | exact Nat.le_refl _ | exact trivial | exact us | exact ul | exact bB_under _ _ | exact Under.ms _ _ _ (by decide) | (refine And.intro ?_ ?_)))
        case zc =>
          (repeat' (first | (refine And.intro ?_ ?_) | exact trivial | exact A.Le.refl _ | exact rfl | exact us | exact ul | exact bB_under _ _ | exact Under.ms _ _ _ (by decide)))
        case zv =>
          (repeat' (first | (refine And.intro ?_ ?_) | exact trivial | exact A.Le.refl _ | exact rfl | exact us | exact ul | exact bB_under _ _ | exact Under.ms _ _ _ (by decide)))
        case zh =>
          (repeat' (first | (refine And.intro ?_ ?_) | exact trivial | exact A.Le.refl _ | exact rfl | exact us | exact ul | exact bB_under _ _ | exact Under.ms _ _ _ (by decide)))
        case zu =>
          (repeat' (first | exact trivial | exact Under.s _ | exact Under.un | assumption | exact (free_ints _ _ _).under | exact Under.ref _ _ (by decide) | exact Under.ms _ _ _ (by decide) | exact Under.mp _ (by decide) | exact (Free.agg _ (by assumption)).under | exact (Free.pt _ (by assumption)).under | exact grL_under _ | exact outA_under _ | exact Nat.le_of_ble_eq_true rfl | exact (fun _ _ => rfl) | exact us | exact ul | exact bB_under _ _ | (refine And.intro ?_ ?_)))
        case zw =>
          (repeat' (first | exact trivial | exact Under.s _ | exact Under.un | assumption | exact (free_ints _ _ _).under | exact Under.ref _ _ (by decide) | exact Under.ms _ _ _ (by decide) | exact Under.mp _ (by decide) | exact (Free.agg _ (by assumption)).under | exact (Free.pt _ (by assumption)).under | exact grL_under _ | exact outA_under _ | exact Nat.le_of_ble_eq_true rfl | exact (fun _ _ => rfl) | exact us | exact ul | exact bB_under _ _ | (refine And.intro ?_ ?_)))
        case zx =>
          (repeat' (first | exact trivial | exact Under.s _ | exact Under.un | assumption | exact (free_ints _ _ _).under | exact Under.ref _ _ (by decide) | exact Under.ms _ _ _ (by decide) | exact Under.mp _ (by decide) | exact (Free.agg _ (by assumption)).under | exact (Free.pt _ (by assumption)).under | exact grL_under _ | exact outA_under _ | exact Nat.le_of_ble_eq_true rfl | exact (fun _ _ => rfl) | exact us | exact ul | exact bB_under _ _ | (refine And.intro ?_ ?_)))
        case zr =>
        refine Aw.seq ?_
        refine Aw.sm tab_ok mb0 [(2, [.bool true])] rfl rfl ?zo ?zk
        case zo =>
          repeat' apply AllP.cons
          all_goals first | exact trivial | exact id | exact fun _ => rfl | exact Nat.le_of_ble_eq_true rfl | exact fun _ => Nat.le_of_ble_eq_true rfl | exact hwa | exact fun _ => (by simp only [Ob.of, inR]; omega)
        case zk =>
        refine Aw.cond rfl (fun h3 => Aw.skip ?_) (fun h3 => ?_)
        · have h3 : cond (cond true (decide (((k + 1 : Nat) : Int) > 0)) false) (decide ((o : Int) < s.wide * s.high)) false = true := h3
          have hlo : o < s.many.toNat := by have := of_decide_eq_true (ac2 h3); omega
          have hgo : (ints (aheR s l k))[o]? = some [.int ((aheR s l k).getD o 0)] := by
            have hx : o < (aheR s l k).length := by rw [hlen]; exact hlo
            rw [ints_get hx]; simp [List.getD_eq_getElem?_getD, hx]
          have hsu := refA_succ s l (aheR s l k) k c o
          have hb1 := hbd o hlo
          have hst := step_t s ho (((k + 1 : Nat) : Int) - 1) o c (by omega) (by omega) (by omega) (by omega)
          have th1 : ((k + 1 : Nat) : Int) - 1 = (k : Int) := by omega
          rw [th1] at hst
          have hsv : stp s k o c = s.steps k (placeP s.wide o) (placeP s.wide c) := rfl
          rw [← hsv] at hst
          have hli := lies_t s ho b l hl k o (by omega)
          have hun := unN_le s hl24 k o
          rw [unN_eq] at hli
          have hlq := bB_len (aRow s l (k + 1) part) (hrs s)
          generalize (aheR s l k).getD o 0 = v at *
          generalize stp s k o c = sv at *
          generalize refA s l (aheR s l k) k c o = bst at *
          generalize aheR s l k = nx at *
          have hu24 : 0 ≤ (unN s l k o : Int) ∧ (unN s l k o : Int) ≤ 24 := by omega
          generalize (unN s l k o : Int) = u at *
          have hhv : 0 + k * 1 < hrs s := by omega
          have th : (((k + 1 : Nat) : Int) - 1).toNat = k := by omega
          refine Aw.seq (Aw.block ?_)
          refine Aw.sm tab_ok mb0 [(4, [.sl false .any (ints nx)]), (6, [.int v]), (15, [.bool sv])] rfl rfl ?zo ?zk
          case zo =>
            repeat' apply AllP.cons
            all_goals first | exact trivial | exact id | exact rfl | exact fun _ => rfl | exact Nat.le_of_ble_eq_true rfl | exact fun _ => Nat.le_of_ble_eq_true rfl | exact Int.natCast_nonneg _ | exact (by rw [th]; exact hgn) | exact hgo | exact fun _ => (by rw [th1]; exact hst) | exact (show 0 + (((k + 1 : Nat) : Int) - 1).toNat * 1 < _ by rw [th, hlq]; exact hhv) | exact (show (((k + 1 : Nat) : Int) - 1) < (hrs s : Int) by omega) | exact (show (0 : Int) ≤ ((k + 1 : Nat) : Int) - 1 by omega) | exact (by simp only [Ob.of, inR]; omega)
          case zk =>
          refine Aw.cond rfl (fun h4 => ?_) (fun h4 => Aw.skip ?_)
          · have h4 : cond (decide (v < 1000)) sv false = true := h4
            have hv1 := of_decide_eq_true (ac1 h4)
            rw [if_pos ⟨hv1, ac2 h4⟩] at hsu
            refine Aw.ed tab_ok mixed mb0 [(14, [.int u]), (5, [.sl false .any (ints nx)]), (7, [.int v])] rfl (by kernel_rfl) rfl rfl ?zo ?zk
            case zo =>
              repeat' apply AllP.cons
              all_goals first | exact trivial | exact rfl | exact Nat.le_of_ble_eq_true rfl | exact Int.natCast_nonneg _ | exact (by rw [th1]; exact hli) | exact (by rw [th]; exact hgn) | exact hgo | exact (show 0 + (((k + 1 : Nat) : Int) - 1).toNat * 1 < _ by rw [th, hlq]; exact hhv) | exact (show (((k + 1 : Nat) : Int) - 1) < (hrs s : Int) by omega) | exact (show (0 : Int) ≤ ((k + 1 : Nat) : Int) - 1 by omega) | exact (by simp only [Ob.of, inR]; omega)
            case zk =>
            refine Aw.em tab_ok mb0 [] rfl rfl ?zo ?zk
            case zo =>
              repeat' apply AllP.cons
              all_goals first | exact trivial | exact (by simp only [Ob.of, inR]; omega)
            case zk =>
            refine ⟨o + 1, ?zg, ?zm, ⟨?zc, ?zv, ?zh, Nat.le_of_ble_eq_true rfl⟩⟩
            case zg =>
              (repeat' (first | assumption | omega | exact .of_eq (congrArg A.int hsu) | (refine And.intro ?_ ?_)))
            case zm =>
              (repeat' (first | omega | exact .of_eq (congrArg A.int hsu) | (refine And.intro ?_ ?_)))
            case zc =>
              (repeat' (first | (refine And.intro ?_ ?_) | exact trivial | exact A.Le.refl _ | exact rfl | exact .of_eq (congrArg A.int hsu)))
            case zv =>
              (repeat' (first | (refine And.intro ?_ ?_) | exact trivial | exact A.Le.refl _ | exact rfl | exact .of_eq (congrArg A.int hsu)))
            case zh =>
              (repeat' (first | (refine And.intro ?_ ?_) | exact trivial | exact A.Le.refl _ | exact rfl | exact .of_eq (congrArg A.int hsu)))
          · have h4 : cond (decide (v < 1000)) sv false = false := h4
            rw [if_neg (fun h5 => by rw [decide_eq_true (show v < 1000 from h5.1), h5.2] at h4; cases h4)] at hsu
            refine Aw.em tab_ok mb0 [] rfl rfl ?zo ?zk
            case zo =>
              repeat' apply AllP.cons
              all_goals first | exact trivial | exact (by simp only [Ob.of, inR]; omega)
            case zk =>
            refine ⟨o + 1, ?zg, ?zm, ⟨?zc, ?zv, ?zh, Nat.le_of_ble_eq_true rfl⟩⟩
            case zg =>
              (repeat' (first | assumption | omega | exact .of_eq (congrArg A.int hsu) | (refine And.intro ?_ ?_)))
            case zm =>
              (repeat' (first | omega | exact .of_eq (congrArg A.int hsu) | (refine And.intro ?_ ?_)))
            case zc =>
              (repeat' (first | (refine And.intro ?_ ?_) | exact trivial | exact A.Le.refl _ | exact rfl | exact .of_eq (congrArg A.int hsu)))
            case zv =>
              (repeat' (first | (refine And.intro ?_ ?_) | exact trivial | exact A.Le.refl _ | exact rfl | exact .of_eq (congrArg A.int hsu)))
            case zh =>
              (repeat' (first | (refine And.intro ?_ ?_) | exact trivial | exact A.Le.refl _ | exact rfl | exact .of_eq (congrArg A.int hsu)))
        have h3 : cond (cond true (decide (((k + 1 : Nat) : Int) > 0)) false) (decide ((o : Int) < s.wide * s.high)) false = false := h3
        rw [e10] at h3
        have hoe : o = s.many.toNat := by have := of_decide_eq_false (show decide ((o : Int) < s.wide * s.high) = false from h3); omega
        subst hoe
        refine Aw.exit2 ?_
        generalize refA s l (aheR s l k) k c s.many.toNat = n at *
        cases part with
        | nil =>
          have hpl := plus_o [] n (by omega)
          have hgq := hgp []
          have hsq := hset [] ([] ++ [n]) n [] rfl
          have hlq := bB_len (aRow s l (k + 1) []) (hrs s)
          have hhv : 0 + (k + 1) * 1 < hrs s := by omega
          refine Aw.em tab_ok mb0 [(5, [outA []]), (7, [.sl false .any (ints ([] ++ [n]))])] rfl rfl ?zo ?zk
          case zo =>
            repeat' apply AllP.cons
            all_goals first | exact trivial | exact rfl | exact Int.natCast_nonneg _ | exact hgq | exact hpl | exact (show 0 + (k + 1) * 1 < _ by rw [hlq]; exact hhv) | exact (show ((k + 1 : Nat) : Int) < (hrs s : Int) by omega)
          case zk =>
          refine Aw.em tab_ok mb0 [] rfl rfl ?zo ?zk
          case zo =>
            repeat' apply AllP.cons
            all_goals first | exact trivial | exact (by simp only [Ob.of, inR]; omega)
          case zk =>
          refine ⟨c + 1, ?zg, ?zm, ⟨?zc, ?zv, ?zh, Nat.le_of_ble_eq_true rfl⟩⟩
          case zg =>
            (repeat' (first | assumption | omega | exact (by rw [hrowc, hvc]; exact congrArg (fun x => some (B.cells x)) hsq) | (refine And.intro ?_ ?_)))
          case zm =>
            (repeat' (first | omega | exact (by rw [hrowc, hvc]; exact congrArg (fun x => some (B.cells x)) hsq) | (refine And.intro ?_ ?_)))
          case zc =>
            (repeat' (first | (refine And.intro ?_ ?_) | exact trivial | exact A.Le.refl _ | exact rfl | exact (by rw [hrowc, hvc]; exact congrArg (fun x => some (B.cells x)) hsq)))
          case zv =>
            (repeat' (first | (refine And.intro ?_ ?_) | exact trivial | exact A.Le.refl _ | exact rfl | exact (by rw [hrowc, hvc]; exact congrArg (fun x => some (B.cells x)) hsq)))
          case zh =>
            (repeat' (first | (refine And.intro ?_ ?_) | exact trivial | exact A.Le.refl _ | exact rfl | exact (by rw [hrowc, hvc]; exact congrArg (fun x => some (B.cells x)) hsq)))
        | cons y part =>
          have hpl := plus_o (y :: part) n (by omega)
          have hgq := hgp (y :: part)
          have hsq := hset (y :: part) ((y :: part) ++ [n]) y (part ++ [n]) rfl
          have hlq := bB_len (aRow s l (k + 1) (y :: part)) (hrs s)
          have hhv : 0 + (k + 1) * 1 < hrs s := by omega
          refine Aw.em tab_ok mb0 [(5, [outA (y :: part)]), (7, [.sl false .any (ints ((y :: part) ++ [n]))])] rfl rfl ?zo ?zk
          case zo =>
            repeat' apply AllP.cons
            all_goals first | exact trivial | exact rfl | exact Int.natCast_nonneg _ | exact hgq | exact hpl | exact (show 0 + (k + 1) * 1 < _ by rw [hlq]; exact hhv) | exact (show ((k + 1 : Nat) : Int) < (hrs s : Int) by omega)
          case zk =>
          refine Aw.em tab_ok mb0 [] rfl rfl ?zo ?zk
          case zo =>
            repeat' apply AllP.cons
            all_goals first | exact trivial | exact (by simp only [Ob.of, inR]; omega)
          case zk =>
          refine ⟨c + 1, ?zg, ?zm, ⟨?zc, ?zv, ?zh, Nat.le_of_ble_eq_true rfl⟩⟩
          case zg =>
            (repeat' (first | assumption | omega | exact (by rw [hrowc, hvc]; exact congrArg (fun x => some (B.cells x)) hsq) | (refine And.intro ?_ ?_)))
          case zm =>
            (repeat' (first | omega | exact (by rw [hrowc, hvc]; exact congrArg (fun x => some (B.cells x)) hsq) | (refine And.intro ?_ ?_)))
          case zc =>
            (repeat' (first | (refine And.intro ?_ ?_) | exact trivial | exact A.Le.refl _ | exact rfl | exact (by rw [hrowc, hvc]; exact congrArg (fun x => some (B.cells x)) hsq)))
          case zv =>
            (repeat' (first | (refine And.intro ?_ ?_) | exact trivial | exact A.Le.refl _ | exact rfl | exact (by rw [hrowc, hvc]; exact congrArg (fun x => some (B.cells x)) hsq)))
          case zh =>
            (repeat' (first | (refine And.intro ?_ ?_) | exact trivial | exact A.Le.refl _ | exact rfl | exact (by rw [hrowc, hvc]; exact congrArg (fun x => some (B.cells x)) hsq)))
    have hce : c = s.many.toNat := by have := of_decide_eq_false (show decide ((c : Int) < s.many) = false from h2); omega
    subst hce
    refine Aw.exit2 ?_
    rw [← hR]
    have hnext : bB (aRow s l k (aheR s l k)) (hrs s) = bB (aRow s l (k + 1) []) (hrs s) := bB_congr fun i hi => by
      unfold aRow
      by_cases e : i = k
      · rw [if_neg (by omega), if_pos e, if_pos (by omega), e]
      · rw [if_neg e]
        by_cases e2 : i < k
        · rw [if_pos e2, if_pos (by omega)]
        · rw [if_neg e2, if_neg (by omega)]; split <;> rfl
    refine Aw.em tab_ok mb0 [] rfl rfl ?zo ?zk
    case zo =>
      repeat' apply AllP.cons
      all_goals first | exact trivial | exact (by simp only [Ob.of, inR]; omega)
    case zk =>
    refine ⟨k + 1, ?zg, ?zm, ⟨?zc, ?zv, ?zh, Nat.le_of_ble_eq_true rfl⟩⟩
    case zg =>
      (repeat' (first | assumption | omega | exact congrArg some hnext | exact .of_eq (congrArg A.int (by omega)) | (refine And.intro ?_ ?_)))
    case zm =>
      (repeat' (first | omega | exact congrArg some hnext | exact .of_eq (congrArg A.int (by omega)) | (refine And.intro ?_ ?_)))
    case zc =>
      (repeat' (first | (refine And.intro ?_ ?_) | exact trivial | exact A.Le.refl _ | exact rfl | exact congrArg some hnext | exact .of_eq (congrArg A.int (by omega))))
    case zv =>
      (repeat' (first | (refine And.intro ?_ ?_) | exact trivial | exact A.Le.refl _ | exact rfl | exact congrArg some hnext | exact .of_eq (congrArg A.int (by omega))))
    case zh =>
      (repeat' (first | (refine And.intro ?_ ?_) | exact trivial | exact A.Le.refl _ | exact rfl | exact congrArg some hnext | exact .of_eq (congrArg A.int (by omega))))
  have hke : k = hrs s := by have := of_decide_eq_false (show decide (((k : Int) < s.hours)) = false from h1); omega
  subst hke
  refine Aw.exit2 ?_
  refine Aw.freezeS (id := 0) (t := 5) (n := hrs s) (sz := 1) (cs := (List.range (hrs s)).map fun i => outA (aRow s l (hrs s) [] i)) ((List.range (hrs s)).map fun i => [(outA (aRow s l (hrs s) [] i)).down]) rfl rfl (rows_one _) (by simp) ?_
  refine Aw.sm tab_ok mb0 [] rfl rfl ?zo ?zk
  case zo =>
    repeat' apply AllP.cons
    all_goals first | exact trivial
  case zk =>
  refine Aw.ret ⟨_, .cons (.tmp _) .nil, congrArg (A.sl false .any) (List.map_congr_left fun i hi => ?_)⟩
  have hi := List.mem_range.1 hi
  have e : aRow s l (hrs s) [] i = aheR s l i := by unfold aRow; rw [if_pos (by omega)]
  rw [e, outA_cons (by rw [hlen]; omega)]
  show [A.sl false .any (ints _)] = [A.sl (List.isEmpty _) .any (ints _)]
  cases hq : aheR s l i with
  | nil => have := hlen (i); rw [hq] at this; simp at this; omega
  | cons y q => rfl
end Go.Proofs.Ytohbjneaaahpcaa

namespace Go.Proofs.Ytohbjneaaahpcaa
open Go Go.AL Go.AL.Q Go.AL.Sh
theorem rows_get {f : Nat → A} {n k : Nat} (h : k < n) : ((List.range n).map fun i => [f i])[k]? = some [f k] := by simp [h]
theorem rows_lenI {f : Nat → A} {n : Nat} : ((((List.range n).map fun i => [f i]).length : Nat) : Int) = n := by simp
theorem rows_free {f : Nat → List Int} {n : Nat} : Free (.sl false .any ((List.range n).map fun i => [outW (f i)])) := .sl _ _ _ fun e he x hx => by
  obtain ⟨i, _, rfl⟩ := List.mem_map.1 he
  simp at hx; subst hx; exact outW_free _
theorem ints_at {l : List Int} {k : Nat} (h : k < l.length) : (ints l)[k]? = some [.int (l.getD k 0)] := by
  rw [ints_get h]; simp [List.getD_eq_getElem?_getD, h]
set_option maxRecDepth 20000 in
set_option maxHeartbeats 1000000 in
theorem rCan_a (s : Sea) (hf : SeaFit s) (b : Bool) (l : List Rep) (hl : (l.length : Int) ≤ 9223372036854775806) (wrong hour : Int) :
    Ans Try.prog 25 [.agg s.c, .sl b .any (l.map Rep.c), .int wrong, .int hour] (.tup [outA (CanR s l wrong hour).1, .int (CanR s l wrong hour).2]) := by
  have hfr : Free (.tup [outA (CanR s l wrong hour).1, .int (CanR s l wrong hour).2]) := .tup _ (allC (outA_free _) (all1 (.s _)))
  have us : ∀ {m : Nat}, Under m (A.pt s.c) := (Free.pt _ s.free).under
  have hck := asked_r s hf b l hl
  refine told Try.func25 rfl rfl (Pure.of tab_ok Try.func25 rfl Try.ntmps25 rfl (allC (.agg _ s.free) (allC (free_map Rep.free _ _ _) (allC (.s _) (all1 (.s _))))) (allC (fun _ => rfl) (allC (fun _ => rfl) (allC (fun _ => rfl) (all1 (fun _ => rfl))))) (by first | exact .s _ | assumption | exact .tup _ (by intro x hx; simp only [List.mem_cons, List.not_mem_nil, or_false] at hx; rcases hx with rfl | rfl | rfl | rfl <;> first | exact .s _ | (simp_all; done))) fun E hE => ?_)
  refine Aw.sm tab_ok mb0 [] rfl rfl ?zo ?zk
  case zo =>
    repeat' apply AllP.cons
    all_goals first | exact trivial
  case zk =>
  refine Aw.seq ?_
  refine Aw.sm tab_ok mb0 [(2, [.int (askR s l)])] rfl rfl ?zo ?zk
  case zo =>
    repeat' apply AllP.cons
    all_goals first | exact trivial | exact Nat.le_of_ble_eq_true rfl | exact hck
  case zk =>
  refine Aw.sm tab_ok mb0 [] rfl rfl ?zo ?zk
  case zo =>
    repeat' apply AllP.cons
    all_goals first | exact trivial
  case zk =>
  cases hok : s.ok with
  | false =>
    have e : askR s l = 10 := by unfold askR; rw [hok]; rfl
    have e2 : CanR s l wrong hour = ([], 10) := by unfold CanR; rw [hok]; rfl
    rw [e, e2]
    refine Aw.cond rfl (fun _ => ?_) (fun h => absurd h (by decide))
    refine Aw.sm tab_ok mb0 [] rfl rfl ?zo ?zk
    case zo =>
      repeat' apply AllP.cons
      all_goals first | exact trivial
    case zk =>
    exact Aw.ret ⟨_, .cons (.tmp _) (.cons (.tmp _) .nil), rfl⟩
  | true =>
  cases hr : s.repsOk l with
  | false =>
    have e : askR s l = 11 := by unfold askR; rw [hok, hr]; rfl
    have e2 : CanR s l wrong hour = ([], 11) := by unfold CanR; rw [hok, hr]; rfl
    rw [e, e2]
    refine Aw.cond rfl (fun _ => ?_) (fun h => absurd h (by decide))
    refine Aw.sm tab_ok mb0 [] rfl rfl ?zo ?zk
    case zo =>
      repeat' apply AllP.cons
      all_goals first | exact trivial
    case zk =>
    exact Aw.ret ⟨_, .cons (.tmp _) (.cons (.tmp _) .nil), rfl⟩
  | true =>
  have e : askR s l = 0 := by unfold askR; rw [hok, hr]; rfl
  have e2 : CanR s l wrong hour = if askedB s wrong hour then (canF s l wrong hour, canE (canF s l wrong hour)) else ([], 7) := by unfold CanR; rw [hok, hr]; rfl
  have ho := Sea.ok_of hok
  have hrf := reps_fit hr
  have hp := hrs_pos ho
  have hm := ho.many
  have hmm : s.wide * s.high = s.many := rfl
  have hl24 : l.length ≤ 24 := by have := hrf.len; omega
  rw [e, e2]
  refine Aw.cond rfl (fun h => absurd h (by decide)) (fun _ => Aw.skip ?_)
  have i1 := in_t wrong 0 24
  have i2 := in_t hour 0 (s.hours - 1)
  have hab : askedB s wrong hour = cond (wi wrong 0 24) (wi hour 0 (s.hours - 1)) false := rfl
  have hai := asked_iff (s := s) (wrong := wrong) (hour := hour)
  generalize wi wrong 0 24 = w1 at *
  generalize wi hour 0 (s.hours - 1) = w2 at *
  refine Aw.seq ?_
  refine Aw.sm tab_ok mb0 [(1, [.bool w1]), (8, [.bool w2])] rfl rfl ?zo ?zk
  case zo =>
    repeat' apply AllP.cons
    all_goals first | exact trivial | exact id | exact fun _ => rfl | exact fun _ => Nat.le_of_ble_eq_true rfl | exact gq_f | exact i1 | exact fun _ => i2 | exact fun _ => (by simp only [Ob.of, inR]; omega)
  case zk =>
  refine Aw.cond rfl (fun h => ?_) (fun h => Aw.skip ?_)
  · have h : cond (!w1) true (!w2) = true := h
    have hno : askedB s wrong hour = false := by rw [hab]; cases w1 <;> cases w2 <;> simp_all
    rw [hno]
    refine Aw.sm tab_ok mb0 [] rfl rfl ?zo ?zk
    case zo =>
      repeat' apply AllP.cons
      all_goals first | exact trivial
    case zk =>
    exact Aw.ret ⟨_, .cons (.tmp _) (.cons (.tmp _) .nil), rfl⟩
  have h : cond (!w1) true (!w2) = false := h
  have hyes : askedB s wrong hour = true := by rw [hab]; cases w1 <;> cases w2 <;> simp_all
  rw [hyes]
  obtain ⟨g1, g2, g3⟩ := hai.1 hyes
  have hcan := rcan_is ho hl24 (wrong := wrong) (hour := hour) g1.2 g2 g3
  have hah := ahead_t s hf ho b l hrf
  have hbe := behind_t s hf ho b l hrf
  have fa := rows_free (f := fun h => aheR s l h) (n := hrs s)
  have fb := rows_free (f := fun h => behR s l (hrs s - 1 - h)) (n := hrs s)
  have ga := rows_get (f := fun h => outW (aheR s l h)) (n := hrs s) (k := hour.toNat) (by omega)
  have gb := rows_get (f := fun h => outW (behR s l (hrs s - 1 - h))) (n := hrs s) (k := hour.toNat) (by omega)
  have la := rows_lenI (f := fun h => outW (aheR s l h)) (n := hrs s)
  have lb := rows_lenI (f := fun h => outW (behR s l (hrs s - 1 - h))) (n := hrs s)
  generalize ((List.range (hrs s)).map fun h => [outW (aheR s l h)]) = RA at *
  generalize ((List.range (hrs s)).map fun h => [outW (behR s l (hrs s - 1 - h))]) = RB at *
  have ua : ∀ {m : Nat}, Under m (.sl false .any RA) := fa.under
  have ub : ∀ {m : Nat}, Under m (.sl false .any RB) := fb.under
  refine Aw.sd tab_ok mixed mb0 [(2, [.sl false .any RA]), (5, [.sl false .any RB])] rfl (by kernel_rfl) rfl rfl ?zo ?zk
  case zo =>
    repeat' apply AllP.cons
    all_goals first | exact trivial | exact Nat.le_of_ble_eq_true rfl | exact hah | exact hbe
  case zk =>
  refine Aw.sm tab_ok mb0 [] rfl rfl ?zo ?zk
  case zo =>
    repeat' apply AllP.cons
    all_goals first | exact trivial
  case zk =>
  refine Aw.seq ?_
  refine Aw.sm tab_ok mb0 [] rfl rfl ?zo ?zk
  case zo =>
    repeat' apply AllP.cons
    all_goals first | exact trivial
  case zk =>
  refine Aw.block (Aw.rounds 0 hE [(2, .int wrong), (3, .int hour), (4, .pt s.c), (11, .sl false .any RA), (12, .sl false .any RB)] (fun c : Nat => [(13, grL 3 (rcanK s l wrong hour.toNat c)), (14, .int c)]) (fun c => []) (fun c => c ≤ s.many.toNat) (fun c => s.many.toNat - c) 0 ?zg ⟨?zc, ?zv, ?zh, Nat.le_of_ble_eq_true rfl⟩ ?zu (fun c zhk => ?zw) (fun c zhk => ?zx) fun c hk => ?zr)
  case zg =>
    (repeat' (first | exact Nat.zero_le _ | exact Nat.le_refl _ | exact trivial | exact us | exact ua | exact ub | (refine And.intro ?_ ?_)))
  case zc =>
    (repeat' (first | (refine And.intro ?_ ?_) | exact trivial | exact A.Le.refl _ | exact rfl | exact us | exact ua | exact ub))
  case zv =>
    (repeat' (first | (refine And.intro ?_ ?_) | exact trivial | exact A.Le.refl _ | exact rfl | exact us | exact ua | exact ub))
  case zh =>
    (repeat' (first | (refine And.intro ?_ ?_) | exact trivial | exact A.Le.refl _ | exact rfl | exact us | exact ua | exact ub))
  case zu =>
    (repeat' (first | exact trivial | exact Under.s _ | exact Under.un | assumption | exact (free_ints _ _ _).under | exact Under.ref _ _ (by decide) | exact Under.ms _ _ _ (by decide) | exact Under.mp _ (by decide) | exact (Free.agg _ (by assumption)).under | exact (Free.pt _ (by assumption)).under | exact grL_under _ | exact outA_under _ | exact Nat.le_of_ble_eq_true rfl | exact (fun _ _ => rfl) | exact us | exact ua | exact ub | (refine And.intro ?_ ?_)))
  case zw =>
    (repeat' (first | exact trivial | exact Under.s _ | exact Under.un | assumption | exact (free_ints _ _ _).under | exact Under.ref _ _ (by decide) | exact Under.ms _ _ _ (by decide) | exact Under.mp _ (by decide) | exact (Free.agg _ (by assumption)).under | exact (Free.pt _ (by assumption)).under | exact grL_under _ | exact outA_under _ | exact Nat.le_of_ble_eq_true rfl | exact (fun _ _ => rfl) | exact us | exact ua | exact ub | (refine And.intro ?_ ?_)))
  case zx =>
    (repeat' (first | exact trivial | exact Under.s _ | exact Under.un | assumption | exact (free_ints _ _ _).under | exact Under.ref _ _ (by decide) | exact Under.ms _ _ _ (by decide) | exact Under.mp _ (by decide) | exact (Free.agg _ (by assumption)).under | exact (Free.pt _ (by assumption)).under | exact grL_under _ | exact outA_under _ | exact Nat.le_of_ble_eq_true rfl | exact (fun _ _ => rfl) | exact us | exact ua | exact ub | (refine And.intro ?_ ?_)))
  case zr =>
  refine Aw.seq ?_
  refine Aw.sm tab_ok mb0 [] rfl rfl ?zo ?zk
  case zo =>
    repeat' apply AllP.cons
    all_goals first | exact trivial | exact Nat.le_of_ble_eq_true rfl | exact (by simp only [Ob.of, inR]; omega)
  case zk =>
  refine Aw.cond rfl (fun h2 => Aw.skip ?_) (fun h2 => ?_)
  · have hlc : c < s.many.toNat := by have := of_decide_eq_true (show decide ((c : Int) < s.many) = true from h2); omega
    have hsu := rcanK_succ s l wrong hour.toNat c
    have hgl := rcanK_len s l wrong hour.toNat c
    have hrp : rcanP s l wrong hour.toNat c = decide ((aheR s l hour.toNat).getD c 0 + (behR s l (hrs s - 1 - hour.toNat)).getD c 0 ≤ wrong) := rfl
    have b1 := ahe_bd ho hl24 (h := hour.toNat) (c := c) (by omega) hlc
    have b2 := beh_bd ho hl24 (j := hrs s - 1 - hour.toNat) (c := c) (by omega) hlc
    have p1 := ints_at (l := aheR s l hour.toNat) (k := c) (by rw [aheR_len]; exact hlc)
    have p2 := ints_at (l := behR s l (hrs s - 1 - hour.toNat)) (k := c) (by rw [behR_len]; exact hlc)
    generalize (aheR s l hour.toNat).getD c 0 = va at *
    generalize (behR s l (hrs s - 1 - hour.toNat)).getD c 0 = vb at *
    generalize aheR s l hour.toNat = ra at *
    generalize behR s l (hrs s - 1 - hour.toNat) = rb at *
    generalize rcanK s l wrong hour.toNat c = N at *
    refine Aw.seq (Aw.block ?_)
    refine Aw.sd tab_ok mixed mb0 [(2, [outW ra]), (5, [.int va]), (9, [outW rb]), (12, [.int vb])] rfl (by kernel_rfl) rfl rfl ?zo ?zk
    case zo =>
      repeat' apply AllP.cons
      all_goals first | exact trivial | exact rfl | exact Nat.le_of_ble_eq_true rfl | exact Int.natCast_nonneg _ | exact ga | exact gb | exact p1 | exact p2 | exact g2 | exact (by simp only [Ob.of, inR]; omega)
    case zk =>
    refine Aw.cond rfl (fun h3 => ?_) (fun h3 => Aw.skip ?_)
    · have h3 : decide (va + vb ≤ wrong) = true := h3
      rw [hrp, h3, if_pos rfl] at hsu
      cases N with
      | nil =>
        refine Aw.em tab_ok mb0 [] rfl rfl ?zo ?zk
        case zo =>
          repeat' apply AllP.cons
          all_goals first | exact trivial | exact Nat.le_of_ble_eq_true rfl | exact (show ∀ z ∈ [] ++ [[A.int _]], z.length = 1 from fun z hz => by simp at hz; subst hz; rfl)
        case zk =>
        refine Aw.em tab_ok mb0 [] rfl rfl ?zo ?zk
        case zo =>
          repeat' apply AllP.cons
          all_goals first | exact trivial | exact (by simp only [Ob.of, inR]; omega)
        case zk =>
        refine ⟨c + 1, ?zg, ?zm, ⟨?zc, ?zv, ?zh, Nat.le_of_ble_eq_true rfl⟩⟩
        case zg =>
          (repeat' (first | assumption | omega | exact .of_eq (by rw [hsu]; rfl) | (refine And.intro ?_ ?_)))
        case zm =>
          (repeat' (first | omega | exact .of_eq (by rw [hsu]; rfl) | (refine And.intro ?_ ?_)))
        case zc =>
          (repeat' (first | (refine And.intro ?_ ?_) | exact trivial | exact A.Le.refl _ | exact rfl | exact .of_eq (by rw [hsu]; rfl)))
        case zv =>
          (repeat' (first | (refine And.intro ?_ ?_) | exact trivial | exact A.Le.refl _ | exact rfl | exact .of_eq (by rw [hsu]; rfl)))
        case zh =>
          (repeat' (first | (refine And.intro ?_ ?_) | exact trivial | exact A.Le.refl _ | exact rfl | exact .of_eq (by rw [hsu]; rfl)))
      | cons y N =>
        have hz : ∀ z ∈ ints (y :: N), z.length = 1 := fun z hz => by obtain ⟨i, _, rfl⟩ := List.mem_map.1 hz; rfl
        have hl2 : (ints (y :: N)).length ≤ c := by simp only [ints, List.length_map]; exact hgl
        refine Aw.em tab_ok mb0 [] rfl rfl ?zo ?zk
        case zo =>
          repeat' apply AllP.cons
          all_goals first | exact trivial | exact Nat.le_of_ble_eq_true rfl | exact (show ∀ z ∈ [[A.int _]], z.length = 1 from fun z hz => by simp at hz; subst hz; rfl) | exact hz | exact (show ((ints (y :: N)).length + 1) * 8 ≤ 140737488355328 by omega) | exact (show (ints (y :: N)).length + 1 ≤ maxLen by unfold maxLen; omega)
        case zk =>
        refine Aw.em tab_ok mb0 [] rfl rfl ?zo ?zk
        case zo =>
          repeat' apply AllP.cons
          all_goals first | exact trivial | exact (by simp only [Ob.of, inR]; omega)
        case zk =>
        refine ⟨c + 1, ?zg, ?zm, ⟨?zc, ?zv, ?zh, Nat.le_of_ble_eq_true rfl⟩⟩
        case zg =>
          (repeat' (first | assumption | omega | exact .of_eq (hsu ▸ (show grL 3 ((y :: N) ++ [(c : Int)]) = A.sl false (.own 3) (ints (y :: N) ++ [[A.int c]]) by simp [grL, ints])) | (refine And.intro ?_ ?_)))
        case zm =>
          (repeat' (first | omega | exact .of_eq (hsu ▸ (show grL 3 ((y :: N) ++ [(c : Int)]) = A.sl false (.own 3) (ints (y :: N) ++ [[A.int c]]) by simp [grL, ints])) | (refine And.intro ?_ ?_)))
        case zc =>
          (repeat' (first | (refine And.intro ?_ ?_) | exact trivial | exact A.Le.refl _ | exact rfl | exact .of_eq (hsu ▸ (show grL 3 ((y :: N) ++ [(c : Int)]) = A.sl false (.own 3) (ints (y :: N) ++ [[A.int c]]) by simp [grL, ints]))))
        case zv =>
          (repeat' (first | (refine And.intro ?_ ?_) | exact trivial | exact A.Le.refl _ | exact rfl | exact .of_eq (hsu ▸ (show grL 3 ((y :: N) ++ [(c : Int)]) = A.sl false (.own 3) (ints (y :: N) ++ [[A.int c]]) by simp [grL, ints]))))
        case zh =>
          (repeat' (first | (refine And.intro ?_ ?_) | exact trivial | exact A.Le.refl _ | exact rfl | exact .of_eq (hsu ▸ (show grL 3 ((y :: N) ++ [(c : Int)]) = A.sl false (.own 3) (ints (y :: N) ++ [[A.int c]]) by simp [grL, ints]))))
    · have h3 : decide (va + vb ≤ wrong) = false := h3
      rw [hrp, h3, if_neg (by decide)] at hsu
      refine Aw.em tab_ok mb0 [] rfl rfl ?zo ?zk
      case zo =>
        repeat' apply AllP.cons
        all_goals first | exact trivial | exact (by simp only [Ob.of, inR]; omega)
      case zk =>
      refine ⟨c + 1, ?zg, ?zm, ⟨?zc, ?zv, ?zh, Nat.le_of_ble_eq_true rfl⟩⟩
      case zg =>
        (repeat' (first | assumption | omega | exact .of_eq (by rw [hsu]; rfl) | (refine And.intro ?_ ?_)))
      case zm =>
        (repeat' (first | omega | exact .of_eq (by rw [hsu]; rfl) | (refine And.intro ?_ ?_)))
      case zc =>
        (repeat' (first | (refine And.intro ?_ ?_) | exact trivial | exact A.Le.refl _ | exact rfl | exact .of_eq (by rw [hsu]; rfl)))
      case zv =>
        (repeat' (first | (refine And.intro ?_ ?_) | exact trivial | exact A.Le.refl _ | exact rfl | exact .of_eq (by rw [hsu]; rfl)))
      case zh =>
        (repeat' (first | (refine And.intro ?_ ?_) | exact trivial | exact A.Le.refl _ | exact rfl | exact .of_eq (by rw [hsu]; rfl)))
  have hce : c = s.many.toNat := by have := of_decide_eq_false (show decide ((c : Int) < s.many) = false from h2); omega
  subst hce
  refine Aw.exit2 ?_
  rw [hcan]
  generalize canF s l wrong hour = G at *
  refine Aw.seq ?_
  cases G with
  | nil =>
    refine Aw.sm tab_ok mb0 [] rfl rfl ?zo ?zk
    case zo =>
      repeat' apply AllP.cons
      all_goals first | exact trivial
    case zk =>
    refine Aw.cond rfl (fun _ => ?_) (fun h => absurd h (by decide))
    refine Aw.sm tab_ok mb0 [] rfl rfl ?zo ?zk
    case zo =>
      repeat' apply AllP.cons
      all_goals first | exact trivial
    case zk =>
    exact Aw.ret ⟨_, .cons (.tmp _) (.cons (.tmp _) .nil), rfl⟩
  | cons y G =>
    refine Aw.sm tab_ok mb0 [] rfl rfl ?zo ?zk
    case zo =>
      repeat' apply AllP.cons
      all_goals first | exact trivial
    case zk =>
    refine Aw.cond rfl (fun h => ?_) (fun _ => Aw.skip ?_)
    · have h := of_decide_eq_true (show decide (((ints (y :: G)).length : Int) = 0) = true from h)
      simp [ints] at h; omega
    refine Aw.sm tab_ok mb0 [] rfl rfl ?zo ?zk
    case zo =>
      repeat' apply AllP.cons
      all_goals first | exact trivial
    case zk =>
    exact Aw.ret ⟨_, .cons (.tmp _) (.cons (.tmp _) .nil), rfl⟩
theorem rCan_t (s : Sea) (hf : SeaFit s) (b : Bool) (l : List Rep) (hl : (l.length : Int) ≤ 9223372036854775806) (wrong hour : Int) :
    Ans Try.prog 25 [.agg s.c, .sl b .any (l.map Rep.c), .int wrong, .int hour] (.tup [outW (CanR s l wrong hour).1, .int (CanR s l wrong hour).2]) := Ans_out (rCan_a s hf b l hl wrong hour) (leT2 (outA_le _) (.refl _))
end Go.Proofs.Ytohbjneaaahpcaa

namespace Go.Proofs.Ytohbjneaaahpcaa
open Go Go.AL Go.AL.Q Go.AL.Sh
end Go.Proofs.Ytohbjneaaahpcaa

namespace Go.Proofs.Ytohbjneaaahpcaa
open Go Go.AL Go.AL.Q Go.AL.Sh
theorem canF_l80 {s : Sea} (ho : s.Ok) (l : List Rep) (wrong hour : Int) : (canF s l wrong hour).length ≤ 80 := Nat.le_trans (goL_len _ _ _) (cellsL_len _ ho)
structure MoreIs (G A B C : List Int) (e f g h : Int) : Prop where
  e : e = canE G
  a : ∀ c ∈ A, c ∈ G
  b : ∀ c ∈ B, c ∈ G
  c : ∀ c ∈ C, c ∈ G
  f : (f = 11 ∧ A = []) ∨ f = canE A
  g : g = canE B
  h : h = canE C
  la : A.length ≤ 80
  lb : B.length ≤ 80
  lc : C.length ≤ 80
  lG : G.length ≤ 80
end Go.Proofs.Ytohbjneaaahpcaa

namespace Go.Proofs.Ytohbjneaaahpcaa
open Go Go.AL Go.AL.Q Go.AL.Sh
structure TrkIs (s : Sea) (l : List Rep) (NM : List Int) (fw : Int) (T : List Nat) (n : Int) (is : Bool) : Prop where
  r : TrackR s l (tI T) = (n, is, 0)
  c : ∀ c ∈ tI T, 0 ≤ c ∧ c ≤ 1000
  len : T.length ≤ 12
  h : is = true → n = fw → (T.length : Int) = s.hours ∧ ∀ i ∈ NM, ∃ k : Nat, i = k ∧ ∃ hk : k < l.length, lieB s.wide T l[k] = true
end Go.Proofs.Ytohbjneaaahpcaa

namespace Go.Proofs.Ytohbjneaaahpcaa
open Go Go.AL Go.AL.Q Go.AL.Sh
def askC (s : Sea) (l : List Rep) (wrong hour : Int) (casts : List Sp) : List Int := if AskE s l wrong hour casts = 0 then canF s l wrong hour else []
theorem ask_cases (s : Sea) (l : List Rep) (wrong hour : Int) (casts : List Sp) :
    (CanR s l wrong hour = ([], AskE s l wrong hour casts) ∧ AskE s l wrong hour casts ≠ 0 ∧ AskE s l wrong hour casts ≠ 12 ∧ askC s l wrong hour casts = []) ∨
    (s.ok = true ∧ (CanR s l wrong hour).2 = canE (canF s l wrong hour) ∧ (CanR s l wrong hour).1 = canF s l wrong hour ∧ AskE s l wrong hour casts = if castsOk s casts then canE (canF s l wrong hour) else 13) := by
  unfold askC CanR AskE
  cases s.ok with
  | false => exact .inl ⟨rfl, by show (10 : Int) ≠ 0; decide, by show (10 : Int) ≠ 12; decide, rfl⟩
  | true =>
    cases s.repsOk l with
    | false => exact .inl ⟨rfl, by show (11 : Int) ≠ 0; decide, by show (11 : Int) ≠ 12; decide, rfl⟩
    | true =>
      cases askedB s wrong hour with
      | false => exact .inl ⟨rfl, by show (7 : Int) ≠ 0; decide, by show (7 : Int) ≠ 12; decide, rfl⟩
      | true => exact .inr ⟨rfl, rfl, rfl, rfl⟩
set_option maxRecDepth 20000 in
set_option maxHeartbeats 1000000 in
theorem rAsked_t (s : Sea) (hf : SeaFit s) (b : Bool) (l : List Rep) (hl : (l.length : Int) ≤ 9223372036854775806) (wrong hour : Int) (cb : Bool) (casts : List Sp) (hcs : CstFit casts) :
    Ans Try.prog 69 [.agg s.c, .sl b .any (l.map Rep.c), .int wrong, .int hour, .sl cb .any (casts.map Sp.c)] (.tup [outW (askC s l wrong hour casts), .int (AskE s l wrong hour casts)]) := by
  have us : ∀ {m : Nat}, Under m (A.pt s.c) := (Free.pt _ s.free).under
  have uc : ∀ {m : Nat}, Under m (.sl cb .any (casts.map Sp.c)) := (free_map Sp.free _ _ _).under
  have lc : ((casts.map Sp.c).length : Int) = casts.length := by simp
  have hclen : (casts.length : Int) ≤ 9223372036854775806 := by have := hcs.len; omega
  have hca := rCan_t s hf b l hl wrong hour
  rcases ask_cases s l wrong hour casts with ⟨h1, h2, h3, h4⟩ | ⟨hok, h1, h2, h3⟩
  · rw [h1] at hca
    rw [h4]
    generalize AskE s l wrong hour casts = e at *
    have hfr2 : Free (.tup [outA [], .int e]) := .tup _ (allC (outA_free _) (all1 (.s _)))
    refine Ans_out (v := .tup [outA [], .int e]) ?_ (leT2 (outA_le _) (.refl _))
    refine told Try.func69 rfl rfl (Pure.of tab_ok Try.func69 rfl Try.ntmps69 rfl (allC (.agg _ s.free) (allC (free_map Rep.free _ _ _) (allC (.s _) (allC (.s _) (all1 (free_map Sp.free _ _ _)))))) (allC (fun _ => rfl) (allC (fun _ => rfl) (allC (fun _ => rfl) (allC (fun _ => rfl) (all1 (fun _ => rfl)))))) (by first | exact .s _ | assumption | exact .tup _ (by intro x hx; simp only [List.mem_cons, List.not_mem_nil, or_false] at hx; rcases hx with rfl | rfl | rfl | rfl <;> first | exact .s _ | (simp_all; done))) fun E hE => ?_)
    have e1 : (e != 0) = true := by simpa using h2
    have e2 : (e != 12) = true := by simpa using h3
    refine Aw.sm tab_ok mb0 [] rfl rfl ?zo ?zk
    case zo =>
      repeat' apply AllP.cons
      all_goals first | exact trivial
    case zk =>
    refine Aw.sm tab_ok mb0 [(4, [.tup [outW [], .int e]])] rfl rfl ?zo ?zk
    case zo =>
      repeat' apply AllP.cons
      all_goals first | exact trivial | exact Nat.le_of_ble_eq_true rfl | exact hca
    case zk =>
    refine Aw.seq ?_
    refine Aw.sm tab_ok mb0 [] rfl rfl ?zo ?zk
    case zo =>
      repeat' apply AllP.cons
      all_goals first | exact trivial | exact id | exact fun _ => rfl
    case zk =>
    refine Aw.cond rfl (fun _ => ?_) (fun h => ?_)
    · refine Aw.sm tab_ok mb0 [] rfl rfl ?zo ?zk
      case zo =>
        repeat' apply AllP.cons
        all_goals first | exact trivial
      case zk =>
      exact Aw.ret ⟨_, .cons (.tmp _) (.cons (.tmp _) .nil), rfl⟩
    · have h : cond (e != 0) (e != 12) false = false := h
      rw [e1, e2] at h; cases h
  have ho := Sea.ok_of hok
  have hm := ho.many
  have hmm : s.wide * s.high = s.many := rfl
  have hw := ho.w
  have hcok : castsOk s casts = cond (wi ((casts.map Sp.c).length : Int) 1 8) (casts.all (castOk s)) false := by rw [lc]; rfl
  have hcE := canE_or (canF s l wrong hour)
  have hck : askC s l wrong hour casts = if castsOk s casts then canF s l wrong hour else [] := by
    unfold askC
    rw [h3]
    cases castsOk s casts with
    | false => rfl
    | true =>
      simp only [if_true]
      cases canF s l wrong hour <;> rfl
  rw [h1, h2] at hca
  rw [hck, h3]
  have walk : ∀ v, (castsOk s casts = true → v = .tup [outW (canF s l wrong hour), .int (canE (canF s l wrong hour))]) → (castsOk s casts = false → v = .tup [outA [], .int 13]) → Free v →
      Ans Try.prog 69 [.agg s.c, .sl b .any (l.map Rep.c), .int wrong, .int hour, .sl cb .any (casts.map Sp.c)] v := by
    intro v hv1 hv2 hfr
    generalize canE (canF s l wrong hour) = e at *
    generalize canF s l wrong hour = G at *
    have uG : ∀ {m : Nat}, Under m (outW G) := (outW_free G).under
    refine told Try.func69 rfl rfl (Pure.of tab_ok Try.func69 rfl Try.ntmps69 rfl (allC (.agg _ s.free) (allC (free_map Rep.free _ _ _) (allC (.s _) (allC (.s _) (all1 (free_map Sp.free _ _ _)))))) (allC (fun _ => rfl) (allC (fun _ => rfl) (allC (fun _ => rfl) (allC (fun _ => rfl) (all1 (fun _ => rfl)))))) (by first | exact .s _ | assumption | exact .tup _ (by intro x hx; simp only [List.mem_cons, List.not_mem_nil, or_false] at hx; rcases hx with rfl | rfl | rfl | rfl <;> first | exact .s _ | (simp_all; done))) fun E hE => ?_)
    refine Aw.sm tab_ok mb0 [] rfl rfl ?zo ?zk
    case zo =>
      repeat' apply AllP.cons
      all_goals first | exact trivial
    case zk =>
    refine Aw.sm tab_ok mb0 [(4, [.tup [outW G, .int e]])] rfl rfl ?zo ?zk
    case zo =>
      repeat' apply AllP.cons
      all_goals first | exact trivial | exact Nat.le_of_ble_eq_true rfl | exact hca
    case zk =>
    refine Aw.seq ?_
    refine Aw.sm tab_ok mb0 [] rfl rfl ?zo ?zk
    case zo =>
      repeat' apply AllP.cons
      all_goals first | exact trivial | exact id | exact fun _ => rfl
    case zk =>
    refine Aw.cond rfl (fun h => ?_) (fun _ => Aw.skip ?_)
    · have h : cond (e != 0) (e != 12) false = true := h
      rcases hcE with h9 | h9 <;> (rw [h9] at h; cases h)
    have hin := in_t ((casts.map Sp.c).length : Int) 1 8
    generalize wi ((casts.map Sp.c).length : Int) 1 8 = w0 at *
    refine Aw.sm tab_ok mb0 [(2, [.bool w0])] rfl rfl ?zo ?zk
    case zo =>
      repeat' apply AllP.cons
      all_goals first | exact trivial | exact hin
    case zk =>
    refine Aw.seq ?_
    refine Aw.sm tab_ok mb0 [] rfl rfl ?zo ?zk
    case zo =>
      repeat' apply AllP.cons
      all_goals first | exact trivial
    case zk =>
    refine Aw.block (Aw.rounds 0 hE [(4, .sl cb .any (casts.map Sp.c)), (5, .pt s.c), (12, outW G), (13, .int e)] (fun k : Nat => [(14, .bool (andAll w0 (castOk s) casts k)), (15, .int k)]) (fun k => []) (fun k => k ≤ casts.length) (fun k => casts.length - k) 0 ?zg ⟨?zc, ?zv, ?zh, Nat.le_of_ble_eq_true rfl⟩ ?zu (fun k zhk => ?zw) (fun k zhk => ?zx) fun k hk => ?zr)
    case zg =>
      (repeat' (first | exact Nat.zero_le _ | exact Nat.le_refl _ | exact trivial | exact us | exact uc | exact uG | exact .of_eq (by rw [andAll_zero]; rfl) | (refine And.intro ?_ ?_)))
    case zc =>
      (repeat' (first | (refine And.intro ?_ ?_) | exact trivial | exact A.Le.refl _ | exact rfl | exact us | exact uc | exact uG | exact .of_eq (by rw [andAll_zero]; rfl)))
    case zv =>
      (repeat' (first | (refine And.intro ?_ ?_) | exact trivial | exact A.Le.refl _ | exact rfl | exact us | exact uc | exact uG | exact .of_eq (by rw [andAll_zero]; rfl)))
    case zh =>
      (repeat' (first | (refine And.intro ?_ ?_) | exact trivial | exact A.Le.refl _ | exact rfl | exact us | exact uc | exact uG | exact .of_eq (by rw [andAll_zero]; rfl)))
    case zu =>
      (repeat' (first | exact trivial | exact Under.s _ | exact Under.un | assumption | exact (free_ints _ _ _).under | exact Under.ref _ _ (by decide) | exact Under.ms _ _ _ (by decide) | exact Under.mp _ (by decide) | exact (Free.agg _ (by assumption)).under | exact (Free.pt _ (by assumption)).under | exact grL_under _ | exact outA_under _ | exact Nat.le_of_ble_eq_true rfl | exact (fun _ _ => rfl) | exact us | exact uc | exact uG | exact .of_eq (by rw [andAll_zero]; rfl) | (refine And.intro ?_ ?_)))
    case zw =>
      (repeat' (first | exact trivial | exact Under.s _ | exact Under.un | assumption | exact (free_ints _ _ _).under | exact Under.ref _ _ (by decide) | exact Under.ms _ _ _ (by decide) | exact Under.mp _ (by decide) | exact (Free.agg _ (by assumption)).under | exact (Free.pt _ (by assumption)).under | exact grL_under _ | exact outA_under _ | exact Nat.le_of_ble_eq_true rfl | exact (fun _ _ => rfl) | exact us | exact uc | exact uG | exact .of_eq (by rw [andAll_zero]; rfl) | (refine And.intro ?_ ?_)))
    case zx =>
      (repeat' (first | exact trivial | exact Under.s _ | exact Under.un | assumption | exact (free_ints _ _ _).under | exact Under.ref _ _ (by decide) | exact Under.ms _ _ _ (by decide) | exact Under.mp _ (by decide) | exact (Free.agg _ (by assumption)).under | exact (Free.pt _ (by assumption)).under | exact grL_under _ | exact outA_under _ | exact Nat.le_of_ble_eq_true rfl | exact (fun _ _ => rfl) | exact us | exact uc | exact uG | exact .of_eq (by rw [andAll_zero]; rfl) | (refine And.intro ?_ ?_)))
    case zr =>
    refine Aw.seq ?_
    refine Aw.sm tab_ok mb0 [] rfl rfl ?zo ?zk
    case zo =>
      repeat' apply AllP.cons
      all_goals first | exact trivial | exact id | exact fun _ => rfl
    case zk =>
    refine Aw.cond rfl (fun h5 => Aw.skip ?_) (fun h5 => ?_)
    · have h5 : cond (andAll w0 (castOk s) casts k) (decide ((k : Int) < ((casts.map Sp.c).length : Int))) false = true := h5
      have hbk := ac1 h5
      have hlt : k < casts.length := by have := of_decide_eq_true (ac2 h5); omega
      have hget := get_map (f := Sp.c) hlt
      have e1 := andAll_succ hlt hbk
      have hso : castOk s casts[k] = cond (wi casts[k].lo 0 (s.wide * s.high - 1)) (wi casts[k].hi 0 9) false := rfl
      rw [hso] at e1
      generalize casts[k] = c at *
      refine Aw.seq (Aw.block ?_)
      refine Aw.ed tab_ok mixed mb0 [(2, c.c), (11, [.bool (wi c.lo 0 (s.wide * s.high - 1))]), (15, c.c), (18, [.bool (wi c.hi 0 9)])] rfl (by kernel_rfl) rfl rfl ?zo ?zk
      case zo =>
        repeat' apply AllP.cons
        all_goals first | exact trivial | exact id | exact rfl | exact fun _ => rfl | exact Nat.le_of_ble_eq_true rfl | exact fun _ => Nat.le_of_ble_eq_true rfl | exact Int.natCast_nonneg _ | exact fun _ => Int.natCast_nonneg _ | exact in_t _ _ _ | exact (in_t _ _ _).un | exact hget | exact fun _ => hget | exact (by simp only [Ob.of, inR]; omega)
      case zk =>
      refine Aw.em tab_ok mb0 [] rfl rfl ?zo ?zk
      case zo =>
        repeat' apply AllP.cons
        all_goals first | exact trivial | exact inrk k (by omega)
      case zk =>
      refine ⟨k + 1, ?zg, ?zm, ⟨?zc, ?zv, ?zh, Nat.le_of_ble_eq_true rfl⟩⟩
      case zg =>
        (repeat' (first | assumption | omega | exact .of_eq (congrArg A.bool e1) | (refine And.intro ?_ ?_)))
      case zm =>
        (repeat' (first | omega | exact .of_eq (congrArg A.bool e1) | (refine And.intro ?_ ?_)))
      case zc =>
        (repeat' (first | (refine And.intro ?_ ?_) | exact trivial | exact A.Le.refl _ | exact rfl | exact .of_eq (congrArg A.bool e1)))
      case zv =>
        (repeat' (first | (refine And.intro ?_ ?_) | exact trivial | exact A.Le.refl _ | exact rfl | exact .of_eq (congrArg A.bool e1)))
      case zh =>
        (repeat' (first | (refine And.intro ?_ ?_) | exact trivial | exact A.Le.refl _ | exact rfl | exact .of_eq (congrArg A.bool e1)))
    have h5 : cond (andAll w0 (castOk s) casts k) (decide ((k : Int) < ((casts.map Sp.c).length : Int))) false = false := h5
    have hend := andAll_end (b := w0) (p := castOk s) (l := casts) (k := k) (by
      cases e : andAll w0 (castOk s) casts k with
      | false => exact .inl rfl
      | true => rw [e] at h5; have := of_decide_eq_false h5; exact .inr (by omega)) hk
    refine Aw.exit2 ?_
    rw [hend, ← hcok]
    refine Aw.seq ?_
    refine Aw.sm tab_ok mb0 [] rfl rfl ?zo ?zk
    case zo =>
      repeat' apply AllP.cons
      all_goals first | exact trivial
    case zk =>
    cases hco : castsOk s casts with
    | false =>
      rw [hv2 hco]
      refine Aw.cond rfl (fun _ => ?_) (fun h => absurd h (by decide))
      refine Aw.sm tab_ok mb0 [] rfl rfl ?zo ?zk
      case zo =>
        repeat' apply AllP.cons
        all_goals first | exact trivial
      case zk =>
      exact Aw.ret ⟨_, .cons (.tmp _) (.cons (.tmp _) .nil), rfl⟩
    | true =>
      rw [hv1 hco]
      refine Aw.cond rfl (fun h => absurd h (by decide)) (fun _ => Aw.skip ?_)
      refine Aw.sm tab_ok mb0 [] rfl rfl ?zo ?zk
      case zo =>
        repeat' apply AllP.cons
        all_goals first | exact trivial
      case zk =>
      exact Aw.ret ⟨_, .cons (.tmp _) (.cons (.tmp _) .nil), rfl⟩
  cases hco : castsOk s casts with
  | true => exact walk _ (fun _ => rfl) (fun h => by rw [hco] at h; cases h) (.tup _ (allC (outW_free _) (all1 (.s _))))
  | false =>
    exact Ans_out (walk (.tup [outA [], .int 13]) (fun h => by rw [hco] at h; cases h) (fun _ => rfl) (.tup _ (allC (outA_free _) (all1 (.s _))))) (leT2 (outA_le _) (.refl _))
theorem ask_in {s : Sea} {l : List Rep} {wrong hour : Int} {casts : List Sp} (h : AskE s l wrong hour casts = 0) : askC s l wrong hour casts = canF s l wrong hour := if_pos h
set_option maxRecDepth 20000 in
set_option maxHeartbeats 1000000 in
theorem rNext_t (s : Sea) (hf : SeaFit s) (b : Bool) (l : List Rep) (hl : (l.length : Int) ≤ 9223372036854775806) (wrong hour : Int) (cb : Bool) (casts : List Sp) (hcs : CstFit casts) :
    Ans Try.prog 29 [.agg s.c, .sl b .any (l.map Rep.c), .int wrong, .int hour, .sl cb .any (casts.map Sp.c)] (.tup [.int (NextR s l wrong hour casts).1, .int (NextR s l wrong hour casts).2.1, .int (NextR s l wrong hour casts).2.2]) := by
  have hfr : Free (.tup [.int (NextR s l wrong hour casts).1, .int (NextR s l wrong hour casts).2.1, .int (NextR s l wrong hour casts).2.2]) := .tup _ (allC (.s _) (allC (.s _) (all1 (.s _))))
  have us : ∀ {m : Nat}, Under m (A.pt s.c) := (Free.pt _ s.free).under
  have uc : ∀ {m : Nat}, Under m (.sl cb .any (casts.map Sp.c)) := (free_map Sp.free _ _ _).under
  have lc : ((casts.map Sp.c).length : Int) = casts.length := by simp
  have hask := rAsked_t s hf b l hl wrong hour cb casts hcs
  refine told Try.func29 rfl rfl (Pure.of tab_ok Try.func29 rfl Try.ntmps29 rfl (allC (.agg _ s.free) (allC (free_map Rep.free _ _ _) (allC (.s _) (allC (.s _) (all1 (free_map Sp.free _ _ _)))))) (allC (fun _ => rfl) (allC (fun _ => rfl) (allC (fun _ => rfl) (allC (fun _ => rfl) (all1 (fun _ => rfl)))))) (by first | exact .s _ | assumption | exact .tup _ (by intro x hx; simp only [List.mem_cons, List.not_mem_nil, or_false] at hx; rcases hx with rfl | rfl | rfl | rfl <;> first | exact .s _ | (simp_all; done))) fun E hE => ?_)
  refine Aw.sm tab_ok mb0 [] rfl rfl ?zo ?zk
  case zo =>
    repeat' apply AllP.cons
    all_goals first | exact trivial
  case zk =>
  by_cases hA : AskE s l wrong hour casts = 0
  · rw [ask_in hA, hA] at hask
    rw [show NextR s l wrong hour casts = _ from if_pos hA]
    obtain ⟨hok, _, _, hco, hne⟩ := AskE_ok hA
    have ho := Sea.ok_of hok
    have hm := ho.many
    obtain ⟨hc8, hcc⟩ := castsOk_iff hco
    obtain ⟨n1, hn1⟩ : ∃ n, casts.length = n + 1 := ⟨casts.length - 1, by omega⟩
    have hGi := fun c hc => canF_in ho (l := l) (wrong := wrong) (hour := hour) (c := c) hc
    have hG80 := canF_l80 ho l wrong hour
    generalize canF s l wrong hour = G at *
    have hfin := rnxK_is s.wide G casts n1
    rw [← hn1] at hfin
    rw [← hfin]
    have hbd := rnxK_bd s.wide G casts
    have lG := ints_lenI G
    have uG : ∀ {m : Nat}, Under m (outW G) := (outW_free G).under
    refine Aw.sm tab_ok mb0 [(5, [.tup [outW G, .int 0]])] rfl rfl ?zo ?zk
    case zo =>
      repeat' apply AllP.cons
      all_goals first | exact trivial | exact Nat.le_of_ble_eq_true rfl | exact hask
    case zk =>
    refine Aw.seq ?_
    refine Aw.sm tab_ok mb0 [] rfl rfl ?zo ?zk
    case zo =>
      repeat' apply AllP.cons
      all_goals first | exact trivial
    case zk =>
    refine Aw.cond rfl (fun h => absurd h (by decide)) (fun _ => Aw.skip ?_)
    refine Aw.sm tab_ok mb0 [] rfl rfl ?zo ?zk
    case zo =>
      repeat' apply AllP.cons
      all_goals first | exact trivial | exact (by simp only [Ob.of, inR]; omega)
    case zk =>
    refine Aw.seq ?_
    refine Aw.sm tab_ok mb0 [] rfl rfl ?zo ?zk
    case zo =>
      repeat' apply AllP.cons
      all_goals first | exact trivial
    case zk =>
    refine Aw.block (Aw.rounds 0 hE [(4, .sl cb .any (casts.map Sp.c)), (5, .pt s.c), (13, outW G)] (fun k : Nat => [(15, .int (rnxK s.wide G casts k).1), (16, .int (rnxK s.wide G casts k).2), (17, .int k)]) (fun k => []) (fun k => k ≤ casts.length) (fun k => casts.length - k) 0 ?zg ⟨?zc, ?zv, ?zh, Nat.le_of_ble_eq_true rfl⟩ ?zu (fun k zhk => ?zw) (fun k zhk => ?zx) fun k hk => ?zr)
    case zg =>
      (repeat' (first | exact Nat.zero_le _ | exact Nat.le_refl _ | exact trivial | exact us | exact uc | exact uG | exact .of_eq (congrArg A.int (show (G.length : Int) + 1 = ((ints G).length : Int) + 1 by omega)) | (refine And.intro ?_ ?_)))
    case zc =>
      (repeat' (first | (refine And.intro ?_ ?_) | exact trivial | exact A.Le.refl _ | exact rfl | exact us | exact uc | exact uG | exact .of_eq (congrArg A.int (show (G.length : Int) + 1 = ((ints G).length : Int) + 1 by omega))))
    case zv =>
      (repeat' (first | (refine And.intro ?_ ?_) | exact trivial | exact A.Le.refl _ | exact rfl | exact us | exact uc | exact uG | exact .of_eq (congrArg A.int (show (G.length : Int) + 1 = ((ints G).length : Int) + 1 by omega))))
    case zh =>
      (repeat' (first | (refine And.intro ?_ ?_) | exact trivial | exact A.Le.refl _ | exact rfl | exact us | exact uc | exact uG | exact .of_eq (congrArg A.int (show (G.length : Int) + 1 = ((ints G).length : Int) + 1 by omega))))
    case zu =>
      (repeat' (first | exact trivial | exact Under.s _ | exact Under.un | assumption | exact (free_ints _ _ _).under | exact Under.ref _ _ (by decide) | exact Under.ms _ _ _ (by decide) | exact Under.mp _ (by decide) | exact (Free.agg _ (by assumption)).under | exact (Free.pt _ (by assumption)).under | exact grL_under _ | exact outA_under _ | exact Nat.le_of_ble_eq_true rfl | exact (fun _ _ => rfl) | exact us | exact uc | exact uG | exact .of_eq (congrArg A.int (show (G.length : Int) + 1 = ((ints G).length : Int) + 1 by omega)) | (refine And.intro ?_ ?_)))
    case zw =>
      (repeat' (first | exact trivial | exact Under.s _ | exact Under.un | assumption | exact (free_ints _ _ _).under | exact Under.ref _ _ (by decide) | exact Under.ms _ _ _ (by decide) | exact Under.mp _ (by decide) | exact (Free.agg _ (by assumption)).under | exact (Free.pt _ (by assumption)).under | exact grL_under _ | exact outA_under _ | exact Nat.le_of_ble_eq_true rfl | exact (fun _ _ => rfl) | exact us | exact uc | exact uG | exact .of_eq (congrArg A.int (show (G.length : Int) + 1 = ((ints G).length : Int) + 1 by omega)) | (refine And.intro ?_ ?_)))
    case zx =>
      (repeat' (first | exact trivial | exact Under.s _ | exact Under.un | assumption | exact (free_ints _ _ _).under | exact Under.ref _ _ (by decide) | exact Under.ms _ _ _ (by decide) | exact Under.mp _ (by decide) | exact (Free.agg _ (by assumption)).under | exact (Free.pt _ (by assumption)).under | exact grL_under _ | exact outA_under _ | exact Nat.le_of_ble_eq_true rfl | exact (fun _ _ => rfl) | exact us | exact uc | exact uG | exact .of_eq (congrArg A.int (show (G.length : Int) + 1 = ((ints G).length : Int) + 1 by omega)) | (refine And.intro ?_ ?_)))
    case zr =>
    refine Aw.seq ?_
    refine Aw.sm tab_ok mb0 [] rfl rfl ?zo ?zk
    case zo =>
      repeat' apply AllP.cons
      all_goals first | exact trivial
    case zk =>
    refine Aw.cond rfl (fun h3 => Aw.skip ?_) (fun h3 => ?_)
    · have hlt : k < casts.length := by have := of_decide_eq_true (show decide ((k : Int) < ((casts.map Sp.c).length : Int)) = true from h3); omega
      have hget := get_map (f := Sp.c) hlt
      have hin := hcc casts[k] (List.getElem_mem hlt)
      have hsu : rnxK s.wide G casts (k + 1) = if worstF s.wide G (casts.getD k ⟨0, 0⟩) < (rnxK s.wide G casts k).2 then ((k : Int), worstF s.wide G (casts.getD k ⟨0, 0⟩)) else rnxK s.wide G casts k := rfl
      rw [show casts.getD k ⟨0, 0⟩ = casts[k] by simp [List.getD_eq_getElem?_getD, hlt]] at hsu
      have hbk := hbd k
      generalize casts[k] = c at *
      generalize rnxK s.wide G casts k = pr at *
      obtain ⟨wh, wv⟩ := pr
      simp only at hsu hbk
      refine Aw.seq (Aw.block ?_)
      refine Aw.sm tab_ok mb0 [] rfl rfl ?zo ?zk
      case zo =>
        repeat' apply AllP.cons
        all_goals first | exact trivial
      case zk =>
      refine Aw.seq ?_
      refine Aw.sm tab_ok mb0 [] rfl rfl ?zo ?zk
      case zo =>
        repeat' apply AllP.cons
        all_goals first | exact trivial
      case zk =>
      refine Aw.block (Aw.rounds 0 hE [(4, .sl cb .any (casts.map Sp.c)), (5, .pt s.c), (13, outW G), (15, .int wh), (16, .int wv), (17, .int k)] (fun j : Nat => [(18, .int (cntC s.wide G c j)), (19, .int j)]) (fun j => []) (fun j => j ≤ G.length) (fun j => G.length - j) 0 ?zg ⟨?zc, ?zv, ?zh, Nat.le_of_ble_eq_true rfl⟩ ?zu (fun j zhk => ?zw) (fun j zhk => ?zx) fun j hk => ?zr)
      case zg =>
        (repeat' (first | exact Nat.zero_le _ | exact Nat.le_refl _ | exact trivial | exact us | exact uc | exact uG | (refine And.intro ?_ ?_)))
      case zc =>
        (repeat' (first | (refine And.intro ?_ ?_) | exact trivial | exact A.Le.refl _ | exact rfl | exact us | exact uc | exact uG))
      case zv =>
        (repeat' (first | (refine And.intro ?_ ?_) | exact trivial | exact A.Le.refl _ | exact rfl | exact us | exact uc | exact uG))
      case zh =>
        (repeat' (first | (refine And.intro ?_ ?_) | exact trivial | exact A.Le.refl _ | exact rfl | exact us | exact uc | exact uG))
      case zu =>
        (repeat' (first | exact trivial | exact Under.s _ | exact Under.un | assumption | exact (free_ints _ _ _).under | exact Under.ref _ _ (by decide) | exact Under.ms _ _ _ (by decide) | exact Under.mp _ (by decide) | exact (Free.agg _ (by assumption)).under | exact (Free.pt _ (by assumption)).under | exact grL_under _ | exact outA_under _ | exact Nat.le_of_ble_eq_true rfl | exact (fun _ _ => rfl) | exact us | exact uc | exact uG | (refine And.intro ?_ ?_)))
      case zw =>
        (repeat' (first | exact trivial | exact Under.s _ | exact Under.un | assumption | exact (free_ints _ _ _).under | exact Under.ref _ _ (by decide) | exact Under.ms _ _ _ (by decide) | exact Under.mp _ (by decide) | exact (Free.agg _ (by assumption)).under | exact (Free.pt _ (by assumption)).under | exact grL_under _ | exact outA_under _ | exact Nat.le_of_ble_eq_true rfl | exact (fun _ _ => rfl) | exact us | exact uc | exact uG | (refine And.intro ?_ ?_)))
      case zx =>
        (repeat' (first | exact trivial | exact Under.s _ | exact Under.un | assumption | exact (free_ints _ _ _).under | exact Under.ref _ _ (by decide) | exact Under.ms _ _ _ (by decide) | exact Under.mp _ (by decide) | exact (Free.agg _ (by assumption)).under | exact (Free.pt _ (by assumption)).under | exact grL_under _ | exact outA_under _ | exact Nat.le_of_ble_eq_true rfl | exact (fun _ _ => rfl) | exact us | exact uc | exact uG | (refine And.intro ?_ ?_)))
      case zr =>
      refine Aw.seq ?_
      refine Aw.sm tab_ok mb0 [] rfl rfl ?zo ?zk
      case zo =>
        repeat' apply AllP.cons
        all_goals first | exact trivial
      case zk =>
      refine Aw.cond rfl (fun h2 => Aw.skip ?_) (fun h2 => ?_)
      · have hlt2 : j < G.length := by have := of_decide_eq_true (show decide ((j : Int) < ((ints G).length : Int)) = true from h2); omega
        have hget2 := ints_get hlt2
        have hin2 := hGi G[j] (List.getElem_mem hlt2)
        have hst := cntC_succ s.wide c hlt2
        have hcb := cntC_bd s.wide G c j
        generalize G[j] = p at *
        have hcv := rcov_t s ho c (by omega) p (by omega)
        generalize covB s.wide c p = cv at *
        generalize cntC s.wide G c j = m at *
        refine Aw.seq (Aw.block ?_)
        refine Aw.sd tab_ok mixed mb0 [(3, c.c), (7, [.int p]), (9, [.bool cv])] rfl (by kernel_rfl) rfl rfl ?zo ?zk
        case zo =>
          repeat' apply AllP.cons
          all_goals first | exact trivial | exact rfl | exact Nat.le_of_ble_eq_true rfl | exact Int.natCast_nonneg _ | exact hget | exact hget2 | exact hcv
        case zk =>
        cases cv with
        | true =>
          refine Aw.cond rfl (fun _ => ?_) (fun h => absurd h (by decide))
          rw [if_pos rfl] at hst
          refine Aw.em tab_ok mb0 [] rfl rfl ?zo ?zk
          case zo =>
            repeat' apply AllP.cons
            all_goals first | exact trivial | exact (by simp only [Ob.of, inR]; omega)
          case zk =>
          refine Aw.em tab_ok mb0 [] rfl rfl ?zo ?zk
          case zo =>
            repeat' apply AllP.cons
            all_goals first | exact trivial | exact (by simp only [Ob.of, inR]; omega)
          case zk =>
          refine ⟨j + 1, ?zg, ?zm, ⟨?zc, ?zv, ?zh, Nat.le_of_ble_eq_true rfl⟩⟩
          case zg =>
            (repeat' (first | assumption | omega | exact .of_eq (congrArg A.int hst) | (refine And.intro ?_ ?_)))
          case zm =>
            (repeat' (first | omega | exact .of_eq (congrArg A.int hst) | (refine And.intro ?_ ?_)))
          case zc =>
            (repeat' (first | (refine And.intro ?_ ?_) | exact trivial | exact A.Le.refl _ | exact rfl | exact .of_eq (congrArg A.int hst)))
          case zv =>
            (repeat' (first | (refine And.intro ?_ ?_) | exact trivial | exact A.Le.refl _ | exact rfl | exact .of_eq (congrArg A.int hst)))
          case zh =>
            (repeat' (first | (refine And.intro ?_ ?_) | exact trivial | exact A.Le.refl _ | exact rfl | exact .of_eq (congrArg A.int hst)))
        | false =>
          refine Aw.cond rfl (fun h => absurd h (by decide)) (fun _ => Aw.skip ?_)
          rw [if_neg (by decide), Int.add_zero] at hst
          refine Aw.em tab_ok mb0 [] rfl rfl ?zo ?zk
          case zo =>
            repeat' apply AllP.cons
            all_goals first | exact trivial | exact (by simp only [Ob.of, inR]; omega)
          case zk =>
          refine ⟨j + 1, ?zg, ?zm, ⟨?zc, ?zv, ?zh, Nat.le_of_ble_eq_true rfl⟩⟩
          case zg =>
            (repeat' (first | assumption | omega | exact .of_eq (congrArg A.int hst) | (refine And.intro ?_ ?_)))
          case zm =>
            (repeat' (first | omega | exact .of_eq (congrArg A.int hst) | (refine And.intro ?_ ?_)))
          case zc =>
            (repeat' (first | (refine And.intro ?_ ?_) | exact trivial | exact A.Le.refl _ | exact rfl | exact .of_eq (congrArg A.int hst)))
          case zv =>
            (repeat' (first | (refine And.intro ?_ ?_) | exact trivial | exact A.Le.refl _ | exact rfl | exact .of_eq (congrArg A.int hst)))
          case zh =>
            (repeat' (first | (refine And.intro ?_ ?_) | exact trivial | exact A.Le.refl _ | exact rfl | exact .of_eq (congrArg A.int hst)))
      have hle2 : j = G.length := by have := of_decide_eq_false (show decide ((j : Int) < ((ints G).length : Int)) = false from h2); omega
      subst hle2
      refine Aw.exit2 ?_
      have hcb := cntC_bd s.wide G c G.length
      have hwo : worstF s.wide G c = gmax (cntC s.wide G c G.length) (G.length - cntC s.wide G c G.length) := rfl
      rw [← lG] at hwo
      generalize cntC s.wide G c G.length = m at *
      rw [hwo] at hsu
      refine Aw.sm tab_ok mb0 [] rfl rfl ?zo ?zk
      case zo =>
        repeat' apply AllP.cons
        all_goals first | exact trivial | exact (by simp only [Ob.of, inR]; omega)
      case zk =>
      refine Aw.sm tab_ok mb0 [] rfl rfl ?zo ?zk
      case zo =>
        repeat' apply AllP.cons
        all_goals first | exact trivial
      case zk =>
      refine Aw.cond rfl (fun h4 => ?_) (fun h4 => Aw.skip ?_)
      · have h4 := of_decide_eq_true (show decide (gmax m (((ints G).length : Int) - m) < wv) = true from h4)
        rw [if_pos h4] at hsu
        refine Aw.em tab_ok mb0 [] rfl rfl ?zo ?zk
        case zo =>
          repeat' apply AllP.cons
          all_goals first | exact trivial
        case zk =>
        refine Aw.em tab_ok mb0 [] rfl rfl ?zo ?zk
        case zo =>
          repeat' apply AllP.cons
          all_goals first | exact trivial | exact (by simp only [Ob.of, inR]; omega)
        case zk =>
        refine ⟨k + 1, ?zg, ?zm, ⟨?zc, ?zv, ?zh, Nat.le_of_ble_eq_true rfl⟩⟩
        case zg =>
          (repeat' (first | assumption | omega | exact .of_eq (by rw [hsu]; rfl) | (refine And.intro ?_ ?_)))
        case zm =>
          (repeat' (first | omega | exact .of_eq (by rw [hsu]; rfl) | (refine And.intro ?_ ?_)))
        case zc =>
          (repeat' (first | (refine And.intro ?_ ?_) | exact trivial | exact A.Le.refl _ | exact rfl | exact .of_eq (by rw [hsu]; rfl)))
        case zv =>
          (repeat' (first | (refine And.intro ?_ ?_) | exact trivial | exact A.Le.refl _ | exact rfl | exact .of_eq (by rw [hsu]; rfl)))
        case zh =>
          (repeat' (first | (refine And.intro ?_ ?_) | exact trivial | exact A.Le.refl _ | exact rfl | exact .of_eq (by rw [hsu]; rfl)))
      · have h4 := of_decide_eq_false (show decide (gmax m (((ints G).length : Int) - m) < wv) = false from h4)
        rw [if_neg h4] at hsu
        refine Aw.em tab_ok mb0 [] rfl rfl ?zo ?zk
        case zo =>
          repeat' apply AllP.cons
          all_goals first | exact trivial | exact (by simp only [Ob.of, inR]; omega)
        case zk =>
        refine ⟨k + 1, ?zg, ?zm, ⟨?zc, ?zv, ?zh, Nat.le_of_ble_eq_true rfl⟩⟩
        case zg =>
          (repeat' (first | assumption | omega | exact .of_eq (by rw [hsu]; rfl) | (refine And.intro ?_ ?_)))
        case zm =>
          (repeat' (first | omega | exact .of_eq (by rw [hsu]; rfl) | (refine And.intro ?_ ?_)))
        case zc =>
          (repeat' (first | (refine And.intro ?_ ?_) | exact trivial | exact A.Le.refl _ | exact rfl | exact .of_eq (by rw [hsu]; rfl)))
        case zv =>
          (repeat' (first | (refine And.intro ?_ ?_) | exact trivial | exact A.Le.refl _ | exact rfl | exact .of_eq (by rw [hsu]; rfl)))
        case zh =>
          (repeat' (first | (refine And.intro ?_ ?_) | exact trivial | exact A.Le.refl _ | exact rfl | exact .of_eq (by rw [hsu]; rfl)))
    have hke : k = casts.length := by have := of_decide_eq_false (show decide ((k : Int) < ((casts.map Sp.c).length : Int)) = false from h3); omega
    subst hke
    refine Aw.exit2 ?_
    refine Aw.sm tab_ok mb0 [] rfl rfl ?zo ?zk
    case zo =>
      repeat' apply AllP.cons
      all_goals first | exact trivial
    case zk =>
    exact Aw.ret ⟨_, .cons (.tmp _) (.cons (.tmp _) (.cons (.tmp _) .nil)), rfl⟩
  · rw [show askC s l wrong hour casts = [] from if_neg hA] at hask
    rw [show NextR s l wrong hour casts = _ from if_neg hA]
    generalize AskE s l wrong hour casts = e at *
    have he' : (e != 0) = true := by simpa using hA
    refine Aw.sm tab_ok mb0 [(5, [.tup [outW [], .int e]])] rfl rfl ?zo ?zk
    case zo =>
      repeat' apply AllP.cons
      all_goals first | exact trivial | exact Nat.le_of_ble_eq_true rfl | exact hask
    case zk =>
    refine Aw.seq ?_
    refine Aw.sm tab_ok mb0 [] rfl rfl ?zo ?zk
    case zo =>
      repeat' apply AllP.cons
      all_goals first | exact trivial
    case zk =>
    refine Aw.cond rfl (fun _ => ?_) (fun h => ?_)
    · refine Aw.sm tab_ok mb0 [] rfl rfl ?zo ?zk
      case zo =>
        repeat' apply AllP.cons
        all_goals first | exact trivial
      case zk =>
      exact Aw.ret ⟨_, .cons (.tmp _) (.cons (.tmp _) (.cons (.tmp _) .nil)), rfl⟩
    · have h : (e != 0) = false := h
      rw [he'] at h; cases h
end Go.Proofs.Ytohbjneaaahpcaa

namespace Go.Proofs.Ytohbjneaaahpcaa
open Go Go.AL Go.AL.Q Go.AL.Sh
set_option maxRecDepth 20000 in
theorem all_t (s : Sea) (ho : s.Ok) (cb sb gb : Bool) (casts : List Sp) (sm G : List Int) (hc : ∀ c ∈ casts, 0 ≤ c.lo ∧ c.lo ≤ s.many - 1) (hs : ∀ i ∈ sm, 0 ≤ i ∧ i < casts.length) (hG : ∀ p ∈ G, 0 ≤ p ∧ p < 80) (hsl : sm.length ≤ 1000) (hgl : G.length ≤ 1000) :
    Ans Try.prog 73 [.agg s.c, .sl cb .any (casts.map Sp.c), .sl sb .any (ints sm), .sl gb .any (ints G)] (.bool (fndB s.wide G casts sm)) := by
  have hm := ho.many
  have lG := ints_lenI G
  have lS := ints_lenI sm
  have us : Under 0 (A.pt s.c) := (Free.pt _ s.free).under
  have uc : Under 0 (.sl cb .any (casts.map Sp.c)) := (free_map Sp.free _ _ _).under
  have u1 : Under 0 (.sl sb .any (ints sm)) := (free_ints _ _ _).under
  have u2 : Under 0 (.sl gb .any (ints G)) := (free_ints _ _ _).under
  refine told Try.func73 rfl rfl (Pure.of tab_ok Try.func73 rfl Try.ntmps73 rfl (allC (.agg _ s.free) (allC (free_map Sp.free _ _ _) (allC (free_ints _ _ _) (all1 (free_ints _ _ _))))) (allC (fun _ => rfl) (allC (fun _ => rfl) (allC (fun _ => rfl) (all1 (fun _ => rfl))))) (by first | exact .s _ | assumption | exact .tup _ (by intro x hx; simp only [List.mem_cons, List.not_mem_nil, or_false] at hx; rcases hx with rfl | rfl | rfl | rfl <;> first | exact .s _ | (simp_all; done))) fun E hE => ?_)
  refine Aw.sm tab_ok mb0 [] rfl rfl ?zo ?zk
  case zo =>
    repeat' apply AllP.cons
    all_goals first | exact trivial
  case zk =>
  refine Aw.seq ?_
  refine Aw.sm tab_ok mb0 [] rfl rfl ?zo ?zk
  case zo =>
    repeat' apply AllP.cons
    all_goals first | exact trivial
  case zk =>
  refine Aw.block (Aw.rounds 0 hE [(1, .sl cb .any (casts.map Sp.c)), (2, .sl sb .any (ints sm)), (3, .sl gb .any (ints G)), (4, .pt s.c)] (fun k : Nat => [(9, .int k)]) (fun k => []) (fun k => k ≤ G.length ∧ ∀ i, i < k → metB s.wide casts sm (G.getD i 0) = true) (fun k => G.length - k) 0 ?zg ⟨?zc, ?zv, ?zh, Nat.le_of_ble_eq_true rfl⟩ ?zu (fun k zhk => ?zw) (fun k zhk => ?zx) fun k hk => ?zr)
  case zg =>
    (repeat' (first | exact Nat.zero_le _ | exact Nat.le_refl _ | exact trivial | exact ⟨Nat.zero_le _, fun i h => absurd h (Nat.not_lt_zero _)⟩ | exact us | exact uc | exact u1 | exact u2 | (refine And.intro ?_ ?_)))
  case zc =>
    (repeat' (first | (refine And.intro ?_ ?_) | exact trivial | exact A.Le.refl _ | exact rfl | exact ⟨Nat.zero_le _, fun i h => absurd h (Nat.not_lt_zero _)⟩ | exact us | exact uc | exact u1 | exact u2))
  case zv =>
    (repeat' (first | (refine And.intro ?_ ?_) | exact trivial | exact A.Le.refl _ | exact rfl | exact ⟨Nat.zero_le _, fun i h => absurd h (Nat.not_lt_zero _)⟩ | exact us | exact uc | exact u1 | exact u2))
  case zh =>
    (repeat' (first | (refine And.intro ?_ ?_) | exact trivial | exact A.Le.refl _ | exact rfl | exact ⟨Nat.zero_le _, fun i h => absurd h (Nat.not_lt_zero _)⟩ | exact us | exact uc | exact u1 | exact u2))
  case zu =>
    (repeat' (first | exact trivial | exact Under.s _ | exact Under.un | assumption | exact (free_ints _ _ _).under | exact Under.ref _ _ (by decide) | exact Under.ms _ _ _ (by decide) | exact Under.mp _ (by decide) | exact (Free.agg _ (by assumption)).under | exact (Free.pt _ (by assumption)).under | exact grL_under _ | exact outA_under _ | exact Nat.le_of_ble_eq_true rfl | exact (fun _ _ => rfl) | exact ⟨Nat.zero_le _, fun i h => absurd h (Nat.not_lt_zero _)⟩ | exact us | exact uc | exact u1 | exact u2 | (refine And.intro ?_ ?_)))
  case zw =>
    (repeat' (first | exact trivial | exact Under.s _ | exact Under.un | assumption | exact (free_ints _ _ _).under | exact Under.ref _ _ (by decide) | exact Under.ms _ _ _ (by decide) | exact Under.mp _ (by decide) | exact (Free.agg _ (by assumption)).under | exact (Free.pt _ (by assumption)).under | exact grL_under _ | exact outA_under _ | exact Nat.le_of_ble_eq_true rfl | exact (fun _ _ => rfl) | exact ⟨Nat.zero_le _, fun i h => absurd h (Nat.not_lt_zero _)⟩ | exact us | exact uc | exact u1 | exact u2 | (refine And.intro ?_ ?_)))
  case zx =>
    (repeat' (first | exact trivial | exact Under.s _ | exact Under.un | assumption | exact (free_ints _ _ _).under | exact Under.ref _ _ (by decide) | exact Under.ms _ _ _ (by decide) | exact Under.mp _ (by decide) | exact (Free.agg _ (by assumption)).under | exact (Free.pt _ (by assumption)).under | exact grL_under _ | exact outA_under _ | exact Nat.le_of_ble_eq_true rfl | exact (fun _ _ => rfl) | exact ⟨Nat.zero_le _, fun i h => absurd h (Nat.not_lt_zero _)⟩ | exact us | exact uc | exact u1 | exact u2 | (refine And.intro ?_ ?_)))
  case zr =>
  obtain ⟨hkk, hgo⟩ := hk
  refine Aw.seq ?_
  refine Aw.sm tab_ok mb0 [] rfl rfl ?zo ?zk
  case zo =>
    repeat' apply AllP.cons
    all_goals first | exact trivial
  case zk =>
  refine Aw.cond rfl (fun h1 => Aw.skip ?_) (fun h1 => ?_)
  · have hlt : k < G.length := by have := of_decide_eq_true h1; omega
    have hget := ints_get hlt
    have hin := hG G[k] (List.getElem_mem hlt)
    have hgk : G.getD k 0 = G[k] := by simp [List.getD_eq_getElem?_getD, hlt]
    have hmem := List.getElem_mem hlt
    generalize G[k] = p at *
    have hmet : metB s.wide casts sm p = sm.any fun i => covB s.wide (casts.getD i.toNat c0) p := rfl
    refine Aw.seq (Aw.block ?_)
    refine Aw.sm tab_ok mb0 [] rfl rfl ?zo ?zk
    case zo =>
      repeat' apply AllP.cons
      all_goals first | exact trivial
    case zk =>
    refine Aw.seq ?_
    refine Aw.sm tab_ok mb0 [] rfl rfl ?zo ?zk
    case zo =>
      repeat' apply AllP.cons
      all_goals first | exact trivial
    case zk =>
    refine Aw.block (Aw.rounds 0 hE [(1, .sl cb .any (casts.map Sp.c)), (2, .sl sb .any (ints sm)), (3, .sl gb .any (ints G)), (4, .pt s.c), (9, .int k)] (fun j : Nat => [(10, .bool ((sm.take j).any fun i => covB s.wide (casts.getD i.toNat c0) p)), (11, .int j)]) (fun j => []) (fun j => j ≤ sm.length) (fun j => sm.length - j) 0 ?zg ⟨?zc, ?zv, ?zh, Nat.le_of_ble_eq_true rfl⟩ ?zu (fun j zhk => ?zw) (fun j zhk => ?zx) fun j hk => ?zr)
    case zg =>
      (repeat' (first | exact Nat.zero_le _ | exact Nat.le_refl _ | exact trivial | exact us | exact uc | exact u1 | exact u2 | (refine And.intro ?_ ?_)))
    case zc =>
      (repeat' (first | (refine And.intro ?_ ?_) | exact trivial | exact A.Le.refl _ | exact rfl | exact us | exact uc | exact u1 | exact u2))
    case zv =>
      (repeat' (first | (refine And.intro ?_ ?_) | exact trivial | exact A.Le.refl _ | exact rfl | exact us | exact uc | exact u1 | exact u2))
    case zh =>
      (repeat' (first | (refine And.intro ?_ ?_) | exact trivial | exact A.Le.refl _ | exact rfl | exact us | exact uc | exact u1 | exact u2))
    case zu =>
      (repeat' (first | exact trivial | exact Under.s _ | exact Under.un | assumption | exact (free_ints _ _ _).under | exact Under.ref _ _ (by decide) | exact Under.ms _ _ _ (by decide) | exact Under.mp _ (by decide) | exact (Free.agg _ (by assumption)).under | exact (Free.pt _ (by assumption)).under | exact grL_under _ | exact outA_under _ | exact Nat.le_of_ble_eq_true rfl | exact (fun _ _ => rfl) | exact us | exact uc | exact u1 | exact u2 | (refine And.intro ?_ ?_)))
    case zw =>
      (repeat' (first | exact trivial | exact Under.s _ | exact Under.un | assumption | exact (free_ints _ _ _).under | exact Under.ref _ _ (by decide) | exact Under.ms _ _ _ (by decide) | exact Under.mp _ (by decide) | exact (Free.agg _ (by assumption)).under | exact (Free.pt _ (by assumption)).under | exact grL_under _ | exact outA_under _ | exact Nat.le_of_ble_eq_true rfl | exact (fun _ _ => rfl) | exact us | exact uc | exact u1 | exact u2 | (refine And.intro ?_ ?_)))
    case zx =>
      (repeat' (first | exact trivial | exact Under.s _ | exact Under.un | assumption | exact (free_ints _ _ _).under | exact Under.ref _ _ (by decide) | exact Under.ms _ _ _ (by decide) | exact Under.mp _ (by decide) | exact (Free.agg _ (by assumption)).under | exact (Free.pt _ (by assumption)).under | exact grL_under _ | exact outA_under _ | exact Nat.le_of_ble_eq_true rfl | exact (fun _ _ => rfl) | exact us | exact uc | exact u1 | exact u2 | (refine And.intro ?_ ?_)))
    case zr =>
    refine Aw.seq ?_
    refine Aw.sm tab_ok mb0 [] rfl rfl ?zo ?zk
    case zo =>
      repeat' apply AllP.cons
      all_goals first | exact trivial
    case zk =>
    refine Aw.cond rfl (fun h2 => Aw.skip ?_) (fun h2 => ?_)
    · have hlt2 : j < sm.length := by have := of_decide_eq_true h2; omega
      have hget2 := ints_get hlt2
      have hin2 := hs sm[j] (List.getElem_mem hlt2)
      have hst := any_take (p := fun i : Int => covB s.wide (casts.getD i.toNat c0) p) hlt2
      generalize sm[j] = i at *
      have hlt3 : i.toNat < casts.length := by omega
      have hget3 := get_map (f := Sp.c) hlt3
      have hin3 := hc _ (List.getElem_mem hlt3)
      have hgc : casts.getD i.toNat c0 = casts[i.toNat] := by simp [List.getD_eq_getElem?_getD, hlt3]
      rw [hgc] at hst
      generalize casts[i.toNat] = c at *
      have hap := rcov_t s ho c (by omega) p (by omega)
      generalize covB s.wide c p = d at *
      generalize (sm.take j).any (fun i => covB s.wide (casts.getD i.toNat c0) p) = m at *
      refine Aw.seq (Aw.block ?_)
      refine Aw.ed tab_ok mixed mb0 [(6, [.int i]), (8, c.c), (12, [.int p]), (14, [.bool d])] rfl (by kernel_rfl) rfl rfl ?zo ?zk
      case zo =>
        repeat' apply AllP.cons
        all_goals first | exact trivial | exact id | exact fun _ => rfl | exact fun _ => Nat.le_of_ble_eq_true rfl | exact fun _ => Int.natCast_nonneg _ | exact gq_f | exact fun _ => hget2 | exact fun _ => hget3 | exact fun _ => hget | exact fun _ => hap | exact fun _ => hin2.1
      case zk =>
      refine Aw.em tab_ok mb0 [] rfl rfl ?zo ?zk
      case zo =>
        repeat' apply AllP.cons
        all_goals first | exact trivial | exact (by simp only [Ob.of, inR]; omega)
      case zk =>
      refine ⟨j + 1, ?zg, ?zm, ⟨?zc, ?zv, ?zh, Nat.le_of_ble_eq_true rfl⟩⟩
      case zg =>
        (repeat' (first | assumption | omega | exact .of_eq (congrArg A.bool hst) | (refine And.intro ?_ ?_)))
      case zm =>
        (repeat' (first | omega | exact .of_eq (congrArg A.bool hst) | (refine And.intro ?_ ?_)))
      case zc =>
        (repeat' (first | (refine And.intro ?_ ?_) | exact trivial | exact A.Le.refl _ | exact rfl | exact .of_eq (congrArg A.bool hst)))
      case zv =>
        (repeat' (first | (refine And.intro ?_ ?_) | exact trivial | exact A.Le.refl _ | exact rfl | exact .of_eq (congrArg A.bool hst)))
      case zh =>
        (repeat' (first | (refine And.intro ?_ ?_) | exact trivial | exact A.Le.refl _ | exact rfl | exact .of_eq (congrArg A.bool hst)))
    have hle2 : j = sm.length := by have := of_decide_eq_false h2; omega
    subst hle2
    refine Aw.exit2 ?_
    rw [List.take_length, ← hmet]
    refine Aw.sm tab_ok mb0 [] rfl rfl ?zo ?zk
    case zo =>
      repeat' apply AllP.cons
      all_goals first | exact trivial
    case zk =>
    refine Aw.cond rfl (fun h3 => ?_) (fun h3 => Aw.skip ?_)
    · have h3 : metB s.wide casts sm p = false := by have h4 : (!metB s.wide casts sm p) = true := h3; simpa using h4
      have hres : fndB s.wide G casts sm = false := by
        rw [← Bool.not_eq_true]; intro h
        have := List.all_eq_true.1 h p hmem
        rw [h3] at this; cases this
      rw [hres]
      refine Aw.sm tab_ok mb0 [] rfl rfl ?zo ?zk
      case zo =>
        repeat' apply AllP.cons
        all_goals first | exact trivial
      case zk =>
      exact Aw.ret ⟨_, .cons (.tmp _) .nil, rfl⟩
    · have h3 : metB s.wide casts sm p = true := by have h4 : (!metB s.wide casts sm p) = false := h3; simpa using h4
      refine Aw.em tab_ok mb0 [] rfl rfl ?zo ?zk
      case zo =>
        repeat' apply AllP.cons
        all_goals first | exact trivial | exact (by simp only [Ob.of, inR]; omega)
      case zk =>
      refine ⟨k + 1, ?zg, ?zm, ⟨?zc, ?zv, ?zh, Nat.le_of_ble_eq_true rfl⟩⟩
      case zg =>
        (repeat' (first | assumption | omega | exact ⟨hlt, fun i2 hi => by rcases Nat.lt_or_ge i2 k with h | h; exact hgo i2 h; rw [show i2 = k by omega, hgk]; exact h3⟩ | (refine And.intro ?_ ?_)))
      case zm =>
        (repeat' (first | omega | exact ⟨hlt, fun i2 hi => by rcases Nat.lt_or_ge i2 k with h | h; exact hgo i2 h; rw [show i2 = k by omega, hgk]; exact h3⟩ | (refine And.intro ?_ ?_)))
      case zc =>
        (repeat' (first | (refine And.intro ?_ ?_) | exact trivial | exact A.Le.refl _ | exact rfl | exact ⟨hlt, fun i2 hi => by rcases Nat.lt_or_ge i2 k with h | h; exact hgo i2 h; rw [show i2 = k by omega, hgk]; exact h3⟩))
      case zv =>
        (repeat' (first | (refine And.intro ?_ ?_) | exact trivial | exact A.Le.refl _ | exact rfl | exact ⟨hlt, fun i2 hi => by rcases Nat.lt_or_ge i2 k with h | h; exact hgo i2 h; rw [show i2 = k by omega, hgk]; exact h3⟩))
      case zh =>
        (repeat' (first | (refine And.intro ?_ ?_) | exact trivial | exact A.Le.refl _ | exact rfl | exact ⟨hlt, fun i2 hi => by rcases Nat.lt_or_ge i2 k with h | h; exact hgo i2 h; rw [show i2 = k by omega, hgk]; exact h3⟩))
  have hle : k = G.length := by have := of_decide_eq_false h1; omega
  subst hle
  have hres : fndB s.wide G casts sm = true := List.all_eq_true.2 fun p hp => by
    obtain ⟨k2, hk2, rfl⟩ := List.getElem_of_mem hp
    have := hgo k2 hk2
    rwa [show G.getD k2 0 = G[k2] by simp [List.getD_eq_getElem?_getD, hk2]] at this
  rw [hres]
  refine Aw.exit2 ?_
  refine Aw.sm tab_ok mb0 [] rfl rfl ?zo ?zk
  case zo =>
    repeat' apply AllP.cons
    all_goals first | exact trivial
  case zk =>
  exact Aw.ret ⟨_, .cons (.tmp _) .nil, rfl⟩
set_option maxRecDepth 20000 in
set_option maxHeartbeats 1000000 in
theorem rSure_a (s : Sea) (hf : SeaFit s) (b : Bool) (l : List Rep) (hl : (l.length : Int) ≤ 9223372036854775806) (wrong hour : Int) (cb : Bool) (casts : List Sp) (hcs : CstFit casts) :
    Ans Try.prog 31 [.agg s.c, .sl b .any (l.map Rep.c), .int wrong, .int hour, .sl cb .any (casts.map Sp.c)] (.tup [outW (SureR s l wrong hour casts).1, .int (SureR s l wrong hour casts).2]) := by
  have us : ∀ {m : Nat}, Under m (A.pt s.c) := (Free.pt _ s.free).under
  have uc : ∀ {m : Nat}, Under m (.sl cb .any (casts.map Sp.c)) := (free_map Sp.free _ _ _).under
  have lc : ((casts.map Sp.c).length : Int) = casts.length := by simp
  have hask := rAsked_t s hf b l hl wrong hour cb casts hcs
  by_cases hA : AskE s l wrong hour casts = 0
  · rw [ask_in hA, hA] at hask
    rw [show SureR s l wrong hour casts = _ from if_pos hA]
    obtain ⟨hok, _, _, hco, hne⟩ := AskE_ok hA
    have ho := Sea.ok_of hok
    have hm := ho.many
    obtain ⟨hc8, hcc⟩ := castsOk_iff hco
    have hGi := fun c hc => canF_in ho (l := l) (wrong := wrong) (hour := hour) (c := c) hc
    have hG80 := canF_l80 ho l wrong hour
    generalize canF s l wrong hour = G at *
    have hres := rb_su (fd := fndB s.wide G casts) (n := casts.length) (fnd_nil hne) hc8.2
    have hrl := rbK_rising (fndB s.wide G casts) casts.length
    have hrs : ∀ q, rbK (fndB s.wide G casts) casts.length (q + 1) = if rbetB (fndB s.wide G casts) (memL ((q : Int) + 1) casts.length) (rbK (fndB s.wide G casts) casts.length q) then memL ((q : Int) + 1) casts.length else rbK (fndB s.wide G casts) casts.length q := fun q => rfl
    have lG := ints_lenI G
    have uG : ∀ {m : Nat}, Under m (outW G) := (outW_free G).under
    have hsh : IntKind.i64.wrap (1 * 2 ^ (min (((casts.map Sp.c).length : Int).toNat) 64)) = ((2 ^ casts.length : Nat) : Int) := by rw [lc]; exact shl1 hc8.2
    have hp1 : 1 ≤ 2 ^ casts.length := Nat.one_le_two_pow
    have hp2 : 2 ^ casts.length ≤ 2 ^ 8 := Nat.pow_le_pow_right (by decide) hc8.2
    have hmem : ∀ z : Int, Ans Try.prog 42 [.int z, .int ((casts.map Sp.c).length : Int)] (outW (memL z casts.length)) := fun z => by rw [lc]; exact members_w z _ (by omega)
    have hmeet : ∀ z : Int, Ans Try.prog 73 [.agg s.c, .sl cb .any (casts.map Sp.c), outW (memL z casts.length), outW G] (.bool (fndB s.wide G casts (memL z casts.length))) := fun z =>
      all_t s ho cb (memL z casts.length).isEmpty G.isEmpty casts (memL z casts.length) G (fun c hc => (hcc c hc).1) memL_in hGi (Nat.le_trans (memL_len _ _) (by omega)) (by omega)
    have hml : ∀ z : Int, (memL z casts.length).length ≤ casts.length := fun z => memL_len z _
    have hb0 : rbK (fndB s.wide G casts) casts.length 0 = [] := rfl
    have key : ∀ v, (rbK (fndB s.wide G casts) casts.length (2 ^ casts.length - 1) = [] → v = .tup [outA [], .int 4]) → (rbK (fndB s.wide G casts) casts.length (2 ^ casts.length - 1) ≠ [] → v = .tup [outW (rbK (fndB s.wide G casts) casts.length (2 ^ casts.length - 1)), .int 0]) → Free v →
        Ans Try.prog 31 [.agg s.c, .sl b .any (l.map Rep.c), .int wrong, .int hour, .sl cb .any (casts.map Sp.c)] v := by
      intro v hv1 hv2 hfr
      have hdef : ∀ own best : List Int, rbetB (fndB s.wide G casts) own best = cond (fndB s.wide G casts own) (cond (cond (((ints best).length : Int) == 0) true (decide (((ints own).length : Int) < ((ints best).length : Int)))) true (cond (((ints own).length : Int) == ((ints best).length : Int)) (Q.befF own best) false)) false := fun own best => by rw [ints_lenI, ints_lenI]; rfl
      generalize hfd : fndB s.wide G casts = fd at *
      clear hres
      generalize hP : 2 ^ casts.length = P at *
      refine told Try.func31 rfl rfl (Pure.of tab_ok Try.func31 rfl Try.ntmps31 rfl (allC (.agg _ s.free) (allC (free_map Rep.free _ _ _) (allC (.s _) (allC (.s _) (all1 (free_map Sp.free _ _ _)))))) (allC (fun _ => rfl) (allC (fun _ => rfl) (allC (fun _ => rfl) (allC (fun _ => rfl) (all1 (fun _ => rfl)))))) (by first | exact .s _ | assumption | exact .tup _ (by intro x hx; simp only [List.mem_cons, List.not_mem_nil, or_false] at hx; rcases hx with rfl | rfl | rfl | rfl <;> first | exact .s _ | (simp_all; done))) fun E hE => ?_)
      refine Aw.sm tab_ok mb0 [] rfl rfl ?zo ?zk
      case zo =>
        repeat' apply AllP.cons
        all_goals first | exact trivial
      case zk =>
      refine Aw.sm tab_ok mb0 [(5, [.tup [outW G, .int 0]])] rfl rfl ?zo ?zk
      case zo =>
        repeat' apply AllP.cons
        all_goals first | exact trivial | exact Nat.le_of_ble_eq_true rfl | exact hask
      case zk =>
      refine Aw.seq ?_
      refine Aw.sm tab_ok mb0 [] rfl rfl ?zo ?zk
      case zo =>
        repeat' apply AllP.cons
        all_goals first | exact trivial
      case zk =>
      refine Aw.cond rfl (fun h => absurd h (by decide)) (fun _ => Aw.skip ?_)
      refine Aw.sm tab_ok mb0 [] rfl rfl ?zo ?zk
      case zo =>
        repeat' apply AllP.cons
        all_goals first | exact trivial
      case zk =>
      refine Aw.seq ?_
      refine Aw.sm tab_ok mb0 [] rfl rfl ?zo ?zk
      case zo =>
        repeat' apply AllP.cons
        all_goals first | exact trivial
      case zk =>
      refine Aw.block (Aw.rounds 0 hE [(4, .sl cb .any (casts.map Sp.c)), (5, .pt s.c), (12, outW G)] (fun q : Nat => [(14, outW (rbK fd casts.length q)), (15, .int ((q : Int) + 1))]) (fun q => []) (fun q => q ≤ P - 1) (fun q => P - 1 - q) 0 ?zg ⟨?zc, ?zv, ?zh, Nat.le_of_ble_eq_true rfl⟩ ?zu (fun q zhk => ?zw) (fun q zhk => ?zx) fun q hk => ?zr)
      case zg =>
        (repeat' (first | exact Nat.zero_le _ | exact Nat.le_refl _ | exact trivial | exact us | exact uc | exact uG | exact .any _ _ _ | exact (outW_free _).under | (refine And.intro ?_ ?_)))
      case zc =>
        (repeat' (first | (refine And.intro ?_ ?_) | exact trivial | exact A.Le.refl _ | exact rfl | exact us | exact uc | exact uG | exact .any _ _ _ | exact (outW_free _).under))
      case zv =>
        (repeat' (first | (refine And.intro ?_ ?_) | exact trivial | exact A.Le.refl _ | exact rfl | exact us | exact uc | exact uG | exact .any _ _ _ | exact (outW_free _).under))
      case zh =>
        (repeat' (first | (refine And.intro ?_ ?_) | exact trivial | exact A.Le.refl _ | exact rfl | exact us | exact uc | exact uG | exact .any _ _ _ | exact (outW_free _).under))
      case zu =>
        (repeat' (first | exact trivial | exact Under.s _ | exact Under.un | assumption | exact (free_ints _ _ _).under | exact Under.ref _ _ (by decide) | exact Under.ms _ _ _ (by decide) | exact Under.mp _ (by decide) | exact (Free.agg _ (by assumption)).under | exact (Free.pt _ (by assumption)).under | exact grL_under _ | exact outA_under _ | exact Nat.le_of_ble_eq_true rfl | exact (fun _ _ => rfl) | exact us | exact uc | exact uG | exact .any _ _ _ | exact (outW_free _).under | (refine And.intro ?_ ?_)))
      case zw =>
        (repeat' (first | exact trivial | exact Under.s _ | exact Under.un | assumption | exact (free_ints _ _ _).under | exact Under.ref _ _ (by decide) | exact Under.ms _ _ _ (by decide) | exact Under.mp _ (by decide) | exact (Free.agg _ (by assumption)).under | exact (Free.pt _ (by assumption)).under | exact grL_under _ | exact outA_under _ | exact Nat.le_of_ble_eq_true rfl | exact (fun _ _ => rfl) | exact us | exact uc | exact uG | exact .any _ _ _ | exact (outW_free _).under | (refine And.intro ?_ ?_)))
      case zx =>
        (repeat' (first | exact trivial | exact Under.s _ | exact Under.un | assumption | exact (free_ints _ _ _).under | exact Under.ref _ _ (by decide) | exact Under.ms _ _ _ (by decide) | exact Under.mp _ (by decide) | exact (Free.agg _ (by assumption)).under | exact (Free.pt _ (by assumption)).under | exact grL_under _ | exact outA_under _ | exact Nat.le_of_ble_eq_true rfl | exact (fun _ _ => rfl) | exact us | exact uc | exact uG | exact .any _ _ _ | exact (outW_free _).under | (refine And.intro ?_ ?_)))
      case zr =>
      refine Aw.seq ?_
      refine Aw.sm tab_ok mb0 [] rfl rfl ?zo ?zk
      case zo =>
        repeat' apply AllP.cons
        all_goals first | exact trivial | exact Int.natCast_nonneg _
      case zk =>
      refine Aw.cond rfl (fun h4 => Aw.skip ?_) (fun h4 => ?_)
      · have h4 : decide ((q : Int) + 1 < IntKind.i64.wrap (1 * 2 ^ (min (((casts.map Sp.c).length : Int).toNat) 64))) = true := h4
        rw [hsh] at h4
        have hlt : q + 1 ≤ P - 1 := by have := of_decide_eq_true h4; omega
        have hmq := hmem ((q : Int) + 1)
        have hfq := hmeet ((q : Int) + 1)
        have hst := hrs q
        rw [hdef] at hst
        have hlq := hml ((q : Int) + 1)
        have hlb := hrl q
        generalize memL ((q : Int) + 1) casts.length = own at *
        generalize rbK fd casts.length q = best at *
        have hbf := before_t own best own.isEmpty best.isEmpty (by omega) (by omega)
        generalize fd own = fo at *
        generalize Q.befF own best = bv at *
        refine Aw.seq (Aw.block ?_)
        refine Aw.sm tab_ok mb0 [(3, [outW own])] rfl rfl ?zo ?zk
        case zo =>
          repeat' apply AllP.cons
          all_goals first | exact trivial | exact hmq
        case zk =>
        refine Aw.sm tab_ok mb0 [(4, [.bool fo]), (25, [.bool bv])] rfl rfl ?zo ?zk
        case zo =>
          repeat' apply AllP.cons
          all_goals first | exact trivial | exact id | exact fun _ => rfl | exact Nat.le_of_ble_eq_true rfl | exact gq_c | exact fun _ _ => rfl | exact hfq | exact fun _ => hbf
        case zk =>
        refine Aw.cond rfl (fun h5 => ?_) (fun h5 => Aw.skip ?_)
        · have h5 : cond fo (cond (cond (((ints best).length : Int) == 0) true (decide (((ints own).length : Int) < ((ints best).length : Int)))) true (cond (((ints own).length : Int) == ((ints best).length : Int)) bv false)) false = true := h5
          rw [h5, if_pos rfl] at hst
          refine Aw.em tab_ok mb0 [] rfl rfl ?zo ?zk
          case zo =>
            repeat' apply AllP.cons
            all_goals first | exact trivial
          case zk =>
          refine Aw.em tab_ok mb0 [] rfl rfl ?zo ?zk
          case zo =>
            repeat' apply AllP.cons
            all_goals first | exact trivial | exact (by simp only [Ob.of, inR]; omega)
          case zk =>
          refine ⟨q + 1, ?zg, ?zm, ⟨?zc, ?zv, ?zh, Nat.le_of_ble_eq_true rfl⟩⟩
          case zg =>
            (repeat' (first | assumption | omega | exact .of_eq (by rw [hst]; rfl) | exact .of_eq (congrArg A.int (by omega)) | (refine And.intro ?_ ?_)))
          case zm =>
            (repeat' (first | omega | exact .of_eq (by rw [hst]; rfl) | exact .of_eq (congrArg A.int (by omega)) | (refine And.intro ?_ ?_)))
          case zc =>
            (repeat' (first | (refine And.intro ?_ ?_) | exact trivial | exact A.Le.refl _ | exact rfl | exact .of_eq (by rw [hst]; rfl) | exact .of_eq (congrArg A.int (by omega))))
          case zv =>
            (repeat' (first | (refine And.intro ?_ ?_) | exact trivial | exact A.Le.refl _ | exact rfl | exact .of_eq (by rw [hst]; rfl) | exact .of_eq (congrArg A.int (by omega))))
          case zh =>
            (repeat' (first | (refine And.intro ?_ ?_) | exact trivial | exact A.Le.refl _ | exact rfl | exact .of_eq (by rw [hst]; rfl) | exact .of_eq (congrArg A.int (by omega))))
        · have h5 : cond fo (cond (cond (((ints best).length : Int) == 0) true (decide (((ints own).length : Int) < ((ints best).length : Int)))) true (cond (((ints own).length : Int) == ((ints best).length : Int)) bv false)) false = false := h5
          rw [h5, if_neg (by decide)] at hst
          refine Aw.em tab_ok mb0 [] rfl rfl ?zo ?zk
          case zo =>
            repeat' apply AllP.cons
            all_goals first | exact trivial | exact (by simp only [Ob.of, inR]; omega)
          case zk =>
          refine ⟨q + 1, ?zg, ?zm, ⟨?zc, ?zv, ?zh, Nat.le_of_ble_eq_true rfl⟩⟩
          case zg =>
            (repeat' (first | assumption | omega | exact .of_eq (by rw [hst]; rfl) | exact .of_eq (congrArg A.int (by omega)) | (refine And.intro ?_ ?_)))
          case zm =>
            (repeat' (first | omega | exact .of_eq (by rw [hst]; rfl) | exact .of_eq (congrArg A.int (by omega)) | (refine And.intro ?_ ?_)))
          case zc =>
            (repeat' (first | (refine And.intro ?_ ?_) | exact trivial | exact A.Le.refl _ | exact rfl | exact .of_eq (by rw [hst]; rfl) | exact .of_eq (congrArg A.int (by omega))))
          case zv =>
            (repeat' (first | (refine And.intro ?_ ?_) | exact trivial | exact A.Le.refl _ | exact rfl | exact .of_eq (by rw [hst]; rfl) | exact .of_eq (congrArg A.int (by omega))))
          case zh =>
            (repeat' (first | (refine And.intro ?_ ?_) | exact trivial | exact A.Le.refl _ | exact rfl | exact .of_eq (by rw [hst]; rfl) | exact .of_eq (congrArg A.int (by omega))))
      have h4 : decide ((q : Int) + 1 < IntKind.i64.wrap (1 * 2 ^ (min (((casts.map Sp.c).length : Int).toNat) 64))) = false := h4
      rw [hsh] at h4
      have hqe : q = P - 1 := by have := of_decide_eq_false h4; omega
      subst hqe
      refine Aw.exit2 ?_
      generalize rbK fd casts.length (P - 1) = best at *
      cases best with
      | nil =>
        rw [hv1 rfl]
        refine Aw.seq ?_
        refine Aw.sm tab_ok mb0 [] rfl rfl ?zo ?zk
        case zo =>
          repeat' apply AllP.cons
          all_goals first | exact trivial
        case zk =>
        refine Aw.cond rfl (fun _ => ?_) (fun h => absurd h (by decide))
        refine Aw.sm tab_ok mb0 [] rfl rfl ?zo ?zk
        case zo =>
          repeat' apply AllP.cons
          all_goals first | exact trivial
        case zk =>
        exact Aw.ret ⟨_, .cons (.tmp _) (.cons (.tmp _) .nil), rfl⟩
      | cons y best =>
        rw [hv2 (by simp)]
        refine Aw.seq ?_
        refine Aw.sm tab_ok mb0 [] rfl rfl ?zo ?zk
        case zo =>
          repeat' apply AllP.cons
          all_goals first | exact trivial
        case zk =>
        refine Aw.cond rfl (fun h => ?_) (fun _ => Aw.skip ?_)
        · have h := eq_of_beq (show (((ints (y :: best)).length : Int) == 0) = true from h)
          simp [ints] at h; omega
        refine Aw.sm tab_ok mb0 [] rfl rfl ?zo ?zk
        case zo =>
          repeat' apply AllP.cons
          all_goals first | exact trivial
        case zk =>
        exact Aw.ret ⟨_, .cons (.tmp _) (.cons (.tmp _) .nil), rfl⟩
    cases hsg : suGo (fndB s.wide G casts) casts.length (List.range casts.length) [] with
    | none =>
      rw [hsg] at hres
      simp only at hres ⊢
      exact Ans_out (key (.tup [outA [], .int 4]) (fun _ => rfl) (fun h => absurd hres h) (.tup _ (allC (outA_free _) (all1 (.s _))))) (leT2 (outA_le _) (.refl _))
    | some r =>
      have hsi := su_is (fndB s.wide G casts) casts.length
      rw [hsg] at hres hsi
      simp only at hres hsi ⊢
      have hr : r ≠ [] := fun e => by have := hsi.pos; rw [e] at this; simp at this
      exact key _ (fun h => by rw [hres] at h; exact absurd h hr) (fun _ => by rw [hres]) (.tup _ (allC (outW_free _) (all1 (.s _))))
  · rw [show askC s l wrong hour casts = [] from if_neg hA] at hask
    rw [show SureR s l wrong hour casts = _ from if_neg hA]
    generalize AskE s l wrong hour casts = e at *
    have he' : (e != 0) = true := by simpa using hA
    have hfr : Free (.tup [outA [], .int e]) := .tup _ (allC (outA_free _) (all1 (.s _)))
    refine Ans_out (v := .tup [outA [], .int e]) ?_ (leT2 (outA_le _) (.refl _))
    refine told Try.func31 rfl rfl (Pure.of tab_ok Try.func31 rfl Try.ntmps31 rfl (allC (.agg _ s.free) (allC (free_map Rep.free _ _ _) (allC (.s _) (allC (.s _) (all1 (free_map Sp.free _ _ _)))))) (allC (fun _ => rfl) (allC (fun _ => rfl) (allC (fun _ => rfl) (allC (fun _ => rfl) (all1 (fun _ => rfl)))))) (by first | exact .s _ | assumption | exact .tup _ (by intro x hx; simp only [List.mem_cons, List.not_mem_nil, or_false] at hx; rcases hx with rfl | rfl | rfl | rfl <;> first | exact .s _ | (simp_all; done))) fun E hE => ?_)
    refine Aw.sm tab_ok mb0 [] rfl rfl ?zo ?zk
    case zo =>
      repeat' apply AllP.cons
      all_goals first | exact trivial
    case zk =>
    refine Aw.sm tab_ok mb0 [(5, [.tup [outW [], .int e]])] rfl rfl ?zo ?zk
    case zo =>
      repeat' apply AllP.cons
      all_goals first | exact trivial | exact Nat.le_of_ble_eq_true rfl | exact hask
    case zk =>
    refine Aw.seq ?_
    refine Aw.sm tab_ok mb0 [] rfl rfl ?zo ?zk
    case zo =>
      repeat' apply AllP.cons
      all_goals first | exact trivial
    case zk =>
    refine Aw.cond rfl (fun _ => ?_) (fun h => ?_)
    · refine Aw.sm tab_ok mb0 [] rfl rfl ?zo ?zk
      case zo =>
        repeat' apply AllP.cons
        all_goals first | exact trivial
      case zk =>
      exact Aw.ret ⟨_, .cons (.tmp _) (.cons (.tmp _) .nil), rfl⟩
    · have h : (e != 0) = false := h
      rw [he'] at h; cases h
end Go.Proofs.Ytohbjneaaahpcaa

namespace Go.Proofs.Ytohbjneaaahpcaa
open Go Go.AL Go.AL.Q Go.AL.Sh
theorem same_w (l : List Int) (hl : (l.length : Int) ≤ 9223372036854775806) : Ans Try.prog 22 [outW l, outW l] (.bool true) := by
  have := same_t l.isEmpty l.isEmpty l l hl
  rwa [beq_self_eq_true] at this
theorem SureR_l (s : Sea) (l : List Rep) (wrong hour : Int) (casts : List Sp) : ((SureR s l wrong hour casts).1.length : Int) ≤ 9223372036854775806 := by
  unfold SureR
  split
  · rename_i hA
    have hc8 := (castsOk_iff (AskE_ok hA).2.2.2.1).1
    have hsi := su_is (fndB s.wide (canF s l wrong hour) casts) casts.length
    cases hsg : suGo (fndB s.wide (canF s l wrong hour) casts) casts.length (List.range casts.length) [] with
    | none => show ((0 : Nat) : Int) ≤ _; decide
    | some r =>
      rw [hsg] at hsi
      have := (rising_in hsi.ri (by omega) (by omega)).2
      show ((r.length : Nat) : Int) ≤ _; omega
  · show ((0 : Nat) : Int) ≤ _; decide
set_option maxRecDepth 20000 in
theorem law_asks (x : Srch) (hx : SrFit x) (a b : Int) (cb : Bool) (casts : List Sp) (hcs : CstFit casts) : Ans Try.prog 6 [.agg x.c, .agg [.int a, .int b], .sl cb .any (casts.map Sp.c)] (.bool true) := by
  have c1 := Next_w x hx a b cb casts hcs
  have c2 : Ans Try.prog 29 [.agg x.s.c, x.rA, .int a, .int b, .sl cb .any (casts.map Sp.c)] _ := rNext_t x.s hx.s x.rn x.l hx.l a b cb casts hcs
  have c3 := Sure_w x hx a b cb casts hcs
  have c4 : Ans Try.prog 31 [.agg x.s.c, x.rA, .int a, .int b, .sl cb .any (casts.map Sp.c)] _ := rSure_a x.s hx.s x.rn x.l hx.l a b cb casts hcs
  have c5 := same_w _ (SureR_l x.s x.l a b casts)
  refine told Try.func6 rfl rfl (Pure.of tab_ok Try.func6 rfl Try.ntmps6 rfl (allC (.agg _ x.free) (allC (.agg _ (allC (.s _) (all1 (.s _)))) (all1 (free_map Sp.free _ _ _)))) (allC (fun _ => rfl) (allC (fun _ => rfl) (all1 (fun _ => rfl)))) (by first | exact .s _ | assumption | exact .tup _ (by intro x hx; simp only [List.mem_cons, List.not_mem_nil, or_false] at hx; rcases hx with rfl | rfl | rfl | rfl <;> first | exact .s _ | (simp_all; done))) fun E hE => ?_)
  generalize NextR x.s x.l a b casts = R at *
  generalize SureR x.s x.l a b casts = L at *
  obtain ⟨n, m, e⟩ := R
  obtain ⟨T, f⟩ := L
  simp only at c1 c2 c3 c4 c5
  refine Aw.sm tab_ok mb0 [] rfl rfl ?zo ?zk
  case zo =>
    repeat' apply AllP.cons
    all_goals first | exact trivial
  case zk =>
  refine Aw.sm tab_ok mb0 [(9, [.tup [.int n, .int m, .int e]])] rfl rfl ?zo ?zk
  case zo =>
    repeat' apply AllP.cons
    all_goals first | exact trivial | exact Nat.le_of_ble_eq_true rfl | exact Int.natCast_nonneg _ | exact c1
  case zk =>
  refine Aw.sm tab_ok mb0 [(9, [.tup [.int n, .int m, .int e]])] rfl rfl ?zo ?zk
  case zo =>
    repeat' apply AllP.cons
    all_goals first | exact trivial | exact Nat.le_of_ble_eq_true rfl | exact Int.natCast_nonneg _ | exact c2
  case zk =>
  refine Aw.seq ?_
  refine Aw.sm tab_ok mb0 [] rfl rfl ?zo ?zk
  case zo =>
    repeat' apply AllP.cons
    all_goals first | exact trivial | exact id | exact fun _ => rfl | exact gq_f
  case zk =>
  refine Aw.cond rfl (fun h => ?_) (fun _ => Aw.skip ?_)
  · have h : cond (cond (n != n) true (m != m)) true (e != e) = true := h
    simp at h
  refine Aw.sm tab_ok mb0 [(9, [.tup [outW T, .int f]])] rfl rfl ?zo ?zk
  case zo =>
    repeat' apply AllP.cons
    all_goals first | exact trivial | exact Nat.le_of_ble_eq_true rfl | exact Int.natCast_nonneg _ | exact c3
  case zk =>
  refine Aw.sm tab_ok mb0 [(9, [.tup [outW T, .int f]])] rfl rfl ?zo ?zk
  case zo =>
    repeat' apply AllP.cons
    all_goals first | exact trivial | exact Nat.le_of_ble_eq_true rfl | exact Int.natCast_nonneg _ | exact c4
  case zk =>
  refine Aw.sm tab_ok mb0 [(2, [.bool true]), (9, [.bool true])] rfl rfl ?zo ?zk
  case zo =>
    repeat' apply AllP.cons
    all_goals first | exact trivial | exact id | exact fun _ => rfl | exact fun _ => works_t | exact c5
  case zk =>
  have hfin : cond (cond true (f == f) false) true false = true := by simp
  exact Aw.ret ⟨_, .cons (.tmp _) .nil, congrArg A.bool hfin⟩
theorem asks_l (x : Srch) (a b : Int) (cb : Bool) (casts : List Sp) (hx : SrFit2 x) (hcs : CstFit casts) : Ans Try.prog 6 [.agg x.c, .agg [.int a, .int b], .sl cb .any (casts.map Sp.c)] (.bool true) := law_asks x hx.fit a b cb casts hcs
end Go.Proofs.Ytohbjneaaahpcaa

namespace Go.Proofs.Ytohbjneaaahpcaa
open Go Go.AL Go.ChangeShapes Go.WideShapes Go.ChangeAt Go.RowKit
set_option maxRecDepth 100000 in
theorem shoalAsks_lifted (os : Os) (started : os.Started) (H : Type) (enc : TypeId × Value → H) :
    ReturnsInHanded {} Try.checked os 6 .any (Rows.shoalAsksSpec.pre6 enc Try.prog Try.f6 [] false) (Rows.shoalAsksSpec.post enc Try.prog Try.f6 false true false false) := by
  refine lifted2 (tb := 4) (C := Try.checked) own started (by kernel_rfl) Try.func6
    (ChangeSpec.witness6 (enc := enc) (C := Try.checked) false ⟨#[], #[.agg #[.int .i64 0, .int .i64 0, .slice none 0 0, .int .i64 0, .slice none 0 0, .int .i64 0, .slice none 0 0], .agg #[.int .i64 0, .int .i64 0], .slice none 0 0], []⟩ 8 (by kernel_rfl) (by kernel_rfl) (by kernel_rfl) (by kernel_rfl))
    laidOut ?_ rfl rfl (by kernel_rfl) uBool ?_ ?_
  · rw [Try.params6]; exact all3t (p := fun t => Try.prog.readableRec t = true ∧ t < Try.prog.types.size) t28 t38 t44
  · intro ds hd
    rw [Try.params6] at hd
    match ds, hd with
    | [d0, d1, d2], _ => rfl
  · intro W base args ds p hval hA hwt
    rw [Try.params6] at hA hval
    obtain ⟨v0, v1, v2, d0, d1, d2, p0, p1, p2, rfl, rfl, rfl, h0, h1, h2⟩ := trodAll_three hA
    obtain ⟨y0, q0, s0⟩ := arg_srch (φ := fun _ => none) (hval 0 28 v0 rfl rfl) h0 fun k hk => hwt k (List.mem_append.2 (.inl hk))
    obtain ⟨y1, q1⟩ := arg_2 (φ := fun _ => none) (hval 1 38 v1 rfl rfl) h1 fun k hk => hwt k (List.mem_append.2 (.inr (List.mem_append.2 (.inl hk))))
    obtain ⟨b2, y2, q2, s2⟩ := arg_casts (φ := fun _ => none) (hval 2 44 v2 rfl rfl) h2 fun k hk => hwt k (List.mem_append.2 (.inr (List.mem_append.2 (.inr (List.mem_append.2 (.inl hk))))))
    exact ⟨_, _, vrs3 q0 q1 q2, asks_l y0 y1.1 y1.2 b2 y2 s0 s2⟩
theorem shoalAsks_holds : Rows.ShoalAsksSaid :=
  OpenClaim.holds_of_wide 6 Try.f6 rfl rfl rfl rfl rfl rfl rfl ⟨rfl, rfl, rfl, rfl, rfl⟩ rfl rfl rfl rfl rfl (by kernel_rfl) Try.func6 (by kernel_rfl)
    (of_decide_eq_true (by kernel_rfl)) (by unfold Func.isWrapper; first | (rw [if_pos (by decide +kernel)]; kernel_rfl) | (rw [if_neg (by decide +kernel)]; exact ⟨rfl, rfl⟩))
    (fun os started H enc _ => shoalAsks_lifted os started H enc)
end Go.Proofs.Ytohbjneaaahpcaa

