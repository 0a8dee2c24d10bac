/- What the proof leans on, part 7: Q4 Q10 OH20 OH21 OH22 OH23 OB13 OB14 OB15 OY7. -/
import Derived.Test.YtkfepnbanekfgaaK6
set_option linter.all false
namespace Go.AL.Q
open Go
end Go.AL.Q

namespace Go.AL.Q
open Go
theorem ofInt_nat (m : Nat) : BitVec.ofInt 64 (m : Int) = BitVec.ofNat 64 m := BitVec.ofInt_natCast ..
theorem wrap_nat {m : Nat} (h : m < 2 ^ 63) : IntKind.i64.wrap (m : Int) = m := wrap_in (by simp only [inR]; omega)
theorem ior_nat {m n : Nat} (hm : m < 2 ^ 63) (hn : n < 2 ^ 63) : ior (m : Int) (n : Int) = ((m ||| n : Nat) : Int) := by
  unfold ior
  rw [ofInt_nat, ofInt_nat, BitVec.toNat_or, BitVec.toNat_ofNat, BitVec.toNat_ofNat, Nat.mod_eq_of_lt (by omega), Nat.mod_eq_of_lt (by omega)]
  exact wrap_nat (Nat.or_lt_two_pow hm hn)
theorem iand_one {m : Nat} (hm : m < 2 ^ 63) : iand (m : Int) 1 = ((m % 2 : Nat) : Int) := by
  unfold iand
  rw [ofInt_nat, show (1 : Int) = ((1 : Nat) : Int) from rfl, ofInt_nat, BitVec.toNat_and, BitVec.toNat_ofNat, BitVec.toNat_ofNat, Nat.mod_eq_of_lt (show m < 2 ^ 64 by omega), Nat.mod_eq_of_lt (by decide), Nat.and_one_is_mod]
  exact wrap_nat (by omega)
theorem bitI_test {m k : Nat} (hm : m < 2 ^ 63) (hk : k ≤ 64) : bitI (m : Int) k = m.testBit k := by
  unfold bitI
  rw [Nat.min_eq_left hk]
  have e : (m : Int).fdiv (2 ^ k) = ((m / 2 ^ k : Nat) : Int) := by
    rw [Int.fdiv_eq_ediv_of_nonneg _ (by exact Int.le_of_lt (Int.pow_pos (by decide)))]
    norm_cast
  rw [e, iand_one (Nat.lt_of_le_of_lt (Nat.div_le_self _ _) hm), Nat.testBit_eq_decide_div_mod_eq]
  have : m / 2 ^ k % 2 = 0 ∨ m / 2 ^ k % 2 = 1 := by omega
  rcases this with h | h <;> rw [h] <;> decide
def setN (l : List Int) : Nat := l.foldl (fun x c => x ||| 2 ^ c.toNat) 0
theorem setN_go : ∀ (l : List Int) (x : Nat), (∀ c ∈ l, 0 ≤ c ∧ c < 12) → x < 2 ^ 12 → l.foldl (fun x c => ior x (bitOf c)) (x : Int) = ((l.foldl (fun x c => x ||| 2 ^ c.toNat) x : Nat) : Int) ∧ l.foldl (fun x c => x ||| 2 ^ c.toNat) x < 2 ^ 12 ∧
    ∀ k, (l.foldl (fun x c => x ||| 2 ^ c.toNat) x).testBit k = (x.testBit k || l.contains (k : Int))
  | [], x, _, hx => ⟨rfl, hx, fun k => by simp⟩
  | c :: l, x, h, hx => by
    have hc := h c (List.mem_cons_self ..)
    have hp : 2 ^ c.toNat < 2 ^ 12 := Nat.pow_lt_pow_right (by decide) (by omega)
    have hb : bitOf c = ((2 ^ c.toNat : Nat) : Int) := by
      unfold bitOf
      rw [Nat.min_eq_left (by omega), Int.one_mul]
      have : ((2 : Int) ^ c.toNat) = ((2 ^ c.toNat : Nat) : Int) := by norm_cast
      rw [this]
      exact wrap_nat (by omega)
    have hs := setN_go l (x ||| 2 ^ c.toNat) (fun d hd => h d (List.mem_cons_of_mem _ hd)) (Nat.or_lt_two_pow hx hp)
    rw [List.foldl_cons, List.foldl_cons, hb, ior_nat (by omega) (by omega)]
    refine ⟨hs.1, hs.2.1, fun k => ?_⟩
    rw [hs.2.2 k, Nat.testBit_or, Nat.testBit_two_pow, List.contains_cons, Bool.or_assoc]
    congr 2
    rw [Bool.eq_iff_iff, decide_eq_true_eq, beq_iff_eq]; omega
theorem setOf_is {l : List Int} (h : ∀ c ∈ l, 0 ≤ c ∧ c < 12) : setOf l = (setN l : Int) ∧ setN l < 2 ^ 12 ∧ ∀ k, (setN l).testBit k = l.contains (k : Int) := by
  obtain ⟨h1, h2, h3⟩ := setN_go l 0 h (by decide)
  exact ⟨h1, h2, fun k => by have := h3 k; unfold setN; rw [this]; simp⟩
def uniS (sets : List Int) (l : List Int) : Int := l.foldl (fun x i => ior x (sets.getD i.toNat 0)) 0
def inBox (boxes : List NL) (l : List Int) (c : Nat) : Bool := l.any fun i => (boxes.getD i.toNat ⟨false, []⟩).l.contains (c : Int)
theorem uni_go {boxes : List NL} (hb : ∀ b ∈ boxes, ∀ c ∈ b.l, 0 ≤ c ∧ c < 12) : ∀ (l : List Int) (x : Nat), x < 2 ^ 12 → (∀ i ∈ l, 0 ≤ i ∧ i < boxes.length) →
    ∃ m : Nat, l.foldl (fun x i => ior x ((setsOf boxes).getD i.toNat 0)) (x : Int) = (m : Int) ∧ m < 2 ^ 12 ∧ ∀ k, m.testBit k = (x.testBit k || inBox boxes l k)
  | [], x, hx, _ => ⟨x, rfl, hx, fun k => by simp [inBox]⟩
  | i :: l, x, hx, hi => by
    have h1 := hi i (List.mem_cons_self ..)
    have hlt : i.toNat < boxes.length := by omega
    have e : (setsOf boxes).getD i.toNat 0 = setOf boxes[i.toNat].l := by unfold setsOf; rw [List.getD_eq_getElem?_getD, List.getElem?_map, List.getElem?_eq_getElem hlt]; rfl
    have e2 : boxes.getD i.toNat ⟨false, []⟩ = boxes[i.toNat] := by rw [List.getD_eq_getElem?_getD, List.getElem?_eq_getElem hlt]; rfl
    obtain ⟨s1, s2, s3⟩ := setOf_is (hb _ (List.getElem_mem hlt))
    rw [List.foldl_cons, e, s1, ior_nat (by omega) (by omega)]
    obtain ⟨m, m1, m2, m3⟩ := uni_go hb l (x ||| setN boxes[i.toNat].l) (Nat.or_lt_two_pow hx s2) fun j hj => hi j (List.mem_cons_of_mem _ hj)
    refine ⟨m, m1, m2, fun k => ?_⟩
    rw [m3, Nat.testBit_or, s3, Bool.or_assoc]
    show _ = (_ || inBox boxes (i :: l) k)
    unfold inBox
    rw [List.any_cons, e2]
theorem uni_bit {boxes : List NL} (hb : ∀ b ∈ boxes, ∀ c ∈ b.l, 0 ≤ c ∧ c < 12) {l : List Int} (hl : ∀ i ∈ l, 0 ≤ i ∧ i < boxes.length) {k : Nat} (hk : k ≤ 12) : bitI (uniS (setsOf boxes) l) k = inBox boxes l k := by
  obtain ⟨m, m1, m2, m3⟩ := uni_go hb l 0 (by decide) hl
  have e : uniS (setsOf boxes) l = (m : Int) := m1
  rw [e, bitI_test (by omega) (by omega), m3]; simp
def closedN (cells : List Cel) (boxes : List NL) (l : List Int) : Nat → Cel
  | 0 => ⟨0, 0⟩
  | k + 1 => if inBox boxes l k then ⟨(closedN cells boxes l k).sp + (cells.getD k ⟨0, 0⟩).sp, (closedN cells boxes l k).la + (cells.getD k ⟨0, 0⟩).la⟩ else closedN cells boxes l k
theorem spare_closed {cells : List Cel} {boxes : List NL} (hb : ∀ b ∈ boxes, ∀ c ∈ b.l, 0 ≤ c ∧ c < 12) {l : List Int} (hl : ∀ i ∈ l, 0 ≤ i ∧ i < boxes.length) : ∀ k, k ≤ 12 → spareN cells (uniS (setsOf boxes) l) k = closedN cells boxes l k
  | 0, _ => rfl
  | k + 1, hk => by rw [spareN, closedN, spare_closed hb hl k (by omega), uni_bit hb hl (by omega)]
theorem bef_irr : ∀ a : List Int, befF a a = false
  | [] => rfl
  | x :: a => by rw [befF, if_pos rfl]; exact bef_irr a
theorem bef_trans : ∀ a b c : List Int, befF a b = true → befF b c = true → befF a c = true
  | [], b, [], h, k => by cases b <;> simp [befF] at h k
  | [], _, _ :: _, _, _ => rfl
  | x :: a, [], c, h, _ => by simp [befF] at h
  | x :: a, y :: b, [], _, k => by simp [befF] at k
  | x :: a, y :: b, z :: c, h, k => by
    rw [befF] at h k ⊢
    by_cases h1 : x = y
    · subst h1
      rw [if_pos rfl] at h
      by_cases h2 : x = z
      · rw [if_pos h2] at k ⊢; exact bef_trans a b c h k
      · rw [if_neg h2] at k ⊢; exact k
    · rw [if_neg h1] at h
      have h := of_decide_eq_true h
      by_cases h2 : y = z
      · subst h2
        rw [if_neg h1]; exact decide_eq_true h
      · rw [if_neg h2] at k
        have k := of_decide_eq_true k
        rw [if_neg (by omega)]; exact decide_eq_true (by omega)
def Ahead (a b : List Int) : Prop := a.length < b.length ∨ (a.length = b.length ∧ befF a b = true)
theorem Ahead.irr {a : List Int} : ¬ Ahead a a := fun h => by
  rcases h with h | h
  · omega
  · rw [bef_irr] at h; cases h.2
theorem Ahead.trans {a b c : List Int} (h : Ahead a b) (k : Ahead b c) : Ahead a c := by
  rcases h with h | h <;> rcases k with k | k
  · exact .inl (by omega)
  · exact .inl (by omega)
  · exact .inl (by omega)
  · exact .inr ⟨by omega, bef_trans _ _ _ h.2 k.2⟩
def Win (v : List Int → Cel) (a b : List Int) : Prop := (v a).sp > (v b).sp ∨ ((v a).sp = (v b).sp ∧ ((v a).la < (v b).la ∨ ((v a).la = (v b).la ∧ Ahead a b)))
theorem Win.irr {v : List Int → Cel} {a : List Int} : ¬ Win v a a := fun h => by
  rcases h with h | ⟨_, h | ⟨_, h⟩⟩
  · omega
  · omega
  · exact h.irr
theorem Win.trans {v : List Int → Cel} {a b c : List Int} (h : Win v a b) (k : Win v b c) : Win v a c := by
  rcases h with h | ⟨h1, h | ⟨h2, h⟩⟩ <;> rcases k with k | ⟨k1, k | ⟨k2, k⟩⟩
  · exact .inl (by omega)
  · exact .inl (by omega)
  · exact .inl (by omega)
  · exact .inl (by omega)
  · exact .inr ⟨by omega, .inl (by omega)⟩
  · exact .inr ⟨by omega, .inl (by omega)⟩
  · exact .inl (by omega)
  · exact .inr ⟨by omega, .inl (by omega)⟩
  · exact .inr ⟨by omega, .inr ⟨by omega, h.trans k⟩⟩
structure Top (v : List Int → Cel) (C : List Int → Prop) (s : BSt) : Prop where
  mem : C s.chosen
  sp : s.sp = (v s.chosen).sp
  la : s.la = (v s.chosen).la
  top : ∀ c, C c → ¬ Win v c s.chosen
theorem Top.step {v : List Int → Cel} {C D : List Int → Prop} {s : BSt} {c : List Int} {b : Bool} (h : Top v C s) (hb : b = true ↔ Win v c s.chosen) (hD : ∀ d, D d ↔ C d ∨ d = c) : Top v D (if b then ⟨c, (v c).sp, (v c).la⟩ else s) := by
  cases b with
  | true =>
    have w := hb.1 rfl
    refine ⟨(hD _).2 (.inr rfl), rfl, rfl, fun d hd wd => ?_⟩
    rcases (hD d).1 hd with hd | rfl
    · exact h.top d hd (Win.trans wd w)
    · exact Win.irr wd
  | false =>
    refine ⟨(hD _).2 (.inl h.mem), h.sp, h.la, fun d hd wd => ?_⟩
    rcases (hD d).1 hd with hd | rfl
    · exact h.top d hd wd
    · have := hb.2 wd; cases this
def pStep (v : List Int → Cel) (s : BSt) (c : List Int) : BSt := if better (v c) s then ⟨c, (v c).sp, (v c).la⟩ else s
theorem Top.fold {v : List Int → Cel} : ∀ (L : List (List Int)) {C : List Int → Prop} {s : BSt}, Top v C s → L.Pairwise Ahead → (∀ d, C d → ∀ c ∈ L, Ahead d c) → Top v (fun d => C d ∨ d ∈ L) (L.foldl (pStep v) s)
  | [], C, s, h, _, _ => by
    have e : (fun d => C d ∨ d ∈ ([] : List (List Int))) = C := funext fun d => by simp
    rw [e]; exact h
  | c :: L, C, s, h, hp, ha => by
    obtain ⟨p1, p2⟩ := List.pairwise_cons.1 hp
    have h1 : Top v (fun d => C d ∨ d = c) (pStep v s c) := h.step (by
      have hah : Ahead s.chosen c := ha _ h.mem c (List.mem_cons_self ..)
      unfold better Win
      rw [h.sp, h.la]
      simp only [Bool.or_eq_true, Bool.and_eq_true, decide_eq_true_eq]
      constructor
      · rintro (h | ⟨h1, h2⟩)
        · exact .inl h
        · exact .inr ⟨h1, .inl h2⟩
      · rintro (h | ⟨h1, h2 | ⟨_, h3⟩⟩)
        · exact .inl h
        · exact .inr ⟨h1, h2⟩
        · exact absurd (hah.trans h3) Ahead.irr) fun d => Iff.rfl
    have h2 := Top.fold L h1 p2 fun d hd e he => by
      rcases hd with hd | rfl
      · exact ha d hd e (List.mem_cons_of_mem _ he)
      · exact p1 e he
    rw [List.foldl_cons]
    have e : (fun d => C d ∨ d ∈ c :: L) = fun d => (C d ∨ d = c) ∨ d ∈ L := funext fun d => by simp [or_assoc]
    rw [e]; exact h2
def cmb (n : Nat) : Nat → List Int → List (List Int)
  | 0, l => [l]
  | f + 1, l => ((List.range n).drop (fromB l)).flatMap fun (i : Nat) => cmb n f (l ++ [(i : Int)])
theorem fromB_app (l : List Int) (i : Nat) : fromB (l ++ [(i : Int)]) = i + 1 := by unfold fromB; simp
theorem range_drop_mem {n k i : Nat} : i ∈ (List.range n).drop k ↔ k ≤ i ∧ i < n := by
  rw [List.range_eq_range', List.drop_range', List.mem_range'_1]; omega
theorem cmb_mem (n : Nat) : ∀ (f : Nat) (l c : List Int), c ∈ cmb n f l ↔ ∃ t, c = l ++ t ∧ t.length = f ∧ risingF n ((fromB l : Int) - 1) t = true
  | 0, l, c => by
    rw [cmb, List.mem_singleton]
    constructor
    · rintro rfl; exact ⟨[], by simp, rfl, rfl⟩
    · rintro ⟨t, rfl, h, _⟩
      rw [List.length_eq_zero_iff.1 h]; simp
  | f + 1, l, c => by
    rw [cmb, List.mem_flatMap]
    constructor
    · rintro ⟨i, hi, hc⟩
      rw [cmb_mem n f] at hc
      obtain ⟨t, rfl, h1, h2⟩ := hc
      rw [fromB_app] at h2
      have h3 := range_drop_mem.1 hi
      refine ⟨(i : Int) :: t, by simp, by simp [h1], ?_⟩
      rw [risingF, wi_iff.2 (show (fromB l : Int) - 1 + 1 ≤ (i : Int) ∧ (i : Int) ≤ (n : Int) - 1 by omega)]
      have e : ((i + 1 : Nat) : Int) - 1 = (i : Int) := by omega
      rw [e] at h2; exact h2
    · rintro ⟨t, rfl, h1, h2⟩
      match t, h1 with
      | x :: t, h1 =>
        rw [risingF, c_and, Bool.and_eq_true, wi_iff] at h2
        obtain ⟨i, rfl⟩ : ∃ i : Nat, x = i := ⟨x.toNat, by omega⟩
        refine ⟨i, range_drop_mem.2 (by omega), (cmb_mem n f _ _).2 ⟨t, by simp, by simpa using h1, ?_⟩⟩
        rw [fromB_app]
        have e : ((i + 1 : Nat) : Int) - 1 = (i : Int) := by omega
        rw [e]; exact h2.2
theorem bef_pre : ∀ (l : List Int) {a b : List Int}, befF (l ++ a) (l ++ b) = befF a b
  | [], _, _ => rfl
  | x :: l, a, b => by rw [List.cons_append, List.cons_append, befF, if_pos rfl]; exact bef_pre l
theorem cmb_ahead (n : Nat) : ∀ (f : Nat) (l : List Int), (cmb n f l).Pairwise Ahead
  | 0, l => by rw [cmb]; exact List.pairwise_singleton ..
  | f + 1, l => by
    rw [cmb, List.pairwise_flatMap]
    refine ⟨fun i _ => cmb_ahead n f _, ?_⟩
    have hs : ((List.range n).drop (fromB l)).Pairwise (· < ·) := List.pairwise_lt_range.sublist (List.drop_sublist ..)
    refine hs.imp fun {i j} hij a ha b hb => ?_
    obtain ⟨t, rfl, h1, _⟩ := (cmb_mem n f _ _).1 ha
    obtain ⟨u, rfl, h2, _⟩ := (cmb_mem n f _ _).1 hb
    refine .inr ⟨by simp [h1, h2], ?_⟩
    rw [List.append_assoc, List.append_assoc, bef_pre, List.singleton_append, List.singleton_append, befF, if_neg (by omega)]
    exact decide_eq_true (by omega)
theorem bx_fold (cells : List Cel) (sets : List Int) : ∀ (f : Nat) (l : List Int) (s : BSt), bxF cells sets f l (uniS sets l) s = (cmb sets.length f l).foldl (pStep fun c => spareF cells (uniS sets c)) s
  | 0, l, s => rfl
  | f + 1, l, s => by
    rw [bxF, cmb, List.foldl_flatMap]
    generalize (List.range sets.length).drop (fromB l) = is
    induction is generalizing s with
    | nil => rfl
    | cons i is ih =>
      rw [bxGo, List.foldl_cons]
      have e : ior (uniS sets l) (sets.getD i 0) = uniS sets (l ++ [(i : Int)]) := by unfold uniS; rw [List.foldl_append]; simp
      rw [e, bx_fold cells sets f]
      exact ih _
theorem bxAll_fold (cells : List Cel) (sets : List Int) : ∀ (ms : List Nat) (s : BSt), bxAll cells sets ms s = (ms.flatMap fun m => cmb sets.length m []).foldl (pStep fun c => spareF cells (uniS sets c)) s
  | [], s => rfl
  | m :: ms, s => by
    rw [bxAll, List.flatMap_cons, List.foldl_append, ← bx_fold cells sets m [] s]
    exact bxAll_fold cells sets ms _
def looks (n m : Nat) : List (List Int) := (List.range' 1 m).flatMap fun k => cmb n k []
theorem looks_mem {n m : Nat} {c : List Int} : c ∈ looks n m ↔ risingF n (-1) c = true ∧ 1 ≤ c.length ∧ c.length ≤ m := by
  unfold looks
  rw [List.mem_flatMap]
  constructor
  · rintro ⟨k, hk, hc⟩
    obtain ⟨t, rfl, h1, h2⟩ := (cmb_mem n k [] c).1 hc
    have := List.mem_range'_1.1 hk
    exact ⟨h2, by omega, by omega⟩
  · rintro ⟨h1, h2, h3⟩
    exact ⟨c.length, List.mem_range'_1.2 (by omega), (cmb_mem n _ [] c).2 ⟨c, rfl, rfl, h1⟩⟩
theorem looks_ahead (n m : Nat) : (looks n m).Pairwise Ahead := by
  unfold looks
  rw [List.pairwise_flatMap]
  refine ⟨fun k _ => cmb_ahead n k [], List.Pairwise.imp (fun {i j} hij a ha b hb => ?_) (List.pairwise_lt_range' ..)⟩
  obtain ⟨t, rfl, h1, _⟩ := (cmb_mem n i [] a).1 ha
  obtain ⟨u, rfl, h2, _⟩ := (cmb_mem n j [] b).1 hb
  exact .inl (by simp [h1, h2]; exact hij)
theorem box_top {cells : List Cel} {boxes : List NL} {most : Int} (hm : 0 ≤ most) : Top (fun c => spareF cells (uniS (setsOf boxes) c)) (fun c => risingF boxes.length (-1) c = true ∧ c.length ≤ (min most boxes.length).toNat) (boxF cells boxes most) := by
  have hlen : (setsOf boxes).length = boxes.length := by simp [setsOf]
  unfold boxF
  rw [List.range_eq_range', List.range'_succ, bxAll_fold, hlen, List.flatMap_cons, List.foldl_append]
  have h0 : spareF cells (uniS (setsOf boxes) []) = ⟨0, 0⟩ := spare_zero cells _
  have e0 : (cmb boxes.length 0 []).foldl (pStep fun c => spareF cells (uniS (setsOf boxes) c)) ⟨[], 0, 0⟩ = ⟨[], 0, 0⟩ := by
    rw [cmb, List.foldl_cons, List.foldl_nil, pStep, h0]; rfl
  rw [e0]
  have t0 : Top (fun c => spareF cells (uniS (setsOf boxes) c)) (fun c => c = []) ⟨[], 0, 0⟩ := ⟨rfl, by show (0 : Int) = (spareF cells (uniS (setsOf boxes) [])).sp; rw [h0], by show (0 : Int) = (spareF cells (uniS (setsOf boxes) [])).la; rw [h0], fun c hc => by subst hc; exact Win.irr⟩
  have := Top.fold (looks boxes.length (min most boxes.length).toNat) t0 (looks_ahead _ _) fun d hd c hc => by
    subst hd
    have := looks_mem.1 hc
    exact .inl (by simp only [List.length_nil]; omega)
  have e : (fun c => risingF boxes.length (-1) c = true ∧ c.length ≤ (min most boxes.length).toNat) = fun d => d = [] ∨ d ∈ looks boxes.length (min most boxes.length).toNat := funext fun d => by
    rw [looks_mem, eq_iff_iff]
    constructor
    · rintro ⟨h1, h2⟩
      cases d with
      | nil => exact .inl rfl
      | cons x d => exact .inr ⟨h1, by simp, h2⟩
    · rintro (rfl | h)
      · exact ⟨rfl, Nat.zero_le _⟩
      · exact ⟨h.1, h.2.2⟩
  rw [e]; exact this
def setK (L : Nat → Bool) : Nat → Nat
  | 0 => 0
  | n + 1 => if L n then 2 ^ n + setK L n else setK L n
end Go.AL.Q

namespace Go.Proofs.Ytkfepnbanekfgaa
open Go Go.AL Go.AL.Q Go.AL.Sh
def lgH (s : Sea) (l : List Rep) : List (Nat × B) := [(20, landB s), (21, .cells (logA s (.mp 20) l))]
theorem lgH_under (s : Sea) (l : List Rep) {n : Nat} (h : 21 < n) : UnderH n (lgH s l) := ⟨⟨by omega, map_under _⟩, ⟨h, .cells _ (logA_under s (by omega) l)⟩, trivial⟩
theorem placeP_inR {w cell : Int} (hw : 1 ≤ w ∧ w ≤ 10) (hc : inR cell) : inR (cell.tdiv w) := by
  have h2 : (cell.tdiv w).natAbs ≤ cell.natAbs := by rw [Int.natAbs_tdiv]; exact Nat.div_le_self _ _
  have h3 : 0 ≤ cell → 0 ≤ cell.tdiv w := fun h => Int.tdiv_nonneg h (by omega)
  have h4 : cell ≤ 0 → cell.tdiv w ≤ 0 := fun h => by
    have := Int.tdiv_nonneg (show 0 ≤ -cell by omega) (show 0 ≤ w by omega)
    rw [Int.neg_tdiv] at this; omega
  simp only [inR] at *
  omega
theorem place_a (s : Sea) (h : s.Ok) (cell : Int) (hc : inR cell) : Ans Try.prog 53 [.agg (seaA s .un), .int cell] (.agg (placeP s.wide cell).c) := by
  have hfr : Free (.agg (placeP s.wide cell).c) := .agg _ (Sp.free _)
  have hw := h.w
  have h2 := placeP_inR hw hc
  refine told Try.func53 rfl rfl (Pure.of tab_ok Try.func53 rfl Try.ntmps53 rfl (allC (.agg _ (seaA_free s)) (all1 (.s _))) (allC (fun _ => rfl) (all1 (fun _ => rfl))) (by first | exact .s _ | assumption | exact .tup _ (by intro x hx; simp only [List.mem_cons, List.not_mem_nil, or_false] at hx; rcases hx with rfl | rfl | rfl | rfl <;> first | exact .s _ | (simp_all; done))) fun E hE => ?_)
  refine Aw.sm tab_ok mb0 [] rfl rfl ?zo ?zk
  case zo =>
    repeat' apply AllP.cons
    all_goals first | exact trivial
  case zk =>
  refine Aw.sd tab_ok mixed mb0 [] rfl (by kernel_rfl) rfl rfl ?zo ?zk
  case zo =>
    repeat' apply AllP.cons
    all_goals first | exact trivial | exact rfl | exact Nat.le_of_ble_eq_true rfl | exact (show s.wide ≠ 0 by omega) | exact (show s.wide ≠ 0 ∧ inR (cell.tdiv s.wide) from ⟨by omega, h2⟩)
  case zk =>
  exact Aw.ret ⟨_, .cons (resC rfl rfl rfl rfl rfl) .nil, rfl⟩
theorem plca_t (s : Sea) (h : s.Ok) (i : Nat) (cell : Int) (hc : inR cell) : Ans Try.prog 53 [.agg (seaA s (.mp i)), .int cell] (.agg (placeP s.wide cell).c) :=
  (place_a s h cell hc).le rfl fun j hj => by
    match j, hj with
    | 0, _ => exact seaLe s _ fun _ => rfl
    | 1, _ => exact .refl _
def castC (w : Int) (c : Sp) : List A := (placeP w c.lo).c ++ [.int c.hi]
theorem castC_free (w : Int) (c : Sp) : ∀ x ∈ castC w c, Free x := fun x hx => (List.mem_append.1 hx).elim ((placeP w c.lo).free x) (all1 (.s _) x)
def castOk (s : Sea) (c : Sp) : Bool := cond (wi c.lo 0 (s.many - 1)) (wi c.hi 0 9) false
def castsOk (s : Sea) (casts : List Sp) : Bool := cond (wi casts.length 1 8) (casts.all (castOk s)) false
def AskE (s : Sea) (l : List Rep) (wrong hour : Int) (casts : List Sp) : Int :=
  if s.ok then if s.repsOk l then if askedB s wrong hour then if castsOk s casts then canE (canF s l wrong hour) else 13 else 7 else 11 else 10
def grR {α : Type} (e : Nat) (f : α → List A) : List α → A
  | [] => .sl true .exact []
  | x :: l => .sl false (.own e) ((x :: l).map f)
theorem grR_under {α : Type} {e n : Nat} {f : α → List A} (hf : ∀ a, ∀ x ∈ f a, Free x) : ∀ l : List α, Under n (grR e f l)
  | [] => .sl _ _ _ fun _ h => nomatch h
  | x :: l => .sl _ _ _ fun y hy z hz => by obtain ⟨a, _, rfl⟩ := List.mem_map.1 hy; exact (hf a z hz).under
structure CstFit (casts : List Sp) : Prop where
  len : casts.length * 16 ≤ 140737488351232
  r : ∀ c ∈ casts, inR c.lo ∧ inR c.hi
def askA (s : Sea) (l : List Rep) (wrong hour : Int) (casts : List Sp) : A :=
  if AskE s l wrong hour casts = 0 then .tup [.sl false .any ((canF s l wrong hour).map fun c => (placeP s.wide c).c), .sl false .any (casts.map (castC s.wide)), .int 0] else .tup [.sl true .exact [], .sl true .exact [], .int (AskE s l wrong hour casts)]
theorem canF_in {s : Sea} (ho : s.Ok) {l : List Rep} {wrong hour c : Int} (h : c ∈ canF s l wrong hour) : 0 ≤ c ∧ c < 80 := goL_in s ho h
set_option maxRecDepth 20000 in
set_option maxHeartbeats 1000000 in
theorem asked_t (s : Sea) (hf : SeaFit s) (b : Bool) (l : List Rep) (hl : (l.length : Int) ≤ 9223372036854775806) (wrong hour : Int) (cb : Bool) (casts : List Sp) (hcs : CstFit casts) :
    Ans Try.prog 33 [.agg s.c, .sl b .any (l.map Rep.c), .int wrong, .int hour, .sl cb .any (casts.map Sp.c)] (askA s l wrong hour casts) := by
  have fcs : Free (.sl cb .any (casts.map Sp.c)) := free_map Sp.free _ _ _
  have hfr : Free (askA s l wrong hour casts) := by
    unfold askA; split
    · exact .tup _ (allC (free_map (fun c => Sp.free _) _ _ _) (allC (free_map (castC_free _) _ _ _) (all1 (.s _))))
    · exact .tup _ (allC (.sl _ _ _ fun _ h => nomatch h) (allC (.sl _ _ _ fun _ h => nomatch h) (all1 (.s _))))
  have bad : ∀ e, e ≠ 0 → AskE s l wrong hour casts = e → askA s l wrong hour casts = .tup [.sl true .exact [], .sl true .exact [], .int e] := fun e h1 h2 => by unfold askA; rw [h2, if_neg h1]
  have hcl := hcs.len
  have lc : ((casts.map Sp.c).length : Int) = casts.length := by simp
  refine told Try.func33 rfl rfl (Pure.of tab_ok Try.func33 rfl Try.ntmps33 rfl (allC (.agg _ s.free) (allC (free_map Rep.free _ _ _) (allC (.s _) (allC (.s _) (all1 (fcs)))))) (allC (fun _ => rfl) (allC (fun _ => rfl) (allC (fun _ => rfl) (allC (fun _ => rfl) (all1 (fun _ => rfl)))))) (by first | exact .s _ | assumption | exact .tup _ (by intro x hx; simp only [List.mem_cons, List.not_mem_nil, or_false] at hx; rcases hx with rfl | rfl | rfl | rfl <;> first | exact .s _ | (simp_all; done))) fun E hE => ?_)
  refine Aw.sm tab_ok mb0 [] rfl rfl ?zo ?zk
  case zo =>
    repeat' apply AllP.cons
    all_goals first | exact trivial
  case zk =>
  cases hok : s.ok with
  | false =>
    rw [bad 10 (by decide) (by simp [AskE, hok])]
    refine Aw.sm tab_ok mb0 [(2, [.tup [.agg zeroLog, .int 10]])] rfl rfl ?zo ?zk
    case zo =>
      repeat' apply AllP.cons
      all_goals first | exact trivial | exact rfl | exact Nat.le_of_ble_eq_true rfl | exact read_no s hf b l hok
    case zk =>
    refine Aw.seq ?_
    refine Aw.sm tab_ok mb0 [] rfl rfl ?zo ?zk
    case zo =>
      repeat' apply AllP.cons
      all_goals first | exact trivial
    case zk =>
    refine Aw.cond rfl (fun h => ?_) (fun h => absurd h (by decide))
    refine Aw.sm tab_ok mb0 [] rfl rfl ?zo ?zk
    case zo =>
      repeat' apply AllP.cons
      all_goals first | exact trivial
    case zk =>
    exact Aw.ret ⟨_, .cons (.tmp _) (.cons (.tmp _) (.cons (.tmp _) .nil)), rfl⟩
  | true =>
  cases hr : s.repsOk l with
  | false =>
    rw [bad 11 (by decide) (by simp [AskE, hok, hr])]
    refine Aw.sm tab_ok mb0 [(2, [.tup [.agg zeroLog, .int 11]])] rfl rfl ?zo ?zk
    case zo =>
      repeat' apply AllP.cons
      all_goals first | exact trivial | exact rfl | exact Nat.le_of_ble_eq_true rfl | exact read_bad s hf b l hl hok hr
    case zk =>
    refine Aw.seq ?_
    refine Aw.sm tab_ok mb0 [] rfl rfl ?zo ?zk
    case zo =>
      repeat' apply AllP.cons
      all_goals first | exact trivial
    case zk =>
    refine Aw.cond rfl (fun h => ?_) (fun h => absurd h (by decide))
    refine Aw.sm tab_ok mb0 [] rfl rfl ?zo ?zk
    case zo =>
      repeat' apply AllP.cons
      all_goals first | exact trivial
    case zk =>
    exact Aw.ret ⟨_, .cons (.tmp _) (.cons (.tmp _) (.cons (.tmp _) .nil)), rfl⟩
  | true =>
  have ho := Sea.ok_of hok
  have hrf := reps_fit hr
  have hm := ho.many
  refine Aw.raise (c' := 20) (Nat.le_of_ble_eq_true rfl) ?_
  refine Aw.sm tab_ok mb0 [(2, [.tup [.agg (logA s (.mp 20) l), .int 0], .sl false .any (kvsTo (encM plE valB (landF s.wide s.land)))])] rfl rfl ?zo ?zk
  case zo =>
    repeat' apply AllP.cons
    all_goals first | exact trivial | exact rfl | exact Nat.le_of_ble_eq_true rfl | exact read_n s hf b l hok hr 20
  case zk =>
  have hland : some (B.map (kvsOf (kvsTo (encM plE valB (landF s.wide s.land))))) = some (landB s) := congrArg (fun x => some (B.map x)) (kvs_to _)
  refine Aw.seq ?_
  refine Aw.sm tab_ok mb0 [] rfl rfl ?zo ?zk
  case zo =>
    repeat' apply AllP.cons
    all_goals first | exact trivial
  case zk =>
  refine Aw.cond rfl (fun h => absurd h (by decide)) (fun h => Aw.skip ?_)
  refine Aw.seq ?_
  cases ha : askedB s wrong hour with
  | false =>
    rw [bad 7 (by decide) (by simp [AskE, hok, hr, ha])]
    refine Aw.sm tab_ok mb0 [(3, [.bool false])] rfl rfl ?zo ?zk
    case zo =>
      repeat' apply AllP.cons
      all_goals first | exact trivial | exact Nat.le_of_ble_eq_true rfl | exact ha ▸ isAsked_t s ho l 20 wrong hour
    case zk =>
    refine Aw.cond rfl (fun h => ?_) (fun h => absurd h (by decide))
    refine Aw.sm tab_ok mb0 [] rfl rfl ?zo ?zk
    case zo =>
      repeat' apply AllP.cons
      all_goals first | exact trivial
    case zk =>
    exact Aw.ret ⟨_, .cons (.tmp _) (.cons (.tmp _) (.cons (.tmp _) .nil)), rfl⟩
  | true =>
  have hh := asked_iff.1 ha
  refine Aw.sm tab_ok mb0 [(3, [.bool true])] rfl rfl ?zo ?zk
  case zo =>
    repeat' apply AllP.cons
    all_goals first | exact trivial | exact Nat.le_of_ble_eq_true rfl | exact ha ▸ isAsked_t s ho l 20 wrong hour
  case zk =>
  refine Aw.cond rfl (fun h => absurd h (by decide)) (fun h => Aw.skip ?_)
  refine Aw.sm tab_ok mb0 [(2, [.bool (wi casts.length 1 8)])] rfl rfl ?zo ?zk
  case zo =>
    repeat' apply AllP.cons
    all_goals first | exact trivial | exact lc ▸ withinH_t _ _ _
  case zk =>
  refine Aw.sm tab_ok mb0 [] rfl rfl ?zo ?zk
  case zo =>
    repeat' apply AllP.cons
    all_goals first | exact trivial
  case zk =>
  refine Aw.seq ?_
  refine Aw.sm tab_ok mb0 [] rfl rfl ?zo ?zk
  case zo =>
    repeat' apply AllP.cons
    all_goals first | exact trivial
  case zk =>
  have h22 : ∀ id, 22 ≤ id → E.φ0 id = none := fun id _ => hE id (Nat.zero_le _)
  have h23 : ∀ id, 23 ≤ id → E.φ0 id = none := fun id _ => hE id (Nat.zero_le _)
  have ucs : Under 22 (.sl cb .any (casts.map Sp.c)) := fcs.under
  have ulg : UnderH 22 [(20, landB s), (21, .cells (logA s (.mp 20) l))] := lgH_under s l (by decide)
  refine Aw.block (Aw.rounds 22 h22 [(2, .int wrong), (3, .int hour), (13, .ref 21 0), (40, .sl cb .any (casts.map Sp.c)), (41, .int casts.length)] (fun k : Nat => [(15, .bool (andAll (wi casts.length 1 8) (castOk s) casts k)), (16, grR 92 (castC s.wide) (casts.take k)), (42, .int k)]) (fun k => [(20, landB s), (21, .cells (logA s (.mp 20) l))]) (fun k => k ≤ casts.length) (fun k => casts.length - k) 0 ?zg ⟨?zc, ?zv, ?zh, Nat.le_of_ble_eq_true rfl⟩ ?zu (fun k zhk => ?zw) (fun k zhk => ?zx) fun k hk => ?zr)
  case zg =>
    (repeat' (first | exact Nat.zero_le _))
  case zc =>
    (repeat' (first | (refine And.intro ?_ ?_) | exact trivial | exact A.Le.refl _ | exact .of_eq (congrArg A.int lc.symm)))
  case zv =>
    (repeat' (first | (refine And.intro ?_ ?_) | exact trivial | exact A.Le.refl _ | exact .of_eq (by rw [andAll_zero]; rfl)))
  case zh =>
    (repeat' (first | (refine And.intro ?_ ?_) | exact trivial | exact rfl | exact hland))
  case zu =>
    (repeat' (first | exact trivial | exact Under.s _ | assumption | exact Under.ref _ _ (by decide) | (refine And.intro ?_ ?_)))
  case zw =>
    (repeat' (first | exact trivial | exact Under.s _ | exact grR_under (castC_free _) _ | (refine And.intro ?_ ?_)))
  case zx =>
    (repeat' (first | assumption))
  case zr =>
  refine Aw.sm tab_ok mb0 [] rfl rfl ?zo ?zk
  case zo =>
    repeat' apply AllP.cons
    all_goals first | exact trivial
  case zk =>
  refine Aw.seq (Aw.cond rfl (fun h1 => Aw.skip1 ?_) (fun h1 => Aw.exit2 ?_))
  · have hlt : k < casts.length := by have := of_decide_eq_true h1; omega
    have hst := andAll_step (b := wi casts.length 1 8) (p := castOk s) hlt
    have hget := get_map (f := Sp.c) hlt
    have hin := hcs.r casts[k] (List.getElem_mem hlt)
    have htk := List.take_succ_eq_append_getElem hlt
    have hcok : castOk s casts[k] = cond (wi casts[k].lo 0 (s.many - 1)) (wi casts[k].hi 0 9) false := rfl
    have htl : (casts.take k).length = k := by simp; omega
    generalize casts[k] = c at *
    generalize casts.take k = tk at *
    generalize andAll (wi casts.length 1 8) (castOk s) casts k = ab at *
    refine Aw.seq (Aw.block ?_)
    refine Aw.sm tab_ok mb0 [(0, c.c)] rfl rfl ?zo ?zk
    case zo =>
      repeat' apply AllP.cons
      all_goals first | exact trivial | exact rfl | exact Nat.le_of_ble_eq_true rfl | exact Int.natCast_nonneg _ | exact hget
    case zk =>
    refine Aw.sd tab_ok mixed mb0 [(6, [.int s.many]), (8, [.bool (wi c.lo 0 (s.many - 1))]), (13, [.bool (wi c.hi 0 9)])] rfl (by kernel_rfl) rfl rfl ?zo ?zk
    case zo =>
      repeat' apply AllP.cons
      all_goals first | exact trivial | exact id | exact fun _ => rfl | exact fun _ => Nat.le_of_ble_eq_true rfl | exact (withinH_t _ _ _).un | exact fun _ => many_t s ho 20 | exact fun _ => (by simp only [Ob.of, inR]; omega)
    case zk =>
    cases tk with
    | nil =>
      refine Aw.ed tab_ok mixed mb0 [(5, [.agg (placeP s.wide c.lo).c])] rfl (by kernel_rfl) rfl rfl ?zo ?zk
      case zo =>
        repeat' apply AllP.cons
        all_goals first | exact trivial | exact Nat.le_of_ble_eq_true rfl | exact plca_t s ho 20 c.lo hin.1 | exact (show ∀ z ∈ [] ++ [castC s.wide c], z.length = 3 from fun z hz => by simp at hz; subst hz; rfl)
      case zk =>
      refine Aw.em tab_ok mb0 [] rfl rfl ?zo ?zk
      case zo =>
        repeat' apply AllP.cons
        all_goals first | exact trivial | exact inrk k (by omega)
      case zk =>
      refine ⟨k + 1, ?zg, ?zm, ⟨?zc, ?zv, ?zh, Nat.le_of_ble_eq_true rfl⟩⟩
      case zg =>
        (repeat' (first | assumption))
      case zm =>
        (repeat' (first | omega))
      case zc =>
        (repeat' (first | (refine And.intro ?_ ?_) | exact trivial | exact A.Le.refl _))
      case zv =>
        (repeat' (first | (refine And.intro ?_ ?_) | exact trivial | exact A.Le.refl _ | exact .of_eq (by rw [hst, hcok, ← cond_assoc]; rfl) | exact .of_eq (by rw [htk]; rfl)))
      case zh =>
        (repeat' (first | (refine And.intro ?_ ?_) | exact trivial | exact rfl))
    | cons x t =>
      have hml : ((x :: t).map (castC s.wide)).length = k := by rw [List.length_map]; exact htl
      have hz : ∀ z ∈ (x :: t).map (castC s.wide), z.length = 3 := fun z hz => by obtain ⟨a, _, rfl⟩ := List.mem_map.1 hz; rfl
      refine Aw.ed tab_ok mixed mb0 [(5, [.agg (placeP s.wide c.lo).c]), (10, [.un])] rfl (by kernel_rfl) rfl rfl ?zo ?zk
      case zo =>
        repeat' apply AllP.cons
        all_goals first | exact trivial | exact Nat.le_of_ble_eq_true rfl | exact plca_t s ho 20 c.lo hin.1 | exact (show ∀ z ∈ [castC s.wide c], z.length = 3 from fun z hz => by simp at hz; subst hz; rfl) | exact hz | exact (show (((x :: t).map (castC s.wide)).length + 1 + (((x :: t).map (castC s.wide)).length + 1) / 4 + 192) * 24 ≤ 281474976710656 by omega) | exact (show ((x :: t).map (castC s.wide)).length + 1 ≤ maxLen by unfold maxLen; omega)
      case zk =>
      refine Aw.em tab_ok mb0 [] rfl rfl ?zo ?zk
      case zo =>
        repeat' apply AllP.cons
        all_goals first | exact trivial | exact inrk k (by omega)
      case zk =>
      refine ⟨k + 1, ?zg, ?zm, ⟨?zc, ?zv, ?zh, Nat.le_of_ble_eq_true rfl⟩⟩
      case zg =>
        (repeat' (first | assumption))
      case zm =>
        (repeat' (first | omega))
      case zc =>
        (repeat' (first | (refine And.intro ?_ ?_) | exact trivial | exact A.Le.refl _))
      case zv =>
        (repeat' (first | (refine And.intro ?_ ?_) | exact trivial | exact A.Le.refl _ | exact .of_eq (by rw [hst, hcok, ← cond_assoc]; rfl) | exact .of_eq (by rw [htk]; show A.sl false (.own 92) (List.map (castC s.wide) ((x :: t) ++ [c])) = A.sl false (.own 92) (List.map (castC s.wide) (x :: t) ++ [castC s.wide c]); rw [List.map_append]; rfl)))
      case zh =>
        (repeat' (first | (refine And.intro ?_ ?_) | exact trivial | exact rfl))
  have hle : k = casts.length := by have := of_decide_eq_false h1; omega
  subst hle
  have hfull : andAll (wi casts.length 1 8) (castOk s) casts casts.length = castsOk s casts := andAll_full
  rw [hfull, List.take_length]
  refine Aw.seq ?_
  cases hco : castsOk s casts with
  | false =>
    rw [bad 13 (by decide) (by simp [AskE, hok, hr, ha, hco])]
    refine Aw.sm tab_ok mb0 [] rfl rfl ?zo ?zk
    case zo =>
      repeat' apply AllP.cons
      all_goals first | exact trivial
    case zk =>
    refine Aw.cond rfl (fun h => ?_) (fun h => absurd h (by decide))
    refine Aw.sm tab_ok mb0 [] rfl rfl ?zo ?zk
    case zo =>
      repeat' apply AllP.cons
      all_goals first | exact trivial
    case zk =>
    exact Aw.ret ⟨_, .cons (.tmp _) (.cons (.tmp _) (.cons (.tmp _) .nil)), rfl⟩
  | true =>
  refine Aw.sm tab_ok mb0 [] rfl rfl ?zo ?zk
  case zo =>
    repeat' apply AllP.cons
    all_goals first | exact trivial
  case zk =>
  refine Aw.cond rfl (fun h => absurd h (by decide)) (fun h => Aw.skip ?_)
  have hcr := can_r s ho l hrf wrong hour hh.2.1 hh.2.2
  have hE2 : AskE s l wrong hour casts = canE (canF s l wrong hour) := by simp [AskE, hok, hr, ha, hco]
  have hcf : ∀ c ∈ canF s l wrong hour, 0 ≤ c ∧ c < 80 := fun c h => canF_in ho h
  have hgl : (canF s l wrong hour).length ≤ 80 := Nat.le_trans (goL_len s _ _) (cellsL_len s ho)
  have hne : casts ≠ [] := by
    rintro rfl; have h1 := ac1 (show cond (wi (([] : List Sp).length : Int) 1 8) _ false = true from hco); simp [wi] at h1
  have hA : askA s l wrong hour casts = if canE (canF s l wrong hour) = 0 then .tup [.sl false .any ((canF s l wrong hour).map fun c => (placeP s.wide c).c), .sl false .any (casts.map (castC s.wide)), .int 0] else .tup [.sl true .exact [], .sl true .exact [], .int (canE (canF s l wrong hour))] := by
    unfold askA; rw [hE2]
  rw [hA]
  generalize canF s l wrong hour = G at *
  cases G with
  | nil =>
    rw [if_neg (by decide)]
    refine Aw.sm tab_ok mb0 [(3, [.tup [canA [], .int 12], .tup [.mp 20]])] rfl rfl ?zo ?zk
    case zo =>
      repeat' apply AllP.cons
      all_goals first | exact trivial | exact Nat.le_of_ble_eq_true rfl | exact at20 hcr rfl
    case zk =>
    refine Aw.seq ?_
    refine Aw.sm tab_ok mb0 [] rfl rfl ?zo ?zk
    case zo =>
      repeat' apply AllP.cons
      all_goals first | exact trivial
    case zk =>
    refine Aw.cond rfl (fun h => ?_) (fun h => absurd h (by decide))
    refine Aw.sm tab_ok mb0 [] rfl rfl ?zo ?zk
    case zo =>
      repeat' apply AllP.cons
      all_goals first | exact trivial
    case zk =>
    exact Aw.ret ⟨_, .cons (.tmp _) (.cons (.tmp _) (.cons (.tmp _) .nil)), rfl⟩
  | cons g0 G0 =>
  rw [if_pos (show canE (g0 :: G0) = 0 from rfl)]
  refine Aw.sm tab_ok mb0 [(3, [.tup [canA (g0 :: G0), .int 0], .tup [.mp 20]])] rfl rfl ?zo ?zk
  case zo =>
    repeat' apply AllP.cons
    all_goals first | exact trivial | exact Nat.le_of_ble_eq_true rfl | exact at20 hcr rfl
  case zk =>
  refine Aw.seq ?_
  refine Aw.sm tab_ok mb0 [] rfl rfl ?zo ?zk
  case zo =>
    repeat' apply AllP.cons
    all_goals first | exact trivial
  case zk =>
  refine Aw.cond rfl (fun h => absurd h (by decide)) (fun h => Aw.skip ?_)
  refine Aw.sm tab_ok mb0 [] rfl rfl ?zo ?zk
  case zo =>
    repeat' apply AllP.cons
    all_goals first | exact trivial
  case zk =>
  refine Aw.seq ?_
  refine Aw.sm tab_ok mb0 [] rfl rfl ?zo ?zk
  case zo =>
    repeat' apply AllP.cons
    all_goals first | exact trivial
  case zk =>
  generalize hG : g0 :: G0 = G at *
  have hlG := ints_lenI G
  have hnG : 0 < G.length := by rw [← hG]; simp
  have fplace : ∀ c : Int, ∀ x ∈ (placeP s.wide c).c, Free x := fun c => Sp.free _
  refine Aw.block (Aw.rounds 22 h22 [(13, .ref 21 0), (16, grR 92 (castC s.wide) casts), (85, .sl false .exact (ints G)), (86, .int G.length)] (fun k : Nat => [(20, grR 90 (fun c : Int => (placeP s.wide c).c) (G.take k)), (87, .int k)]) (fun k => [(20, landB s), (21, .cells (logA s (.mp 20) l))]) (fun k => k ≤ G.length) (fun k => G.length - k) 0 ?zg ⟨?zc, ?zv, ?zh, Nat.le_of_ble_eq_true rfl⟩ ?zu (fun k zhk => ?zw) (fun k zhk => ?zx) fun k hk => ?zr)
  case zg =>
    (repeat' (first | exact Nat.zero_le _))
  case zc =>
    (repeat' (first | (refine And.intro ?_ ?_) | exact trivial | exact A.Le.refl _ | exact .of_eq (congrArg A.int hlG.symm)))
  case zv =>
    (repeat' (first | (refine And.intro ?_ ?_) | exact trivial | exact A.Le.refl _))
  case zh =>
    (repeat' (first | (refine And.intro ?_ ?_) | exact trivial | exact rfl))
  case zu =>
    (repeat' (first | exact trivial | exact Under.s _ | exact (free_ints _ _ _).under | exact Under.ref _ _ (by decide) | exact grR_under (castC_free _) _ | (refine And.intro ?_ ?_)))
  case zw =>
    (repeat' (first | exact trivial | exact Under.s _ | exact grR_under fplace _ | (refine And.intro ?_ ?_)))
  case zx =>
    (repeat' (first | assumption))
  case zr =>
  refine Aw.sm tab_ok mb0 [] rfl rfl ?zo ?zk
  case zo =>
    repeat' apply AllP.cons
    all_goals first | exact trivial
  case zk =>
  refine Aw.seq (Aw.cond rfl (fun h1 => Aw.skip1 ?_) (fun h1 => Aw.exit2 ?_))
  · have hlt : k < G.length := by have := of_decide_eq_true h1; omega
    have hget := ints_get hlt
    have hin := hcf G[k] (List.getElem_mem hlt)
    have htk := List.take_succ_eq_append_getElem hlt
    have htl : (G.take k).length = k := by simp; omega
    generalize G[k] = c at *
    generalize G.take k = tk at *
    refine Aw.seq (Aw.block ?_)
    refine Aw.sm tab_ok mb0 [(0, [.int c])] rfl rfl ?zo ?zk
    case zo =>
      repeat' apply AllP.cons
      all_goals first | exact trivial | exact rfl | exact Nat.le_of_ble_eq_true rfl | exact Int.natCast_nonneg _ | exact hget
    case zk =>
    cases tk with
    | nil =>
      refine Aw.em tab_ok mb0 [(4, [.agg (placeP s.wide c).c])] rfl rfl ?zo ?zk
      case zo =>
        repeat' apply AllP.cons
        all_goals first | exact trivial | exact Nat.le_of_ble_eq_true rfl | exact plc_t s ho 20 c (by omega) | exact (show ∀ z ∈ [] ++ [(placeP s.wide c).c], z.length = 2 from fun z hz => by simp at hz; subst hz; rfl)
      case zk =>
      refine Aw.em tab_ok mb0 [] rfl rfl ?zo ?zk
      case zo =>
        repeat' apply AllP.cons
        all_goals first | exact trivial | exact inrk k (by omega)
      case zk =>
      refine ⟨k + 1, ?zg, ?zm, ⟨?zc, ?zv, ?zh, Nat.le_of_ble_eq_true rfl⟩⟩
      case zg =>
        (repeat' (first | assumption))
      case zm =>
        (repeat' (first | omega))
      case zc =>
        (repeat' (first | (refine And.intro ?_ ?_) | exact trivial | exact A.Le.refl _))
      case zv =>
        (repeat' (first | (refine And.intro ?_ ?_) | exact trivial | exact A.Le.refl _ | exact .of_eq (by rw [htk]; rfl)))
      case zh =>
        (repeat' (first | (refine And.intro ?_ ?_) | exact trivial | exact rfl))
    | cons x t =>
      have hml : ((x :: t).map fun c : Int => (placeP s.wide c).c).length = k := by rw [List.length_map]; exact htl
      have hz : ∀ z ∈ (x :: t).map fun c : Int => (placeP s.wide c).c, z.length = 2 := fun z hz => by obtain ⟨a, _, rfl⟩ := List.mem_map.1 hz; rfl
      refine Aw.em tab_ok mb0 [(4, [.agg (placeP s.wide c).c])] rfl rfl ?zo ?zk
      case zo =>
        repeat' apply AllP.cons
        all_goals first | exact trivial | exact Nat.le_of_ble_eq_true rfl | exact plc_t s ho 20 c (by omega) | exact (show ∀ z ∈ [(placeP s.wide c).c], z.length = 2 from fun z hz => by simp at hz; subst hz; rfl) | exact hz | exact (show (((x :: t).map fun c : Int => (placeP s.wide c).c).length + 1) * 16 ≤ 140737488355328 by omega) | exact (show ((x :: t).map fun c : Int => (placeP s.wide c).c).length + 1 ≤ maxLen by unfold maxLen; omega)
      case zk =>
      refine Aw.em tab_ok mb0 [] rfl rfl ?zo ?zk
      case zo =>
        repeat' apply AllP.cons
        all_goals first | exact trivial | exact inrk k (by omega)
      case zk =>
      refine ⟨k + 1, ?zg, ?zm, ⟨?zc, ?zv, ?zh, Nat.le_of_ble_eq_true rfl⟩⟩
      case zg =>
        (repeat' (first | assumption))
      case zm =>
        (repeat' (first | omega))
      case zc =>
        (repeat' (first | (refine And.intro ?_ ?_) | exact trivial | exact A.Le.refl _))
      case zv =>
        (repeat' (first | (refine And.intro ?_ ?_) | exact trivial | exact A.Le.refl _ | exact .of_eq (by rw [htk]; show A.sl false (.own 90) (List.map (fun c : Int => (placeP s.wide c).c) ((x :: t) ++ [c])) = A.sl false (.own 90) (List.map (fun c : Int => (placeP s.wide c).c) (x :: t) ++ [(placeP s.wide c).c]); rw [List.map_append]; rfl)))
      case zh =>
        (repeat' (first | (refine And.intro ?_ ?_) | exact trivial | exact rfl))
  have hle : k = G.length := by have := of_decide_eq_false h1; omega
  subst hle
  rw [List.take_length]
  cases casts with
  | nil => exact absurd rfl hne
  | cons c0 casts =>
  subst hG
  refine Aw.sm tab_ok mb0 [] rfl rfl ?zo ?zk
  case zo =>
    repeat' apply AllP.cons
    all_goals first | exact trivial
  case zk =>
  exact Aw.ret ⟨_, .cons (.tmp _) (.cons (.tmp _) (.cons (.tmp _) .nil)), rfl⟩
end Go.Proofs.Ytkfepnbanekfgaa

namespace Go.Proofs.Ytkfepnbanekfgaa
open Go Go.AL Go.AL.Q Go.AL.Sh
def covB (w : Int) (c : Sp) (p : Int) : Bool := decide (farF (placeP w c.lo) (placeP w p) ≤ c.hi)
theorem AskE_ok {s : Sea} {l : List Rep} {wrong hour : Int} {casts : List Sp} (h : AskE s l wrong hour casts = 0) : s.ok = true ∧ s.repsOk l = true ∧ askedB s wrong hour = true ∧ castsOk s casts = true ∧ canF s l wrong hour ≠ [] := by
  unfold AskE at h
  split at h
  · rename_i h1
    split at h
    · rename_i h2
      split at h
      · rename_i h3
        split at h
        · rename_i h4
          refine ⟨h1, h2, h3, h4, fun e => ?_⟩
          rw [e] at h; exact absurd h (by decide)
        · cases h
      · cases h
    · cases h
  · cases h
theorem castsOk_iff {s : Sea} {casts : List Sp} (h : castsOk s casts = true) : (1 ≤ casts.length ∧ casts.length ≤ 8) ∧ ∀ c ∈ casts, (0 ≤ c.lo ∧ c.lo ≤ s.many - 1) ∧ 0 ≤ c.hi ∧ c.hi ≤ 9 := by
  unfold castsOk at h
  have h1 := wi_iff.1 (ac1 h)
  refine ⟨by omega, fun c hc => ?_⟩
  have h2 := List.all_eq_true.1 (ac2 h) c hc
  unfold castOk at h2
  exact ⟨wi_iff.1 (ac1 h2), wi_iff.1 (ac2 h2)⟩
def plR (w : Int) (c : Int) : List A := (placeP w c).c
theorem plR_free (w : Int) (c : Int) : ∀ x ∈ plR w c, Free x := Sp.free _
theorem cov_t (s : Sea) (ho : s.Ok) (c : Sp) (hc : 0 ≤ c.lo ∧ c.lo ≤ s.many - 1) (p : Int) (hp : 0 ≤ p ∧ p < 80) : Ans Try.prog 35 [.agg (castC s.wide c), .agg (plR s.wide p)] (.bool (covB s.wide c p)) := by
  have hm := ho.many
  exact covers_t _ _ _ (placeP_near ho.w (by omega)) (placeP_near ho.w (by omega))
end Go.Proofs.Ytkfepnbanekfgaa

namespace Go.Proofs.Ytkfepnbanekfgaa
open Go Go.AL Go.AL.Q Go.AL.Sh
def c0 : Sp := ⟨0, 0⟩
def metB (w : Int) (casts : List Sp) (some : List Int) (p : Int) : Bool := some.any fun i => covB w (casts.getD i.toNat c0) p
def fndB (w : Int) (G : List Int) (casts : List Sp) (some : List Int) : Bool := G.all (metB w casts some)
def clA (w : Int) (G : List Int) : A := .sl false .any (G.map (plR w))
def caA (w : Int) (casts : List Sp) : A := .sl false .any (casts.map (castC w))
theorem clA_free (w : Int) (G : List Int) : Free (clA w G) := free_map (plR_free _) _ _ _
theorem caA_free (w : Int) (c : List Sp) : Free (caA w c) := free_map (castC_free _) _ _ _
structure FindOk (s : Sea) (G : List Int) (casts : List Sp) : Prop where
  ho : s.Ok
  g : ∀ c ∈ G, 0 ≤ c ∧ c < 80
  gl : G.length ≤ 80
  cl : casts.length ≤ 8
  c : ∀ c ∈ casts, 0 ≤ c.lo ∧ c.lo ≤ s.many - 1
set_option maxRecDepth 20000 in
theorem find_t (s : Sea) (G : List Int) (casts : List Sp) (hf : FindOk s G casts) (b : Bool) (sm : List Int) (hs : ∀ i ∈ sm, 0 ≤ i ∧ i < casts.length) (hsl : sm.length ≤ 8) :
    Ans Try.prog 34 [.sl b .any (ints sm), .pt [clA s.wide G], .pt [caA s.wide casts]] (.bool (fndB s.wide G casts sm)) := by
  have fs : Free (.sl b .any (ints sm)) := free_ints _ _ _
  have fG := clA_free s.wide G
  have fC := caA_free s.wide casts
  have hgl := hf.gl
  have lG : ((G.map (plR s.wide)).length : Int) = G.length := by simp
  have lS : ((ints sm).length : Int) = sm.length := by simp [ints]
  refine told Try.func34 rfl rfl (Pure.of tab_ok Try.func34 rfl Try.ntmps34 rfl (allC (fs) (allC (.pt _ (all1 fG)) (all1 (.pt _ (all1 fC))))) (allC (fun _ => rfl) (allC (fun _ => rfl) (all1 (fun _ => rfl)))) (by first | exact .s _ | assumption | exact .tup _ (by intro x hx; simp only [List.mem_cons, List.not_mem_nil, or_false] at hx; rcases hx with rfl | rfl | rfl | rfl <;> first | exact .s _ | (simp_all; done))) fun E hE => ?_)
  refine Aw.sm tab_ok mb0 [] rfl rfl ?zo ?zk
  case zo =>
    repeat' apply AllP.cons
    all_goals first | exact trivial | exact id | exact rfl | exact fun _ => rfl | exact Nat.le_of_ble_eq_true rfl | exact fun _ => Nat.le_of_ble_eq_true rfl | exact Int.natCast_nonneg _ | exact fun _ => Int.natCast_nonneg _ | exact withinH_t _ _ _ | exact (withinH_t _ _ _).un | exact in_t _ _ _ | exact (in_t _ _ _).un | exact gq_f | exact gq_t | exact gq_c | exact fun _ _ => rfl
  case zk =>
  refine Aw.scope ?_
  refine Aw.seq (Aw.label ?_)
  refine Aw.seq ?_
  refine Aw.sm tab_ok mb0 [] rfl rfl ?zo ?zk
  case zo =>
    repeat' apply AllP.cons
    all_goals first | exact trivial | exact id | exact rfl | exact fun _ => rfl | exact Nat.le_of_ble_eq_true rfl | exact fun _ => Nat.le_of_ble_eq_true rfl | exact Int.natCast_nonneg _ | exact fun _ => Int.natCast_nonneg _ | exact withinH_t _ _ _ | exact (withinH_t _ _ _).un | exact in_t _ _ _ | exact (in_t _ _ _).un | exact gq_f | exact gq_t | exact gq_c | exact fun _ _ => rfl
  case zk =>
  have us : ∀ {m : Nat}, Under m (.sl b .any (ints sm)) := fs.under
  have uG : ∀ {m : Nat}, Under m (clA s.wide G) := fG.under
  have uC : ∀ {m : Nat}, Under m (A.pt [caA s.wide casts]) := (Free.pt _ (all1 fC)).under
  have h1e : ∀ id, 1 ≤ id → E.φ0 id = none := fun id _ => hE id (Nat.zero_le _)
  refine Aw.block (Aw.rounds 0 hE [(0, .sl b .any (ints sm)), (2, .pt [caA s.wide casts]), (9, clA s.wide G), (10, .int G.length)] (fun k : Nat => [(11, .int k)]) (fun k => []) (fun k => k ≤ G.length ∧ ∀ i, i < k → metB s.wide casts sm (G.getD i 0) = true) (fun k => G.length - k) 0 ?zg ⟨?zc, ?zv, ?zh, Nat.le_of_ble_eq_true rfl⟩ ?zu (fun k zhk => ?zw) (fun k zhk => ?zx) fun k hk => ?zr)
  case zg =>
    (repeat' (first | exact Nat.zero_le _ | exact Nat.le_refl _ | exact trivial | exact ⟨Nat.zero_le _, fun i h => absurd h (Nat.not_lt_zero _)⟩ | exact us | exact uG | exact uC | exact .of_eq (congrArg A.int lG.symm) | (refine And.intro ?_ ?_)))
  case zc =>
    (repeat' (first | (refine And.intro ?_ ?_) | exact trivial | exact A.Le.refl _ | exact rfl | exact ⟨Nat.zero_le _, fun i h => absurd h (Nat.not_lt_zero _)⟩ | exact us | exact uG | exact uC | exact .of_eq (congrArg A.int lG.symm)))
  case zv =>
    (repeat' (first | (refine And.intro ?_ ?_) | exact trivial | exact A.Le.refl _ | exact rfl | exact ⟨Nat.zero_le _, fun i h => absurd h (Nat.not_lt_zero _)⟩ | exact us | exact uG | exact uC | exact .of_eq (congrArg A.int lG.symm)))
  case zh =>
    (repeat' (first | (refine And.intro ?_ ?_) | exact trivial | exact A.Le.refl _ | exact rfl | exact ⟨Nat.zero_le _, fun i h => absurd h (Nat.not_lt_zero _)⟩ | exact us | exact uG | exact uC | exact .of_eq (congrArg A.int lG.symm)))
  case zu =>
    (repeat' (first | exact trivial | exact Under.s _ | exact Under.un | assumption | exact (free_ints _ _ _).under | exact Under.ref _ _ (by decide) | exact Under.ms _ _ _ (by decide) | exact Under.mp _ (by decide) | exact (Free.agg _ (by assumption)).under | exact (Free.pt _ (by assumption)).under | exact grL_under _ | exact outA_under _ | exact Nat.le_of_ble_eq_true rfl | exact (fun _ _ => rfl) | exact ⟨Nat.zero_le _, fun i h => absurd h (Nat.not_lt_zero _)⟩ | exact us | exact uG | exact uC | exact .of_eq (congrArg A.int lG.symm) | (refine And.intro ?_ ?_)))
  case zw =>
    (repeat' (first | exact trivial | exact Under.s _ | exact Under.un | assumption | exact (free_ints _ _ _).under | exact Under.ref _ _ (by decide) | exact Under.ms _ _ _ (by decide) | exact Under.mp _ (by decide) | exact (Free.agg _ (by assumption)).under | exact (Free.pt _ (by assumption)).under | exact grL_under _ | exact outA_under _ | exact Nat.le_of_ble_eq_true rfl | exact (fun _ _ => rfl) | exact ⟨Nat.zero_le _, fun i h => absurd h (Nat.not_lt_zero _)⟩ | exact us | exact uG | exact uC | exact .of_eq (congrArg A.int lG.symm) | (refine And.intro ?_ ?_)))
  case zx =>
    (repeat' (first | exact trivial | exact Under.s _ | exact Under.un | assumption | exact (free_ints _ _ _).under | exact Under.ref _ _ (by decide) | exact Under.ms _ _ _ (by decide) | exact Under.mp _ (by decide) | exact (Free.agg _ (by assumption)).under | exact (Free.pt _ (by assumption)).under | exact grL_under _ | exact outA_under _ | exact Nat.le_of_ble_eq_true rfl | exact (fun _ _ => rfl) | exact ⟨Nat.zero_le _, fun i h => absurd h (Nat.not_lt_zero _)⟩ | exact us | exact uG | exact uC | exact .of_eq (congrArg A.int lG.symm) | (refine And.intro ?_ ?_)))
  case zr =>
  obtain ⟨hkk, hgo⟩ := hk
  refine Aw.sm tab_ok mb0 [] rfl rfl ?zo ?zk
  case zo =>
    repeat' apply AllP.cons
    all_goals first | exact trivial | exact id | exact rfl | exact fun _ => rfl | exact Nat.le_of_ble_eq_true rfl | exact fun _ => Nat.le_of_ble_eq_true rfl | exact Int.natCast_nonneg _ | exact fun _ => Int.natCast_nonneg _ | exact withinH_t _ _ _ | exact (withinH_t _ _ _).un | exact in_t _ _ _ | exact (in_t _ _ _).un | exact gq_f | exact gq_t | exact gq_c | exact fun _ _ => rfl
  case zk =>
  refine Aw.seq (Aw.cond rfl (fun h1 => Aw.skip1 ?_) (fun h1 => Aw.exit2 ?_))
  · have hlt : k < G.length := by have := of_decide_eq_true h1; omega
    have hget := get_map (f := plR s.wide) hlt
    have hin := hf.g G[k] (List.getElem_mem hlt)
    have hgk : G.getD k 0 = G[k] := by simp [List.getD_eq_getElem?_getD, hlt]
    have hmem := List.getElem_mem hlt
    generalize G[k] = p at *
    refine Aw.seq (Aw.block ?_)
    refine Aw.sm tab_ok mb0 [(0, plR s.wide p)] rfl rfl ?zo ?zk
    case zo =>
      repeat' apply AllP.cons
      all_goals first | exact trivial | exact id | exact rfl | exact fun _ => rfl | exact Nat.le_of_ble_eq_true rfl | exact fun _ => Nat.le_of_ble_eq_true rfl | exact Int.natCast_nonneg _ | exact fun _ => Int.natCast_nonneg _ | exact withinH_t _ _ _ | exact (withinH_t _ _ _).un | exact in_t _ _ _ | exact (in_t _ _ _).un | exact gq_f | exact gq_t | exact gq_c | exact fun _ _ => rfl | exact hget
    case zk =>
    refine Aw.seq ?_
    refine Aw.sm tab_ok mb0 [] rfl rfl ?zo ?zk
    case zo =>
      repeat' apply AllP.cons
      all_goals first | exact trivial | exact id | exact rfl | exact fun _ => rfl | exact Nat.le_of_ble_eq_true rfl | exact fun _ => Nat.le_of_ble_eq_true rfl | exact Int.natCast_nonneg _ | exact fun _ => Int.natCast_nonneg _ | exact withinH_t _ _ _ | exact (withinH_t _ _ _).un | exact in_t _ _ _ | exact (in_t _ _ _).un | exact gq_f | exact gq_t | exact gq_c | exact fun _ _ => rfl
    case zk =>
    refine Aw.block (Aw.rounds 1 h1e [(0, .sl b .any (ints sm)), (2, .pt [caA s.wide casts]), (6, .ref 0 0), (9, clA s.wide G), (10, .int G.length), (11, .int k), (15, .sl b .any (ints sm)), (16, .int sm.length)] (fun j : Nat => [(17, .int j)]) (fun j => [(0, .cells (plR s.wide p))]) (fun j => j ≤ sm.length ∧ ∀ i, i < j → covB s.wide (casts.getD (sm.getD i 0).toNat c0) p = false) (fun j => sm.length - j) 0 ?zg ⟨?zc, ?zv, ?zh, Nat.le_of_ble_eq_true rfl⟩ ?zu (fun j zhk => ?zw) (fun j zhk => ?zx) fun j hk => ?zr)
    case zg =>
      (repeat' (first | exact Nat.zero_le _ | exact Nat.le_refl _ | exact trivial | exact ⟨Nat.zero_le _, fun i h => absurd h (Nat.not_lt_zero _)⟩ | exact us | exact uG | exact uC | exact .of_eq (congrArg A.int lS.symm) | exact (by decide) | exact .cells _ fun x hx => (plR_free s.wide p x hx).under | (refine And.intro ?_ ?_)))
    case zc =>
      (repeat' (first | (refine And.intro ?_ ?_) | exact trivial | exact A.Le.refl _ | exact rfl | exact ⟨Nat.zero_le _, fun i h => absurd h (Nat.not_lt_zero _)⟩ | exact us | exact uG | exact uC | exact .of_eq (congrArg A.int lS.symm) | exact (by decide) | exact .cells _ fun x hx => (plR_free s.wide p x hx).under))
    case zv =>
      (repeat' (first | (refine And.intro ?_ ?_) | exact trivial | exact A.Le.refl _ | exact rfl | exact ⟨Nat.zero_le _, fun i h => absurd h (Nat.not_lt_zero _)⟩ | exact us | exact uG | exact uC | exact .of_eq (congrArg A.int lS.symm) | exact (by decide) | exact .cells _ fun x hx => (plR_free s.wide p x hx).under))
    case zh =>
      (repeat' (first | (refine And.intro ?_ ?_) | exact trivial | exact A.Le.refl _ | exact rfl | exact ⟨Nat.zero_le _, fun i h => absurd h (Nat.not_lt_zero _)⟩ | exact us | exact uG | exact uC | exact .of_eq (congrArg A.int lS.symm) | exact (by decide) | exact .cells _ fun x hx => (plR_free s.wide p x hx).under))
    case zu =>
      (repeat' (first | exact trivial | exact Under.s _ | exact Under.un | assumption | exact (free_ints _ _ _).under | exact Under.ref _ _ (by decide) | exact Under.ms _ _ _ (by decide) | exact Under.mp _ (by decide) | exact (Free.agg _ (by assumption)).under | exact (Free.pt _ (by assumption)).under | exact grL_under _ | exact outA_under _ | exact Nat.le_of_ble_eq_true rfl | exact (fun _ _ => rfl) | exact ⟨Nat.zero_le _, fun i h => absurd h (Nat.not_lt_zero _)⟩ | exact us | exact uG | exact uC | exact .of_eq (congrArg A.int lS.symm) | exact (by decide) | exact .cells _ fun x hx => (plR_free s.wide p x hx).under | (refine And.intro ?_ ?_)))
    case zw =>
      (repeat' (first | exact trivial | exact Under.s _ | exact Under.un | assumption | exact (free_ints _ _ _).under | exact Under.ref _ _ (by decide) | exact Under.ms _ _ _ (by decide) | exact Under.mp _ (by decide) | exact (Free.agg _ (by assumption)).under | exact (Free.pt _ (by assumption)).under | exact grL_under _ | exact outA_under _ | exact Nat.le_of_ble_eq_true rfl | exact (fun _ _ => rfl) | exact ⟨Nat.zero_le _, fun i h => absurd h (Nat.not_lt_zero _)⟩ | exact us | exact uG | exact uC | exact .of_eq (congrArg A.int lS.symm) | exact (by decide) | exact .cells _ fun x hx => (plR_free s.wide p x hx).under | (refine And.intro ?_ ?_)))
    case zx =>
      (repeat' (first | exact trivial | exact Under.s _ | exact Under.un | assumption | exact (free_ints _ _ _).under | exact Under.ref _ _ (by decide) | exact Under.ms _ _ _ (by decide) | exact Under.mp _ (by decide) | exact (Free.agg _ (by assumption)).under | exact (Free.pt _ (by assumption)).under | exact grL_under _ | exact outA_under _ | exact Nat.le_of_ble_eq_true rfl | exact (fun _ _ => rfl) | exact ⟨Nat.zero_le _, fun i h => absurd h (Nat.not_lt_zero _)⟩ | exact us | exact uG | exact uC | exact .of_eq (congrArg A.int lS.symm) | exact (by decide) | exact .cells _ fun x hx => (plR_free s.wide p x hx).under | (refine And.intro ?_ ?_)))
    case zr =>
    obtain ⟨hj, hno⟩ := hk
    refine Aw.sm tab_ok mb0 [] rfl rfl ?zo ?zk
    case zo =>
      repeat' apply AllP.cons
      all_goals first | exact trivial | exact id | exact rfl | exact fun _ => rfl | exact Nat.le_of_ble_eq_true rfl | exact fun _ => Nat.le_of_ble_eq_true rfl | exact Int.natCast_nonneg _ | exact fun _ => Int.natCast_nonneg _ | exact withinH_t _ _ _ | exact (withinH_t _ _ _).un | exact in_t _ _ _ | exact (in_t _ _ _).un | exact gq_f | exact gq_t | exact gq_c | exact fun _ _ => rfl
    case zk =>
    refine Aw.seq (Aw.cond rfl (fun h2 => Aw.skip1 ?_) (fun h2 => Aw.exit2 ?_))
    · have hlt2 : j < sm.length := by have := of_decide_eq_true h2; omega
      have hget2 := ints_get hlt2
      have hin2 := hs sm[j] (List.getElem_mem hlt2)
      have hgj : sm.getD j 0 = sm[j] := by simp [List.getD_eq_getElem?_getD, hlt2]
      have hmem2 := List.getElem_mem hlt2
      generalize sm[j] = i at *
      have hlt3 : i.toNat < casts.length := by omega
      have hget3 := get_map (f := castC s.wide) hlt3
      have hin3 := hf.c _ (List.getElem_mem hlt3)
      have hgc : casts.getD i.toNat c0 = casts[i.toNat] := by simp [List.getD_eq_getElem?_getD, hlt3]
      have hcv := cov_t s hf.ho _ hin3 p hin
      generalize casts[i.toNat] = c at *
      refine Aw.seq (Aw.block ?_)
      refine Aw.sm tab_ok mb0 [(0, [.int i])] rfl rfl ?zo ?zk
      case zo =>
        repeat' apply AllP.cons
        all_goals first | exact trivial | exact id | exact rfl | exact fun _ => rfl | exact Nat.le_of_ble_eq_true rfl | exact fun _ => Nat.le_of_ble_eq_true rfl | exact Int.natCast_nonneg _ | exact fun _ => Int.natCast_nonneg _ | exact withinH_t _ _ _ | exact (withinH_t _ _ _).un | exact in_t _ _ _ | exact (in_t _ _ _).un | exact gq_f | exact gq_t | exact gq_c | exact fun _ _ => rfl | exact hget2
      case zk =>
      refine Aw.sd tab_ok mixed mb0 [(2, castC s.wide c), (5, [.bool (covB s.wide c p)])] rfl (by kernel_rfl) rfl rfl ?zo ?zk
      case zo =>
        repeat' apply AllP.cons
        all_goals first | exact trivial | exact id | exact rfl | exact fun _ => rfl | exact Nat.le_of_ble_eq_true rfl | exact fun _ => Nat.le_of_ble_eq_true rfl | exact Int.natCast_nonneg _ | exact fun _ => Int.natCast_nonneg _ | exact withinH_t _ _ _ | exact (withinH_t _ _ _).un | exact in_t _ _ _ | exact (in_t _ _ _).un | exact gq_f | exact gq_t | exact gq_c | exact fun _ _ => rfl | exact hget3 | exact hcv | exact hin2.1
      case zk =>
      refine Aw.cond rfl (fun h3 => Aw.exit (blkN rfl (thenE (thenE (blkN rfl (thenE (blkE ?_))))))) (fun h3 => Aw.skip ?_)
      · have h3 : covB s.wide c p = true := h3
        have hmet : metB s.wide casts sm p = true := List.any_eq_true.2 ⟨i, hmem2, by rw [hgc]; exact h3⟩
        refine Aw.em tab_ok mb0 [] rfl rfl ?zo ?zk
        case zo =>
          repeat' apply AllP.cons
          all_goals first | exact trivial | exact id | exact rfl | exact fun _ => rfl | exact Nat.le_of_ble_eq_true rfl | exact fun _ => Nat.le_of_ble_eq_true rfl | exact Int.natCast_nonneg _ | exact fun _ => Int.natCast_nonneg _ | exact withinH_t _ _ _ | exact (withinH_t _ _ _).un | exact in_t _ _ _ | exact (in_t _ _ _).un | exact gq_f | exact gq_t | exact gq_c | exact fun _ _ => rfl | exact inrk k (by omega)
        case zk =>
        refine ⟨k + 1, ?zg, ?zm, ⟨?zc, ?zv, ?zh, Nat.le_of_ble_eq_true rfl⟩⟩
        case zg =>
          (repeat' (first | assumption | omega | exact ⟨hlt, fun i2 hi => by rcases Nat.lt_or_ge i2 k with h | h; exact hgo i2 h; rw [show i2 = k by omega, hgk]; exact hmet⟩ | (refine And.intro ?_ ?_)))
        case zm =>
          (repeat' (first | omega | exact ⟨hlt, fun i2 hi => by rcases Nat.lt_or_ge i2 k with h | h; exact hgo i2 h; rw [show i2 = k by omega, hgk]; exact hmet⟩ | (refine And.intro ?_ ?_)))
        case zc =>
          (repeat' (first | (refine And.intro ?_ ?_) | exact trivial | exact A.Le.refl _ | exact rfl | exact ⟨hlt, fun i2 hi => by rcases Nat.lt_or_ge i2 k with h | h; exact hgo i2 h; rw [show i2 = k by omega, hgk]; exact hmet⟩))
        case zv =>
          (repeat' (first | (refine And.intro ?_ ?_) | exact trivial | exact A.Le.refl _ | exact rfl | exact ⟨hlt, fun i2 hi => by rcases Nat.lt_or_ge i2 k with h | h; exact hgo i2 h; rw [show i2 = k by omega, hgk]; exact hmet⟩))
        case zh =>
          (repeat' (first | (refine And.intro ?_ ?_) | exact trivial | exact A.Le.refl _ | exact rfl | exact ⟨hlt, fun i2 hi => by rcases Nat.lt_or_ge i2 k with h | h; exact hgo i2 h; rw [show i2 = k by omega, hgk]; exact hmet⟩))
      · have h3 : covB s.wide c p = false := h3
        refine Aw.em tab_ok mb0 [] rfl rfl ?zo ?zk
        case zo =>
          repeat' apply AllP.cons
          all_goals first | exact trivial | exact id | exact rfl | exact fun _ => rfl | exact Nat.le_of_ble_eq_true rfl | exact fun _ => Nat.le_of_ble_eq_true rfl | exact Int.natCast_nonneg _ | exact fun _ => Int.natCast_nonneg _ | exact withinH_t _ _ _ | exact (withinH_t _ _ _).un | exact in_t _ _ _ | exact (in_t _ _ _).un | exact gq_f | exact gq_t | exact gq_c | exact fun _ _ => rfl | exact inrk j (by omega)
        case zk =>
        refine ⟨j + 1, ?zg, ?zm, ⟨?zc, ?zv, ?zh, Nat.le_of_ble_eq_true rfl⟩⟩
        case zg =>
          (repeat' (first | assumption | omega | exact ⟨hlt2, fun i2 hi => by rcases Nat.lt_or_ge i2 j with h | h; exact hno i2 h; rw [show i2 = j by omega, hgj, hgc]; exact h3⟩ | (refine And.intro ?_ ?_)))
        case zm =>
          (repeat' (first | omega | exact ⟨hlt2, fun i2 hi => by rcases Nat.lt_or_ge i2 j with h | h; exact hno i2 h; rw [show i2 = j by omega, hgj, hgc]; exact h3⟩ | (refine And.intro ?_ ?_)))
        case zc =>
          (repeat' (first | (refine And.intro ?_ ?_) | exact trivial | exact A.Le.refl _ | exact rfl | exact ⟨hlt2, fun i2 hi => by rcases Nat.lt_or_ge i2 j with h | h; exact hno i2 h; rw [show i2 = j by omega, hgj, hgc]; exact h3⟩))
        case zv =>
          (repeat' (first | (refine And.intro ?_ ?_) | exact trivial | exact A.Le.refl _ | exact rfl | exact ⟨hlt2, fun i2 hi => by rcases Nat.lt_or_ge i2 j with h | h; exact hno i2 h; rw [show i2 = j by omega, hgj, hgc]; exact h3⟩))
        case zh =>
          (repeat' (first | (refine And.intro ?_ ?_) | exact trivial | exact A.Le.refl _ | exact rfl | exact ⟨hlt2, fun i2 hi => by rcases Nat.lt_or_ge i2 j with h | h; exact hno i2 h; rw [show i2 = j by omega, hgj, hgc]; exact h3⟩))
    have hle2 : j = sm.length := by have := of_decide_eq_false h2; omega
    subst hle2
    have hmet : metB s.wide casts sm p = false := by
      rw [← Bool.not_eq_true]; intro h
      obtain ⟨i, h4, h5⟩ := List.any_eq_true.1 h
      obtain ⟨k2, hk2, rfl⟩ := List.getElem_of_mem h4
      have := hno k2 hk2
      rw [show sm.getD k2 0 = sm[k2] by simp [List.getD_eq_getElem?_getD, hk2]] at this
      rw [this] at h5; cases h5
    have hres : fndB s.wide G casts sm = false := by
      rw [← Bool.not_eq_true]; intro h
      have := List.all_eq_true.1 h p hmem
      rw [hmet] at this; cases this
    rw [hres]
    refine Aw.sm tab_ok mb0 [] rfl rfl ?zo ?zk
    case zo =>
      repeat' apply AllP.cons
      all_goals first | exact trivial | exact id | exact rfl | exact fun _ => rfl | exact Nat.le_of_ble_eq_true rfl | exact fun _ => Nat.le_of_ble_eq_true rfl | exact Int.natCast_nonneg _ | exact fun _ => Int.natCast_nonneg _ | exact withinH_t _ _ _ | exact (withinH_t _ _ _).un | exact in_t _ _ _ | exact (in_t _ _ _).un | exact gq_f | exact gq_t | exact gq_c | exact fun _ _ => rfl
    case zk =>
    exact Aw.ret ⟨_, .cons (.tmp _) .nil, rfl⟩
  have hle : k = G.length := by have := of_decide_eq_false h1; omega
  subst hle
  have hres : fndB s.wide G casts sm = true := List.all_eq_true.2 fun p hp => by
    obtain ⟨k2, hk2, rfl⟩ := List.getElem_of_mem hp
    have := hgo k2 hk2
    rwa [show G.getD k2 0 = G[k2] by simp [List.getD_eq_getElem?_getD, hk2]] at this
  rw [hres]
  refine Aw.sm tab_ok mb0 [] rfl rfl ?zo ?zk
  case zo =>
    repeat' apply AllP.cons
    all_goals first | exact trivial | exact id | exact rfl | exact fun _ => rfl | exact Nat.le_of_ble_eq_true rfl | exact fun _ => Nat.le_of_ble_eq_true rfl | exact Int.natCast_nonneg _ | exact fun _ => Int.natCast_nonneg _ | exact withinH_t _ _ _ | exact (withinH_t _ _ _).un | exact in_t _ _ _ | exact (in_t _ _ _).un | exact gq_f | exact gq_t | exact gq_c | exact fun _ _ => rfl
  case zk =>
  exact Aw.ret ⟨_, .cons (.tmp _) .nil, rfl⟩
end Go.Proofs.Ytkfepnbanekfgaa

namespace Go.Proofs.Ytkfepnbanekfgaa
open Go Go.AL Go.AL.Q Go.AL.Sh
def fromN (l : List Int) : Nat := match l.getLast? with | none => 0 | some x => (x + 1).toNat
abbrev Cst := Bool × List Int
def chGo (rec : List Int → List Int → Cst) (l : List Int) : List Nat → List Int → Cst
  | [], o => (false, o)
  | i :: is, o => if (rec (l ++ [(i : Int)]) o).1 then rec (l ++ [(i : Int)]) o else chGo rec l is (rec (l ++ [(i : Int)]) o).2
def chF (fd : List Int → Bool) (n : Nat) : Nat → List Int → List Int → Cst
  | 0, l, _ => (fd l, l)
  | f + 1, l, o => chGo (chF fd n f) l ((List.range n).drop (fromN l)) o
def suGo (fd : List Int → Bool) (n : Nat) : List Nat → List Int → Option (List Int)
  | [], _ => none
  | k :: ks, o => if (chF fd n (k + 1) [] o).1 then some (chF fd n (k + 1) [] o).2 else suGo fd n ks (chF fd n (k + 1) [] o).2
def SureR (s : Sea) (l : List Rep) (wrong hour : Int) (casts : List Sp) : List Int × Int :=
  if AskE s l wrong hour casts = 0 then match suGo (fndB s.wide (canF s l wrong hour) casts) casts.length (List.range casts.length) [] with
    | some o => (o, 0)
    | none => ([], 4)
  else ([], AskE s l wrong hour casts)
def fiA (w : Int) (G : List Int) (casts : List Sp) : A := .fn (.func 34) [] [.pt [clA w G], .pt [caA w casts]]
theorem fiA_free (w : Int) (G : List Int) (casts : List Sp) : Free (fiA w G casts) := .fn _ _ _ (fun _ h => nomatch h) (allC (.pt _ (all1 (clA_free w G))) (all1 (.pt _ (all1 (caA_free w casts)))))
def chA (w : Int) (G : List Int) (casts : List Sp) : A := .fn (.func 36) [] [.ref 3 0, .pt [fiA w G casts], .pt [caA w casts], .ref 4 0]
def suH (w : Int) (G : List Int) (casts : List Sp) (o : List Int) : List (Nat × B) := [(3, .cells [outA o]), (4, .cells [chA w G casts])]
theorem chA_under (w : Int) (G : List Int) (casts : List Sp) {n : Nat} (h : 5 ≤ n) : Under n (chA w G casts) := .fn _ _ _ (fun _ h => nomatch h) (allC (.ref _ _ (by omega)) (allC (Free.pt _ (all1 (fiA_free w G casts))).under (allC (Free.pt _ (all1 (caA_free w casts))).under (all1 (.ref _ _ (by omega))))))
theorem suH_under (w : Int) (G : List Int) (casts : List Sp) (o : List Int) {n : Nat} (h : 5 ≤ n) : UnderH n (suH w G casts o) := ⟨⟨by omega, .cells _ (all1 (outA_free _).under)⟩, ⟨by omega, .cells _ (all1 (chA_under w G casts h))⟩, trivial⟩
def InSu (i : Nat) : Prop := i = 3 ∨ i = 4
theorem suH_dom (w : Int) (G : List Int) (casts : List Sp) (o : List Int) (i : Nat) : (ofH (suH w G casts o) i).isSome = true ↔ InSu i := by
  simp only [suH, ofH, updH_apply, InSu]
  by_cases h1 : i = 3 <;> by_cases h4 : i = 4 <;> simp [h1, h4]
theorem chA_nms (w : Int) (G : List Int) (casts : List Sp) : Nms InSu (chA w G casts) := .fn _ _ _ (fun _ h => nomatch h) (allC (.ref _ _ (.inl rfl)) (allC (Free.pt _ (all1 (fiA_free w G casts))).nms (allC (Free.pt _ (all1 (caA_free w casts))).nms (all1 (.ref _ _ (.inr rfl))))))
theorem suH_nms (w : Int) (G : List Int) (casts : List Sp) (o : List Int) (i : Nat) (bx : B) (h : ofH (suH w G casts o) i = some bx) : InSu i ∧ NmsB InSu bx := by
  refine ⟨(suH_dom w G casts o i).1 (by rw [h]; rfl), ?_⟩
  simp only [suH, ofH, updH_apply] at h
  split at h
  · cases h; exact .cells _ (all1 (outA_free _).nms)
  · split at h
    · cases h; exact .cells _ (all1 (chA_nms w G casts))
    · cases h
theorem su_frame {w : Int} {G : List Int} {casts : List Sp} {l : List Int} {x : A} (hx : x = outA l) {many : Int} {o : List Int} {R : Cst} (h : SCall Try.prog 36 [x, .int many, .ref 3 0, .pt [fiA w G casts], .pt [caA w casts], .ref 4 0] (ofH (suH w G casts o)) 5 (fun v H' _ => v = .bool R.1 ∧ H' = ofH (suH w G casts R.2))) {H : Hp} {c : Nat} (hH : HasH H (suH w G casts o)) :
    SCall Try.prog 36 [x, .int many, .ref 3 0, .pt [fiA w G casts], .pt [caA w casts], .ref 4 0] H c fun v H1 c1 => v = .bool R.1 ∧ c1 = c ∧ H1 = overH H (ofH (suH w G casts o)) (ofH (suH w G casts R.2)) := by
  subst hx
  have dn : (fun i => (ofH (suH w G casts o) i).isSome = true) = InSu := by funext i; exact propext (suH_dom w G casts o i)
  refine (h.frame (H := H) (c := c) (fun id bx hb => ?_) (fun id bx hb => ?_) ?_ ?_).mono ?_
  · rcases (suH_nms w G casts o id bx hb).1 with rfl | rfl <;> decide
  · rw [dn]; exact ⟨(suH_nms w G casts o id bx hb).2, hH.ofH id bx hb⟩
  · rw [dn]
    exact allC (outA_free _).nms (allC (.s _) (allC (.ref _ _ (.inl rfl)) (allC (Free.pt _ (all1 (fiA_free w G casts))).nms (allC (Free.pt _ (all1 (caA_free w casts))).nms (all1 (.ref _ _ (.inr rfl)))))))
  · rintro v H' c' ⟨rfl, rfl⟩
    rw [dn]
    refine ⟨.s _, fun id bx hb => ?_⟩
    have := suH_nms w G casts _ id bx hb
    exact ⟨(suH_dom w G casts o id).2 this.1, this.2⟩
  · rintro v H1 c1 ⟨H', c', ⟨rfl, rfl⟩, h2, h3⟩
    exact ⟨rfl, h3, h2⟩
set_option maxHeartbeats 1000000 in
theorem choose_t (s : Sea) (G : List Int) (casts : List Sp) (hf : FindOk s G casts) : ∀ (f : Nat) (l o : List Int) (many : Nat), l.length + f = many → 1 ≤ many → many ≤ 8 → (∀ i ∈ l, 0 ≤ i ∧ i < casts.length) →
    SCall Try.prog 36 [outA l, .int many, .ref 3 0, .pt [fiA s.wide G casts], .pt [caA s.wide casts], .ref 4 0] (ofH (suH s.wide G casts o)) 5 (fun v H' _ => v = .bool (chF (fndB s.wide G casts) casts.length f l o).1 ∧ H' = ofH (suH s.wide G casts (chF (fndB s.wide G casts) casts.length f l o).2)) := by
  have nl := hf.cl
  intro f
  induction f with
  | zero =>
    intro l o many hlen h1 hm hl
    have hfi := find_t s G casts hf false l hl (by omega)
    have hch : chF (fndB s.wide G casts) casts.length 0 l o = (fndB s.wide G casts l, l) := rfl
    rw [hch]
    have hz : ((ints l).length : Int) = many := by simp [ints]; omega
    have ho : outA l = .sl false .any (ints l) := by
      cases l with
      | nil => simp at hlen; omega
      | cons x l => rfl
    have hol := ho
    rw [ho]
    generalize fndB s.wide G casts l = v at *
    refine SCall.drop (post := fun v' H' _ => v' = .bool v ∧ HasH H' (suH s.wide G casts l)) (SCall.of_bodyN tab_ok Try.func36 rfl Try.ntmps36 (Nat.le_of_ble_eq_true rfl) (allC (fun _ => rfl) (allC (fun _ => rfl) (allC (fun _ => rfl) (allC (fun _ => rfl) (allC (fun _ => rfl) (all1 fun _ => rfl)))))) fun E hE => ?_)
      (fun v H' c' h => ⟨_, h.2.ofH, h.1, rfl⟩)
    refine Aw.sm tab_ok mb0 [] rfl rfl ?zo ?zk
    case zo =>
      repeat' apply AllP.cons
      all_goals first | exact trivial
    case zk =>
    refine Aw.seq ?_
    refine Aw.sm tab_ok mb0 [] rfl rfl ?zo ?zk
    case zo =>
      repeat' apply AllP.cons
      all_goals first | exact trivial
    case zk =>
    have hq : (((ints l).length : Int) == many) = true := by rw [hz]; simp
    refine Aw.cond rfl (fun _ => ?_) (fun h2 => ?_)
    · refine Aw.sm tab_ok mb0 [] rfl rfl ?zo ?zk
      case zo =>
        repeat' apply AllP.cons
        all_goals first | exact trivial | exact rfl | exact Nat.le_of_ble_eq_true rfl
      case zk =>
      refine Aw.sm tab_ok mb0 [(2, [.bool v])] rfl rfl ?zo ?zk
      case zo =>
        repeat' apply AllP.cons
        all_goals first | exact trivial | exact Nat.le_of_ble_eq_true rfl | exact hfi
      case zk =>
      exact Aw.ret ⟨_, .cons (.tmp _) .nil, rfl, ⟨congrArg (fun x => some (B.cells [x])) hol.symm, rfl, trivial⟩⟩
    · have h2 : (((ints l).length : Int) == many) = false := h2
      rw [hq] at h2; cases h2
  | succ f ih =>
    intro l o many hlen h1 hm hl
    have hch : chF (fndB s.wide G casts) casts.length (f + 1) l o = chGo (chF (fndB s.wide G casts) casts.length f) l ((List.range casts.length).drop (fromN l)) o := rfl
    rw [hch]
    generalize hR : chGo (chF (fndB s.wide G casts) casts.length f) l ((List.range casts.length).drop (fromN l)) o = R
    have hol : ∀ {n : Nat}, Under n (outA l) := (outA_free l).under
    have hfn : fromN l ≤ casts.length := by
      unfold fromN
      cases e : l.getLast? with
      | none => exact Nat.zero_le _
      | some x => have := hl x (List.mem_of_getLast? e); show (x + 1).toNat ≤ _; omega
    refine SCall.drop (post := fun v H' _ => v = .bool R.1 ∧ HasH H' (suH s.wide G casts R.2)) (SCall.of_bodyN tab_ok Try.func36 rfl Try.ntmps36 (Nat.le_of_ble_eq_true rfl) (allC (fun _ => by cases l <;> rfl) (allC (fun _ => rfl) (allC (fun _ => rfl) (allC (fun _ => rfl) (allC (fun _ => rfl) (all1 fun _ => rfl)))))) fun E hE => ?_)
      (fun v H' c' h => ⟨_, h.2.ofH, h.1, rfl⟩)
    have h5E : ∀ id, 5 ≤ id → E.φ0 id = none := hE
    have ucl : ∀ {m : Nat}, Under m (A.pt [caA s.wide casts]) := (Free.pt _ (all1 (caA_free s.wide casts))).under
    have uc : UnderL 5 [(0, outA l), (1, .int many), (4, .pt [caA s.wide casts]), (5, .ref 4 0)] := ⟨hol, .s _, ucl, .ref _ _ (by decide), trivial⟩
    have uh : ∀ o, UnderH 5 (suH s.wide G casts o) := fun o => suH_under s.wide G casts o (Nat.le_refl _)
    have hlc : ((casts.map (castC s.wide)).length : Int) = casts.length := by simp
    refine Aw.sm tab_ok mb0 [] rfl rfl ?zo ?zk
    case zo =>
      repeat' apply AllP.cons
      all_goals first | exact trivial
    case zk =>
    refine Aw.join1 5 h5E [(0, outA l), (1, .int many), (4, .pt [caA s.wide casts]), (5, .ref 4 0)] [] (suH s.wide G casts o) uc trivial (uh o) ?_ ?_
    · cases l with
      | nil =>
        refine Aw.sm tab_ok mb0 [] rfl rfl ?zo ?zk
        case zo =>
          repeat' apply AllP.cons
          all_goals first | exact trivial
        case zk =>
        refine Aw.cond rfl (fun h2 => ?_) (fun _ => Aw.skip ⟨⟨.refl _, .refl _, .refl _, .refl _, trivial⟩, trivial, ⟨rfl, rfl, trivial⟩, Nat.le_refl _⟩)
        have h2 : (((([] : List (List A)).length : Nat) : Int) == many) = true := h2
        simp at h2; omega
      | cons x l =>
        refine Aw.sm tab_ok mb0 [] rfl rfl ?zo ?zk
        case zo =>
          repeat' apply AllP.cons
          all_goals first | exact trivial
        case zk =>
        refine Aw.cond rfl (fun h2 => ?_) (fun _ => Aw.skip ⟨⟨.refl _, .refl _, .refl _, .refl _, trivial⟩, trivial, ⟨rfl, rfl, trivial⟩, Nat.le_refl _⟩)
        have h2 : ((((ints (x :: l)).length : Nat) : Int) == many) = true := h2
        simp [ints] at h2
        simp at hlen; omega
    refine Aw.sm tab_ok mb0 [] rfl rfl ?zo ?zk
    case zo =>
      repeat' apply AllP.cons
      all_goals first | exact trivial
    case zk =>
    refine Aw.join1 5 h5E [(0, outA l), (1, .int many), (4, .pt [caA s.wide casts]), (5, .ref 4 0)] [(9, .int (fromN l))] (suH s.wide G casts o) uc ⟨.s _, trivial⟩ (uh o) ?_ ?_
    · cases l with
      | nil =>
        refine Aw.sm tab_ok mb0 [] rfl rfl ?zo ?zk
        case zo =>
          repeat' apply AllP.cons
          all_goals first | exact trivial
        case zk =>
        exact Aw.cond rfl (fun h2 => by cases h2) (fun _ => Aw.skip ⟨⟨.refl _, .refl _, .refl _, .refl _, trivial⟩, ⟨.refl _, trivial⟩, ⟨rfl, rfl, trivial⟩, Nat.le_refl _⟩)
      | cons x l =>
        generalize hL : x :: l = L at *
        have hLl : L.length ≤ 8 ∧ 0 < L.length := by rw [← hL]; simp; rw [← hL] at hlen; simp at hlen; omega
        obtain ⟨y, hy⟩ : ∃ y, L[L.length - 1]? = some y := ⟨L[L.length - 1]'(by omega), by simp [show L.length - 1 < L.length by omega]⟩
        have hyb := hl y (List.mem_of_getElem? hy)
        have hfy : A.int (fromN L) = .int (y + 1) := by
          unfold fromN; rw [List.getLast?_eq_getElem?, hy]
          show A.int (((y + 1).toNat : Nat) : Int) = _
          rw [Int.toNat_of_nonneg (by omega)]
        have hlz : ((ints L).length : Int) = L.length := by simp [ints]
        have hyi : (ints L)[Int.toNat (((ints L).length : Int) - 1)]? = some [.int y] := by
          have : Int.toNat (((ints L).length : Int) - 1) = L.length - 1 := by omega
          rw [this]; simp [ints, hy]
        have hoL : outA L = .sl false .any (ints L) := by rw [← hL]; rfl
        rw [hoL]
        refine Aw.sm tab_ok mb0 [] rfl rfl ?zo ?zk
        case zo =>
          repeat' apply AllP.cons
          all_goals first | exact trivial
        case zk =>
        refine Aw.cond rfl (fun _ => ?_) (fun h2 => ?_)
        · refine Aw.em tab_ok mb0 [(4, [.int y])] rfl rfl ?zo ?zk
          case zo =>
            repeat' apply AllP.cons
            all_goals first | exact trivial | exact rfl | exact Nat.le_of_ble_eq_true rfl | exact hyi | exact (by simp only [Ob.of, inR]; omega)
          case zk =>
          exact ⟨⟨.refl _, .refl _, .refl _, .refl _, trivial⟩, ⟨.of_eq hfy, trivial⟩, ⟨rfl, rfl, trivial⟩, Nat.le_of_ble_eq_true rfl⟩
        · have h2 : decide (((ints L).length : Int) > 0) = false := h2
          have := of_decide_eq_false h2; omega
    refine Aw.seq ?_
    refine Aw.sm tab_ok mb0 [] rfl rfl ?zo ?zk
    case zo =>
      repeat' apply AllP.cons
      all_goals first | exact trivial
    case zk =>
    refine Aw.block (Aw.rounds (ι := Nat × List Int) 5 h5E [(0, outA l), (1, .int many), (4, .pt [caA s.wide casts]), (5, .ref 4 0)] (fun i => [(10, .int i.1)]) (fun i => suH s.wide G casts i.2)
      (fun i => i.1 ≤ casts.length ∧ chGo (chF (fndB s.wide G casts) casts.length f) l ((List.range casts.length).drop i.1) i.2 = R) (fun i => casts.length - i.1) (fromN l, o)
      ⟨hfn, hR⟩ ⟨⟨.refl _, .refl _, .refl _, .refl _, trivial⟩, ⟨.refl _, trivial⟩, ⟨rfl, rfl, trivial⟩, Nat.le_refl _⟩ uc (fun _ _ => ⟨.s _, trivial⟩) (fun i _ => uh i.2) ?_)
    rintro ⟨i, o2⟩ ⟨hi, hrun⟩
    simp only at hi hrun
    refine Aw.seq ?_
    refine Aw.sm tab_ok mb0 [] rfl rfl ?zo ?zk
    case zo =>
      repeat' apply AllP.cons
      all_goals first | exact trivial | exact Nat.le_of_ble_eq_true rfl
    case zk =>
    refine Aw.cond rfl (fun h2 => Aw.skip ?_) (fun h2 => ?_)
    · have hlt : i < casts.length := by have := of_decide_eq_true h2; omega
      have hdr : (List.range casts.length).drop i = i :: (List.range casts.length).drop (i + 1) := by
        rw [List.drop_eq_getElem_cons (by simpa using hlt)]; simp
      rw [hdr, chGo] at hrun
      have hz8 : (ints l).length ≤ 8 := by simp [ints]; omega
      have hcall := ih (l ++ [(i : Int)]) o2 many (by simp; omega) h1 hm (fun j hj => by
        rcases List.mem_append.1 hj with h | h
        · exact hl j h
        · simp at h; subst h; omega)
      generalize chF (fndB s.wide G casts) casts.length f (l ++ [(i : Int)]) o2 = s3 at *
      obtain ⟨fb, o3⟩ := s3
      have hone : ∀ z ∈ [[A.int (i : Int)]], z.length = 1 := fun z hz => by simp at hz; subst hz; rfl
      have hzs : ∀ z ∈ ints l, z.length = 1 := fun z hz => by obtain ⟨i, _, rfl⟩ := List.mem_map.1 hz; rfl
      refine Aw.seq (Aw.block (Aw.seq (SegW.start mixed ?_)))
      have ht : (ints l).take (Int.toNat ((ints l).length : Int)) = ints l := by rw [Int.toNat_natCast, List.take_length]
      have hb1 : ∀ z ∈ (ints l).take (Int.toNat ((ints l).length : Int)) ++ [[A.int (i : Int)]], z.length = 1 := fun z hz => by
        rw [ht] at hz
        rcases List.mem_append.1 hz with h | h
        · exact hzs z h
        · exact hone z h
      have hb2 : (((ints l).take (Int.toNat ((ints l).length : Int))).length + 1) * 8 ≤ 140737488355328 := by rw [ht]; omega
      have hb3 : ((ints l).take (Int.toNat ((ints l).length : Int))).length + 1 ≤ maxLen := by rw [ht]; unfold maxLen; omega
      cases l with
      | nil =>
        refine SegW.run (b := 0) tab_ok mb0 11 [] rfl (by kernel_rfl) rfl rfl ?zo ?zk
        case zo =>
          repeat' apply AllP.cons
          all_goals first | exact trivial | exact id | exact rfl | exact Nat.le_of_ble_eq_true rfl | exact hone | exact Int.le_refl _
        case zk =>
        refine SegW.step rfl (by kernel_rfl) rfl (fun i h1 h2 => by have h2 : i < 12 := h2; omega) (Does.raw rfl (DoesR.call rfl rfl (enters_of Try.func36 rfl rfl) (su_frame rfl hcall (H := _) (c := _) ⟨rfl, rfl, trivial⟩) ?_))
        rintro v H' c' ⟨rfl, rfl, rfl⟩
        refine SegW.done (by kernel_rfl) (Nat.le_of_ble_eq_true rfl) ?_
        cases fb with
        | true =>
          have hrun : (true, o3) = R := hrun
          subst hrun
          refine Aw.cond rfl (fun _ => ?_) (fun h3 => Bool.noConfusion (show true = false from h3))
          refine Aw.sm tab_ok mb0 [] rfl rfl ?zo ?zk
          case zo =>
            repeat' apply AllP.cons
            all_goals first | exact trivial
          case zk =>
          exact Aw.ret ⟨_, .cons (.tmp _) .nil, rfl, ⟨rfl, rfl, trivial⟩⟩
        | false =>
          have hrun : chGo (chF (fndB s.wide G casts) casts.length f) [] ((List.range casts.length).drop (i + 1)) o3 = R := hrun
          refine Aw.cond rfl (fun h3 => Bool.noConfusion (show false = true from h3)) (fun _ => Aw.skip ?_)
          refine Aw.em tab_ok mb0 [] rfl rfl ?zo ?zk
          case zo =>
            repeat' apply AllP.cons
            all_goals first | exact trivial | exact (by simp only [Ob.of, inR]; omega)
          case zk =>
          exact ⟨(i + 1, o3), ⟨hlt, hrun⟩, by show casts.length - (i + 1) < casts.length - i; omega, ⟨.refl _, .refl _, .refl _, .refl _, trivial⟩, ⟨.refl _, trivial⟩, ⟨rfl, rfl, trivial⟩, Nat.le_of_ble_eq_true rfl⟩
      | cons x l =>
        have hL : outA (x :: l) = .sl false .any (ints (x :: l)) := rfl
        generalize hgl : x :: l = L at *
        rw [hL]
        have hres : outA (L ++ [(i : Int)]) = .sl false .any ((ints L).take (Int.toNat ((ints L).length : Int)) ++ [[A.int (i : Int)]]) := by
          rw [ht, ← hgl]; simp [ints, outA]
        rw [hres] at hcall
        refine SegW.run (b := 0) tab_ok mb0 11 [] rfl (by kernel_rfl) rfl rfl ?zo ?zk
        case zo =>
          repeat' apply AllP.cons
          all_goals first | exact trivial | exact id | exact rfl | exact Nat.le_of_ble_eq_true rfl | exact hb1 | exact hb2 | exact hb3 | exact Int.natCast_nonneg _ | exact Int.le_refl _
        case zk =>
        refine SegW.step rfl (by kernel_rfl) rfl (fun i h1 h2 => by have h2 : i < 12 := h2; omega) (Does.raw rfl (DoesR.call (fst := []) (cap := [.ref 3 0, .pt [fiA s.wide G casts], .pt [caA s.wide casts], .ref 4 0]) rfl rfl (enters_of Try.func36 rfl rfl) (su_frame hres.symm hcall (H := _) (c := _) ⟨rfl, rfl, trivial⟩) ?_))
        rintro v H' c' ⟨rfl, rfl, rfl⟩
        refine SegW.done (by kernel_rfl) (Nat.le_of_ble_eq_true rfl) ?_
        cases fb with
        | true =>
          have hrun : (true, o3) = R := hrun
          subst hrun
          refine Aw.cond rfl (fun _ => ?_) (fun h3 => Bool.noConfusion (show true = false from h3))
          refine Aw.sm tab_ok mb0 [] rfl rfl ?zo ?zk
          case zo =>
            repeat' apply AllP.cons
            all_goals first | exact trivial
          case zk =>
          exact Aw.ret ⟨_, .cons (.tmp _) .nil, rfl, ⟨rfl, rfl, trivial⟩⟩
        | false =>
          have hrun : chGo (chF (fndB s.wide G casts) casts.length f) L ((List.range casts.length).drop (i + 1)) o3 = R := hrun
          refine Aw.cond rfl (fun h3 => Bool.noConfusion (show false = true from h3)) (fun _ => Aw.skip ?_)
          refine Aw.em tab_ok mb0 [] rfl rfl ?zo ?zk
          case zo =>
            repeat' apply AllP.cons
            all_goals first | exact trivial | exact (by simp only [Ob.of, inR]; omega)
          case zk =>
          exact ⟨(i + 1, o3), ⟨hlt, hrun⟩, by show casts.length - (i + 1) < casts.length - i; omega, ⟨.refl _, .refl _, .refl _, .refl _, trivial⟩, ⟨.refl _, trivial⟩, ⟨rfl, rfl, trivial⟩, Nat.le_of_ble_eq_true rfl⟩
    · have hend : i = casts.length := by have := of_decide_eq_false h2; omega
      subst hend
      rw [List.drop_of_length_le (by simp), chGo] at hrun
      subst hrun
      refine Aw.exit2 ?_
      refine Aw.sm tab_ok mb0 [] rfl rfl ?zo ?zk
      case zo =>
        repeat' apply AllP.cons
        all_goals first | exact trivial
      case zk =>
      exact Aw.ret ⟨_, .cons (.tmp _) .nil, rfl, ⟨rfl, rfl, trivial⟩⟩
set_option maxRecDepth 20000 in
set_option maxHeartbeats 1000000 in
theorem Sure_t (s : Sea) (hf : SeaFit s) (b : Bool) (l : List Rep) (hl : (l.length : Int) ≤ 9223372036854775806) (wrong hour : Int) (cb : Bool) (casts : List Sp) (hcs : CstFit casts) :
    Ans Try.prog 14 [.agg s.c, .sl b .any (l.map Rep.c), .int wrong, .int hour, .sl cb .any (casts.map Sp.c)] (.tup [outA (SureR s l wrong hour casts).1, .int (SureR s l wrong hour casts).2]) := by
  have fcs : Free (.sl cb .any (casts.map Sp.c)) := free_map Sp.free _ _ _
  have hfr : Free (.tup [outA (SureR s l wrong hour casts).1, .int (SureR s l wrong hour casts).2]) := .tup _ (allC (outA_free _) (all1 (.s _)))
  have hask := asked_t s hf b l hl wrong hour cb casts hcs
  refine told Try.func14 rfl rfl (Pure.of tab_ok Try.func14 rfl Try.ntmps14 rfl (allC (.agg _ s.free) (allC (free_map Rep.free _ _ _) (allC (.s _) (allC (.s _) (all1 (fcs)))))) (allC (fun _ => rfl) (allC (fun _ => rfl) (allC (fun _ => rfl) (allC (fun _ => rfl) (all1 (fun _ => rfl)))))) (by first | exact .s _ | assumption | exact .tup _ (by intro x hx; simp only [List.mem_cons, List.not_mem_nil, or_false] at hx; rcases hx with rfl | rfl | rfl | rfl <;> first | exact .s _ | (simp_all; done))) fun E hE => ?_)
  refine Aw.sm tab_ok mb0 [] rfl rfl ?zo ?zk
  case zo =>
    repeat' apply AllP.cons
    all_goals first | exact trivial
  case zk =>
  by_cases hA : AskE s l wrong hour casts = 0
  rotate_left
  · have e : SureR s l wrong hour casts = ([], AskE s l wrong hour casts) := by unfold SureR; rw [if_neg hA]
    have e2 : askA s l wrong hour casts = .tup [.sl true .exact [], .sl true .exact [], .int (AskE s l wrong hour casts)] := by unfold askA; rw [if_neg hA]
    rw [e]
    rw [e2] at hask
    generalize AskE s l wrong hour casts = er at *
    refine Aw.sm tab_ok mb0 [(5, [.tup [.sl true .exact [], .sl true .exact [], .int er]])] rfl rfl ?zo ?zk
    case zo =>
      repeat' apply AllP.cons
      all_goals first | exact trivial | exact rfl | exact Nat.le_of_ble_eq_true rfl | exact hask
    case zk =>
    refine Aw.seq ?_
    refine Aw.sm tab_ok mb0 [] rfl rfl ?zo ?zk
    case zo =>
      repeat' apply AllP.cons
      all_goals first | exact trivial
    case zk =>
    refine Aw.cond rfl (fun h => ?_) (fun h => absurd (show (er != 0) = true by simpa using hA) (by rw [show (er != 0) = false from h]; decide))
    refine Aw.sm tab_ok mb0 [] rfl rfl ?zo ?zk
    case zo =>
      repeat' apply AllP.cons
      all_goals first | exact trivial
    case zk =>
    exact Aw.ret ⟨_, .cons (.tmp _) (.cons (.tmp _) .nil), rfl⟩
  obtain ⟨hok, hr, hasked, hco, hne⟩ := AskE_ok hA
  have ho := Sea.ok_of hok
  have hm := ho.many
  have hci := castsOk_iff hco
  have hcf : ∀ c ∈ canF s l wrong hour, 0 ≤ c ∧ c < 80 := fun c h => canF_in ho h
  have hgl : (canF s l wrong hour).length ≤ 80 := Nat.le_trans (goL_len s _ _) (cellsL_len s ho)
  have e : SureR s l wrong hour casts = match suGo (fndB s.wide (canF s l wrong hour) casts) casts.length (List.range casts.length) [] with
    | some o => (o, 0)
    | none => ([], 4) := by unfold SureR; rw [if_pos hA]
  have e2 : askA s l wrong hour casts = .tup [clA s.wide (canF s l wrong hour), caA s.wide casts, .int 0] := by unfold askA; rw [if_pos hA]; rfl
  rw [e]
  rw [e2] at hask
  generalize canF s l wrong hour = G at *
  have hfo : FindOk s G casts := ⟨ho, hcf, hgl, hci.1.2, fun c hc => (hci.2 c hc).1⟩
  generalize hR : suGo (fndB s.wide G casts) casts.length (List.range casts.length) [] = R
  refine Aw.sm tab_ok mb0 [(5, [.tup [clA s.wide G, caA s.wide casts, .int 0]])] rfl rfl ?zo ?zk
  case zo =>
    repeat' apply AllP.cons
    all_goals first | exact trivial | exact rfl | exact Nat.le_of_ble_eq_true rfl | exact hask
  case zk =>
  refine Aw.seq ?_
  refine Aw.sm tab_ok mb0 [] rfl rfl ?zo ?zk
  case zo =>
    repeat' apply AllP.cons
    all_goals first | exact trivial
  case zk =>
  refine Aw.cond rfl (fun h => absurd h (by decide)) (fun h => Aw.skip ?_)
  refine Aw.freeze (id := 0) (t := 12) (cs := [clA s.wide G]) rfl rfl ?_
  refine Aw.freeze (id := 1) (t := 13) (cs := [caA s.wide casts]) rfl rfl ?_
  refine Aw.sm tab_ok mb0 [] rfl rfl ?zo ?zk
  case zo =>
    repeat' apply AllP.cons
    all_goals first | exact trivial | exact rfl | exact Nat.le_of_ble_eq_true rfl
  case zk =>
  refine Aw.freeze (id := 2) (t := 15) (cs := [fiA s.wide G casts]) rfl rfl ?_
  refine Aw.sm tab_ok mb0 [] rfl rfl ?zo ?zk
  case zo =>
    repeat' apply AllP.cons
    all_goals first | exact trivial
  case zk =>
  refine Aw.sm tab_ok mb0 [] rfl rfl ?zo ?zk
  case zo =>
    repeat' apply AllP.cons
    all_goals first | exact trivial
  case zk =>
  refine Aw.sm tab_ok mb0 [] rfl rfl ?zo ?zk
  case zo =>
    repeat' apply AllP.cons
    all_goals first | exact trivial | exact rfl | exact Nat.le_of_ble_eq_true rfl
  case zk =>
  have h5E : ∀ id, 5 ≤ id → E.φ0 id = none := fun id _ => hE id (Nat.zero_le _)
  have uca : ∀ {m : Nat}, Under m (A.pt [caA s.wide casts]) := (Free.pt _ (all1 (caA_free s.wide casts))).under
  have uh : ∀ o, UnderH 5 (suH s.wide G casts o) := fun o => suH_under s.wide G casts o (Nat.le_refl _)
  refine Aw.keep (n := 5) (cst := [(13, .pt [caA s.wide casts]), (16, .ref 3 0), (17, .ref 4 0)]) (v := []) (Hl := suH s.wide G casts []) h5E ?zu ?zw ?zx ⟨?zc, ?zv, ?zh, Nat.le_of_ble_eq_true rfl⟩ ?zr
  case zu =>
    (repeat' (first | exact trivial | exact Under.ref _ _ (by decide) | exact uca | (refine And.intro ?_ ?_)))
  case zw =>
    (repeat' (first | exact trivial))
  case zx =>
    (repeat' (first | exact uh _))
  case zc =>
    (repeat' (first | (refine And.intro ?_ ?_) | exact trivial | exact A.Le.refl _))
  case zv =>
    (repeat' (first | exact trivial))
  case zh =>
    (repeat' (first | (refine And.intro ?_ ?_) | exact trivial | exact rfl))
  case zr =>
  refine Aw.seq ?_
  refine Aw.sm tab_ok mb0 [] rfl rfl ?zo ?zk
  case zo =>
    repeat' apply AllP.cons
    all_goals first | exact trivial | exact Nat.le_of_ble_eq_true rfl
  case zk =>
  have lC : ((casts.map (castC s.wide)).length : Int) = casts.length := by simp
  have nl := hfo.cl
  refine Aw.block (Aw.rounds 5 h5E [(16, .ref 3 0), (17, .ref 4 0), (35, .int casts.length)] (fun i : (Nat×List Int) => [(36, .int i.1)]) (fun i => suH s.wide G casts i.2) (fun i => i.1 ≤ casts.length ∧ suGo (fndB s.wide G casts) casts.length ((List.range casts.length).drop i.1) i.2 = R) (fun i => casts.length - i.1) (0, []) ?zg ⟨?zc, ?zv, ?zh, Nat.le_of_ble_eq_true rfl⟩ ?zu (fun i zhk => ?zw) (fun i zhk => ?zx) fun i hk => ?zr)
  case zg =>
    (repeat' (first | exact ⟨Nat.zero_le _, hR⟩))
  case zc =>
    (repeat' (first | (refine And.intro ?_ ?_) | exact trivial | exact A.Le.refl _ | exact .of_eq (congrArg A.int lC.symm)))
  case zv =>
    (repeat' (first | (refine And.intro ?_ ?_) | exact trivial | exact A.Le.refl _))
  case zh =>
    (repeat' (first | (refine And.intro ?_ ?_) | exact trivial | exact rfl))
  case zu =>
    (repeat' (first | exact trivial | exact Under.s _ | exact Under.ref _ _ (by decide) | (refine And.intro ?_ ?_)))
  case zw =>
    (repeat' (first | exact trivial | exact Under.s _ | (refine And.intro ?_ ?_)))
  case zx =>
    (repeat' (first | exact uh _))
  case zr =>
  obtain ⟨k, o⟩ := i
  obtain ⟨hkk, hrun⟩ := hk
  simp only at hkk hrun
  refine Aw.sm tab_ok mb0 [] rfl rfl ?zo ?zk
  case zo =>
    repeat' apply AllP.cons
    all_goals first | exact trivial
  case zk =>
  refine Aw.seq (Aw.cond rfl (fun h2 => Aw.skip1 ?_) (fun h2 => Aw.exit2 ?_))
  · have hlt : k < casts.length := by have := of_decide_eq_true h2; omega
    have hdr : (List.range casts.length).drop k = k :: (List.range casts.length).drop (k + 1) := by
      rw [List.drop_eq_getElem_cons (by simpa using hlt)]; simp
    rw [hdr, suGo] at hrun
    have hcall := choose_t s G casts hfo (k + 1) [] o (k + 1) (by simp) (by omega) (by omega) (fun _ h => nomatch h)
    generalize chF (fndB s.wide G casts) casts.length (k + 1) [] o = s3 at *
    obtain ⟨fb, o3⟩ := s3
    refine Aw.seq (Aw.block ?_)
    refine Aw.sm tab_ok mb0 [] rfl rfl ?zo ?zk
    case zo =>
      repeat' apply AllP.cons
      all_goals first | exact trivial
    case zk =>
    refine Aw.seq ?_
    refine Aw.es rfl ?_
    rw [show (((k + 1 : Nat)) : Int) = (k : Int) + 1 from rfl] at hcall
    refine RegL.partE tab_ok mb0 false 3 0 [] ?_
    conv => arg 5; whnf
    refine PartK.mk ?zo ?zk
    case zo =>
      repeat' apply AllP.cons
      all_goals first | exact trivial | exact Nat.le_of_ble_eq_true rfl | exact (by simp only [Ob.of, inR]; omega)
    case zk =>
    refine Does.raw rfl (DoesR.call (fst := []) (cap := [.ref 3 0, .pt [fiA s.wide G casts], .pt [caA s.wide casts], .ref 4 0]) rfl rfl (enters_of Try.func36 rfl rfl) (su_frame rfl hcall (H := _) (c := _) ⟨rfl, rfl, trivial⟩) ?_)
    rintro v H' c' ⟨rfl, rfl, rfl⟩
    refine RegL.partE tab_ok mb0 false 9 4 [] ?_
    conv => arg 5; whnf
    refine PartK.mk ?zo ?zk
    case zo =>
      repeat' apply AllP.cons
      all_goals first | exact trivial
    case zk =>
    cases fb with
    | true =>
      have hrun : some o3 = R := hrun
      subst hrun
      refine Aw.cond rfl (fun _ => ?_) (fun h3 => Bool.noConfusion (show true = false from h3))
      cases o3 with
      | nil =>
        refine Aw.sm tab_ok mb0 [] rfl rfl ?zo ?zk
        case zo =>
          repeat' apply AllP.cons
          all_goals first | exact trivial | exact Nat.le_of_ble_eq_true rfl
        case zk =>
        exact Aw.ret ⟨_, .cons (.tmp _) (.cons (.tmp _) .nil), rfl⟩
      | cons x t =>
        refine Aw.sm tab_ok mb0 [] rfl rfl ?zo ?zk
        case zo =>
          repeat' apply AllP.cons
          all_goals first | exact trivial | exact Nat.le_of_ble_eq_true rfl
        case zk =>
        exact Aw.ret ⟨_, .cons (.tmp _) (.cons (.tmp _) .nil), rfl⟩
    | false =>
      have hrun : suGo (fndB s.wide G casts) casts.length ((List.range casts.length).drop (k + 1)) o3 = R := hrun
      refine Aw.cond rfl (fun h3 => Bool.noConfusion (show false = true from h3)) (fun _ => Aw.skip ?_)
      refine Aw.em tab_ok mb0 [] rfl rfl ?zo ?zk
      case zo =>
        repeat' apply AllP.cons
        all_goals first | exact trivial | exact (by simp only [Ob.of, inR]; omega)
      case zk =>
      refine ⟨(k + 1, o3), ?zg, ?zm, ⟨?zc, ?zv, ?zh, Nat.le_of_ble_eq_true rfl⟩⟩
      case zg =>
        (repeat' (first | exact ⟨hlt, hrun⟩))
      case zm =>
        (repeat' (first | omega))
      case zc =>
        (repeat' (first | (refine And.intro ?_ ?_) | exact trivial | exact A.Le.refl _))
      case zv =>
        (repeat' (first | (refine And.intro ?_ ?_) | exact trivial | exact A.Le.refl _))
      case zh =>
        (repeat' (first | (refine And.intro ?_ ?_) | exact trivial | exact rfl))
  · have hend : k = casts.length := by have := of_decide_eq_false h2; omega
    subst hend
    rw [List.drop_of_length_le (by simp), suGo] at hrun
    subst hrun
    refine Aw.sm tab_ok mb0 [] rfl rfl ?zo ?zk
    case zo =>
      repeat' apply AllP.cons
      all_goals first | exact trivial
    case zk =>
    exact Aw.ret ⟨_, .cons (.tmp _) (.cons (.tmp _) .nil), rfl⟩
end Go.Proofs.Ytkfepnbanekfgaa

namespace Go.Proofs.Ytkfepnbanekfgaa
open Go Go.AL Go.AL.Q
set_option maxRecDepth 100000 in
theorem eq125 (a c : Int) : pureRun Try.prog (Op.equal 107 (.agg #[.int .i64 a]) (.agg #[.int .i64 c])) = some (a == c) := by
  have h1 : pureRun Try.prog (underlying 107) = Try.prog.underlying 107 := rfl
  have h2 : pureRun Try.prog program = some Try.prog := rfl
  have h3 : Try.prog.stoodInHeld 107 = false := by kernel_rfl
  have p1 : ∀ x : Value, pureRun Try.prog (part 3 #[x] 0) = some x := fun x => rfl
  have pp : ∀ {α : Type} (x : α), pureRun Try.prog (pure x) = some x := fun x => rfl
  rw [Op.equal, Op.maxDepth, show (10000 : Nat) = 9999 + 1 from rfl, Op.equalIn, pureRun_bind, h1, Try.underlying107]
  simp only [Option.bind_some, pureRun_bind, h2, h3]
  by_cases h : a = c
  · subst h
    simp [pureRun_bind, p1, eq3, pp]
  · have e : (a == c) = false := by simpa using h
    simp [pureRun_bind, p1, eq3, pp, e]
def setE (n : Int) : List Value := [.int .i64 n]
def valC (c : Cel) : A := .agg c.c
set_option maxRecDepth 100000 in
theorem ktyS : KeyTy Try.prog 107 setE where
  und := ⟨_, Try.underlying107, fun _ _ => rfl⟩
  eq := fun a b => by
    show pureRun Try.prog (Op.equal 107 (.agg #[.int .i64 _]) (.agg #[.int .i64 _])) = _
    rw [eq125]
  ck := fun e a => rfl
  bits := fun a => by simp [Instr.sameBits, setE]
theorem lk_spare (m : List (Int × Cel)) (x : Int) : LkIs Try.prog tab 107 52 (encM setE valC m) (keyA setE x) (.agg ((mget m x).getD ⟨0, 0⟩).c) (mget m x).isSome :=
  ktyS.lk valC m x (by cases mget m x <;> rfl) rfl
theorem eg125 : Try.prog.eqGuardType Try.prog.depth 107 = false := by kernel_rfl
set_option maxRecDepth 100000 in
theorem eqSet (x y : Operand) (a b : Int) : EqIs tab .eql 107 x y (.agg [.int a]) (.agg [.int b]) (a == b) := by
  refine ⟨.agg #[.int .i64 a], .agg #[.int .i64 b], rfl, rfl, (congrFun (congrFun (congrFun (congrFun (congrFun (congrFun (show tab.eqv = pureEq Try.prog from rfl) _) _) _) _) _) _).trans ?_⟩
  show pureEq Try.prog .eql 107 x y (.agg #[.int .i64 a]) (.agg #[.int .i64 b]) = _
  have hp : pureRun Try.prog program = some Try.prog := rfl
  have pp : ∀ {α : Type} (x : α), pureRun Try.prog (pure x) = some x := fun x => rfl
  have e1 : pureRun Try.prog (eqGuard .eql 107 x y (.agg #[.int .i64 a]) (.agg #[.int .i64 b])) = some () := by
    simp [eqGuard, pureRun_bind, hp, eg125, pp]
  have e2 : pureRun Try.prog (binOp .eql 107 (.agg #[.int .i64 a]) (.agg #[.int .i64 b])) = some (.bool (a == b)) := by
    have : binOp .eql 107 (.agg #[.int .i64 a]) (.agg #[.int .i64 b]) = (Op.equal 107 (.agg #[.int .i64 a]) (.agg #[.int .i64 b]) >>= fun b => pure (.bool b)) := rfl
    rw [this, pureRun_bind, eq125]; rfl
  unfold pureEq
  rw [pureRun_bind, e1]
  exact e2
def memH (m : List (Int × Cel)) : List (Nat × B) := [(5, .map (encM setE valC m))]
theorem encMB_free (m : List (Int × Cel)) : ∀ p ∈ encM setE valC m, Free p.1 ∧ Free p.2 := fun p hp => by
  obtain ⟨q, _, rfl⟩ := List.mem_map.1 hp
  exact ⟨.agg _ (all1 (.s _)), .agg _ q.2.free⟩
theorem memH_under (m : List (Int × Cel)) {n : Nat} (h : 5 < n) : UnderH n (memH m) := ⟨⟨h, .map _ fun p hp => ⟨(encMB_free m p hp).1.under, (encMB_free m p hp).2.under⟩⟩, trivial⟩
theorem spared_t (b : Bool) (cells : List Cel) (hc : CelsIn cells) (x : Int) (m : List (Int × Cel)) (hm : MemoOk cells m) :
    SCall Try.prog 41 [.agg [.sl b .any (cells.map Cel.c), .mp 5], .agg [.int x]] (ofH (memH m)) 8 (fun v H' _ => v = .agg (spareF cells x).c ∧ ∃ m', MemoOk cells m' ∧ H' = ofH (memH m')) := by
  have n12 := hc.n
  have zc : ((cells.map Cel.c).length : Int) = cells.length := by simp
  have usl : ∀ {n}, Under n (A.sl b .any (cells.map Cel.c)) := (free_map Cel.free _ _ _).under
  have u2 : ∀ {n}, 5 < n → Under n (A.pt [.sl b .any (cells.map Cel.c), .mp 5]) := fun h => .pt _ (allC usl (all1 (.mp _ h)))
  have ux : ∀ {n}, Under n (A.pt [A.int x]) := .pt _ (all1 (.s _))
  refine SCall.drop (post := fun v H' _ => v = .agg (spareF cells x).c ∧ ∃ m', MemoOk cells m' ∧ HasH H' (memH m')) (SCall.of_bodyN tab_ok Try.func41 rfl Try.ntmps41 (Nat.le_of_ble_eq_true rfl) (allC (fun _ => rfl) (all1 fun _ => rfl)) fun E hE => ?_)
    (fun v H' c' h => by obtain ⟨h1, m', h2, h3⟩ := h; exact ⟨ofH (memH m'), h3.ofH, h1, m', h2, rfl⟩)
  refine Aw.sm tab_ok mb0 [] rfl rfl ?zo ?zk
  case zo =>
    repeat' apply AllP.cons
    all_goals first | exact trivial
  case zk =>
  refine Aw.sm tab_ok mb0 [(3, [.agg ((mget m x).getD ⟨0, 0⟩).c, .bool (mget m x).isSome])] rfl rfl ?zo ?zk
  case zo =>
    repeat' apply AllP.cons
    all_goals first | exact trivial | exact rfl | exact Nat.le_of_ble_eq_true rfl | exact lk_spare m x
  case zk =>
  refine Aw.keep (n := 10) (cst := [(2, .pt [.sl b .any (cells.map Cel.c), .mp 5]), (3, .pt [.int x]), (4, .ref 8 0), (5, .ref 9 0), (6, .bool (mget m x).isSome)]) (v := []) (Hl := [(5, .map (encM setE valC m)), (8, .cells [.int 0, .int 0]), (9, .cells ((mget m x).getD ⟨0, 0⟩).c)]) (fun i h => hE i (by omega)) ⟨u2 (by decide), ux, .ref _ _ (by decide), .ref _ _ (by decide), .s _, trivial⟩ trivial ⟨(memH_under m (by decide)).1, ⟨by decide, .cells _ (allC (.s _) (all1 (.s _)))⟩, ⟨by decide, .cells _ (allC (.s _) (all1 (.s _)))⟩, trivial⟩
    ⟨⟨.refl _, .refl _, .refl _, .refl _, .refl _, trivial⟩, trivial, ⟨rfl, rfl, rfl, trivial⟩, Nat.le_of_ble_eq_true rfl⟩ ?_
  refine Aw.seq ?_
  refine Aw.sm tab_ok mb0 [(4, [.bool (x == 0)])] rfl rfl ?zo ?zk
  case zo =>
    repeat' apply AllP.cons
    all_goals first | exact trivial | exact id | exact fun _ => rfl | exact fun _ => Nat.le_of_ble_eq_true rfl | exact fun _ => eqSet _ _ x 0 | exact gq_f
  case zk =>
  refine Aw.cond rfl (fun h1 => ?_) (fun h1 => Aw.skip ?_)
  · have h1 : cond (mget m x).isSome true (x == 0) = true := h1
    have hv : (mget m x).getD ⟨0, 0⟩ = spareF cells x := by
      cases hg : mget m x with
      | some c => exact hm x c hg
      | none =>
        rw [hg] at h1
        have h1 : (x == 0) = true := h1
        rw [eq_of_beq h1]
        exact (spare_zero cells _).symm
    rw [hv]
    refine Aw.sm tab_ok mb0 [] rfl rfl ?zo ?zk
    case zo =>
      repeat' apply AllP.cons
      all_goals first | exact trivial | exact rfl | exact Nat.le_of_ble_eq_true rfl
    case zk =>
    exact Aw.ret ⟨_, .cons (resC rfl rfl (by decide) rfl rfl) .nil, rfl, m, hm, ⟨rfl, trivial⟩⟩
  have h1 : cond (mget m x).isSome true (x == 0) = false := h1
  have hnone : mget m x = none := by
    cases hg : mget m x with
    | some c => rw [hg] at h1; cases h1
    | none => rfl
  rw [hnone]
  refine Aw.seq ?_
  refine Aw.sm tab_ok mb0 [] rfl rfl ?zo ?zk
  case zo =>
    repeat' apply AllP.cons
    all_goals first | exact trivial | exact Nat.le_of_ble_eq_true rfl
  case zk =>
  refine Aw.block (Aw.rounds (ι := Nat) 10 (fun i h => hE i (by omega)) [(2, .pt [.sl b .any (cells.map Cel.c), .mp 5]), (3, .pt [.int x]), (4, .ref 8 0), (5, .ref 9 0), (24, .sl b .any (cells.map Cel.c)), (25, .int (cells.map Cel.c).length)] (fun k => [(26, .int k)]) (fun k => [(5, .map (encM setE valC m)), (8, .cells [.int 0, .int 0]), (9, .cells (spareN cells x k).c)])
    (fun k => k ≤ cells.length) (fun k => cells.length - k) 0
    (Nat.zero_le _) ⟨⟨.refl _, .refl _, .refl _, .refl _, .refl _, .refl _, trivial⟩, ⟨.refl _, trivial⟩, ⟨rfl, rfl, rfl, trivial⟩, Nat.le_refl _⟩ ⟨u2 (by decide), ux, .ref _ _ (by decide), .ref _ _ (by decide), usl, .s _, trivial⟩ (fun _ _ => ⟨.s _, trivial⟩)
    (fun k _ => ⟨(memH_under m (by decide)).1, ⟨by decide, .cells _ (allC (.s _) (all1 (.s _)))⟩, ⟨by decide, .cells _ (allC (.s _) (all1 (.s _)))⟩, trivial⟩) fun k hk => ?_)
  refine Aw.sm tab_ok mb0 [] rfl rfl ?zo ?zk
  case zo =>
    repeat' apply AllP.cons
    all_goals first | exact trivial
  case zk =>
  refine Aw.seq (Aw.cond rfl (fun h1 => Aw.skip1 ?_) (fun h1 => Aw.exit2 ?_))
  · have hlt : k < cells.length := by have := of_decide_eq_true h1; omega
    have hbd := spare_bd hc x k
    have hat := hc.at k
    have hg : (cells.map Cel.c)[k]? = some (cells.getD k ⟨0, 0⟩).c := by rw [get_map hlt]; simp [List.getD_eq_getElem?_getD, hlt]
    have hs : spareN cells x (k + 1) = if bitI x k then ⟨(spareN cells x k).sp + (cells.getD k ⟨0, 0⟩).sp, (spareN cells x k).la + (cells.getD k ⟨0, 0⟩).la⟩ else spareN cells x k := rfl
    generalize cells.getD k ⟨0, 0⟩ = c at *
    generalize spareN cells x k = sn at *
    refine Aw.seq (Aw.block ?_)
    refine Aw.sm tab_ok mb0 [(1, c.c)] rfl rfl ?zo ?zk
    case zo =>
      repeat' apply AllP.cons
      all_goals first | exact trivial | exact rfl | exact Nat.le_of_ble_eq_true rfl | exact Int.natCast_nonneg _ | exact hg
    case zk =>
    refine Aw.sm tab_ok mb0 [] rfl rfl ?zo ?zk
    case zo =>
      repeat' apply AllP.cons
      all_goals first | exact trivial | exact Nat.le_of_ble_eq_true rfl | exact Int.natCast_nonneg _
    case zk =>
    refine Aw.cond rfl (fun h2 => ?_) (fun h2 => Aw.skip ?_)
    · have h2' : bitI x k = true := h2
      rw [if_pos h2'] at hs
      refine Aw.em tab_ok mb0 [] rfl rfl ?zo ?zk
      case zo =>
        repeat' apply AllP.cons
        all_goals first | exact trivial | exact rfl | exact Nat.le_of_ble_eq_true rfl | exact (by simp only [Ob.of, inR]; omega)
      case zk =>
      refine Aw.em tab_ok mb0 [] rfl rfl ?zo ?zk
      case zo =>
        repeat' apply AllP.cons
        all_goals first | exact trivial | exact inrk k (by omega)
      case zk =>
      exact ⟨k + 1, hlt, by omega, ⟨.refl _, .refl _, .refl _, .refl _, .refl _, .refl _, trivial⟩, ⟨.refl _, trivial⟩, ⟨rfl, rfl, by rw [hs]; rfl, trivial⟩, Nat.le_of_ble_eq_true rfl⟩
    · have h2' : bitI x k = false := h2
      rw [h2'] at hs
      refine Aw.em tab_ok mb0 [] rfl rfl ?zo ?zk
      case zo =>
        repeat' apply AllP.cons
        all_goals first | exact trivial | exact inrk k (by omega)
      case zk =>
      exact ⟨k + 1, hlt, by omega, ⟨.refl _, .refl _, .refl _, .refl _, .refl _, .refl _, trivial⟩, ⟨.refl _, trivial⟩, ⟨rfl, rfl, by rw [hs]; rfl, trivial⟩, Nat.le_of_ble_eq_true rfl⟩
  have hle : k = cells.length := by have := of_decide_eq_false h1; omega
  subst hle
  have hsf : spareN cells x cells.length = spareF cells x := rfl
  rw [hsf]
  have hup : upKV (encM setE valC m) (keyA setE x) (valC (spareF cells x)) (ixOf Try.prog 107 (encM setE valC m) (keyA setE x)) = encM setE valC (mput m x (spareF cells x)) := ktyS.up valC m x (spareF cells x)
  refine Aw.sm tab_ok mb0 [] rfl rfl ?zo ?zk
  case zo =>
    repeat' apply AllP.cons
    all_goals first | exact trivial | exact Nat.le_of_ble_eq_true rfl | exact ktyS.has valC m x
  case zk =>
  refine Aw.sm tab_ok mb0 [] rfl rfl ?zo ?zk
  case zo =>
    repeat' apply AllP.cons
    all_goals first | exact trivial | exact rfl | exact Nat.le_of_ble_eq_true rfl
  case zk =>
  exact Aw.ret ⟨_, .cons (resC rfl rfl (by decide) rfl rfl) .nil, rfl, mput m x (spareF cells x), hm.put x, ⟨congrArg (fun x => some (B.map x)) hup, trivial⟩⟩
theorem memH_dom (m : List (Int × Cel)) (i : Nat) : (ofH (memH m) i).isSome = true ↔ i = 5 := by
  simp only [memH, ofH, updH_apply]
  by_cases h : i = 5 <;> simp [h]
theorem spared_frame (b : Bool) (cells : List Cel) (hc : CelsIn cells) (x : Int) (m : List (Int × Cel)) (hm : MemoOk cells m) {H : Hp} {c : Nat} (hH : HasH H (memH m)) :
    SCall Try.prog 41 [.agg [.sl b .any (cells.map Cel.c), .mp 5], .agg [.int x]] H c (fun v H' c' => v = .agg (spareF cells x).c ∧ c' = c ∧ ∃ m', MemoOk cells m' ∧ H' = overH H (ofH (memH m)) (ofH (memH m'))) := by
  have dn : (fun i => (ofH (memH m) i).isSome = true) = fun i => i = 5 := by funext i; exact propext (memH_dom m i)
  have nm : ∀ m' id bx, ofH (memH m') id = some bx → id = 5 ∧ NmsB (fun i => i = 5) bx := fun m' id bx hb => by
    have h5 := (memH_dom m' id).1 (by rw [hb]; rfl)
    refine ⟨h5, ?_⟩
    subst h5
    cases hb
    exact .map _ fun p hp => ⟨(encMB_free m' p hp).1.nms, (encMB_free m' p hp).2.nms⟩
  refine ((spared_t b cells hc x m hm).frame (H := H) (c := c) (fun id bx hb => ?_) (fun id bx hb => ?_) ?_ ?_).mono ?_
  · have := (nm m id bx hb).1; omega
  · rw [dn]; exact ⟨(nm m id bx hb).2, hH.ofH id bx hb⟩
  · rw [dn]
    exact allC (.agg _ (allC (free_map Cel.free _ _ _).nms (all1 (.mp _ rfl)))) (all1 (.agg _ (all1 (.s _))))
  · rintro v H' c' ⟨rfl, m', hm', rfl⟩
    rw [dn]
    refine ⟨.agg _ (fun x hx => (Cel.free _ x hx).nms), fun id bx hb => ?_⟩
    have := nm m' id bx hb
    exact ⟨(memH_dom m id).2 this.1, this.2⟩
  · rintro v H1 c1 ⟨H', c', ⟨rfl, m', hm', rfl⟩, h2, h3⟩
    exact ⟨rfl, h3, m', hm', h2⟩
end Go.Proofs.Ytkfepnbanekfgaa

namespace Go.Proofs.Ytkfepnbanekfgaa
open Go Go.AL Go.AL.Q
def chFn : A := .fn (.func 40) [] [.ref 6 0, .ref 1 0, .ref 2 0, .ref 0 0, .ref 4 0, .ref 7 0]
def bxH (b : Bool) (cells : List Cel) (sets : List Int) (m : List (Int × Cel)) (s : BSt) : List (Nat × B) :=
  [(0, .cells [outA s.chosen]), (1, .cells [.int s.sp]), (2, .cells [.int s.la]), (4, .cells [.sl false .any (ints sets)]), (5, .map (encM setE valC m)), (6, .cells [.sl b .any (cells.map Cel.c), .mp 5]), (7, .cells [chFn])]
theorem chFn_under {n : Nat} (h : 8 ≤ n) : Under n chFn := .fn _ _ _ (fun _ h => nomatch h) (allC (.ref _ _ (by omega)) (allC (.ref _ _ (by omega)) (allC (.ref _ _ (by omega)) (allC (.ref _ _ (by omega)) (allC (.ref _ _ (by omega)) (all1 (.ref _ _ (by omega))))))))
theorem bxH_under (b : Bool) (cells : List Cel) (sets : List Int) (m : List (Int × Cel)) (s : BSt) {n : Nat} (h : 8 ≤ n) : UnderH n (bxH b cells sets m s) :=
  ⟨⟨by omega, .cells _ (all1 (outA_free _).under)⟩, ⟨by omega, .cells _ (all1 (.s _))⟩, ⟨by omega, .cells _ (all1 (.s _))⟩, ⟨by omega, .cells _ (all1 (free_ints _ _ _).under)⟩, (memH_under m (by omega)).1, ⟨by omega, .cells _ (allC (free_map Cel.free _ _ _).under (all1 (.mp _ (by omega))))⟩, ⟨by omega, .cells _ (all1 (chFn_under h))⟩, trivial⟩
def InBx (i : Nat) : Prop := i = 0 ∨ i = 1 ∨ i = 2 ∨ i = 4 ∨ i = 5 ∨ i = 6 ∨ i = 7
theorem bxH_dom (b : Bool) (cells : List Cel) (sets : List Int) (m : List (Int × Cel)) (s : BSt) (i : Nat) : (ofH (bxH b cells sets m s) i).isSome = true ↔ InBx i := by
  simp only [bxH, ofH, updH_apply, InBx]
  by_cases h0 : i = 0 <;> by_cases h1 : i = 1 <;> by_cases h2 : i = 2 <;> by_cases h4 : i = 4 <;> by_cases h5 : i = 5 <;> by_cases h6 : i = 6 <;> by_cases h7 : i = 7 <;> simp [h0, h1, h2, h4, h5, h6, h7]
theorem chFn_nms : Nms InBx chFn := .fn _ _ _ (fun _ h => nomatch h) (allC (.ref _ _ (by simp [InBx])) (allC (.ref _ _ (by simp [InBx])) (allC (.ref _ _ (by simp [InBx])) (allC (.ref _ _ (by simp [InBx])) (allC (.ref _ _ (by simp [InBx])) (all1 (.ref _ _ (by simp [InBx]))))))))
theorem bxH_nms (b : Bool) (cells : List Cel) (sets : List Int) (m : List (Int × Cel)) (s : BSt) (i : Nat) (bx : B) (h : ofH (bxH b cells sets m s) i = some bx) : InBx i ∧ NmsB InBx bx := by
  refine ⟨(bxH_dom b cells sets m s i).1 (by rw [h]; rfl), ?_⟩
  simp only [bxH, ofH, updH_apply] at h
  split at h
  · cases h; exact .cells _ (all1 (outA_free _).nms)
  · split at h
    · cases h; exact .cells _ (all1 (.s _))
    · split at h
      · cases h; exact .cells _ (all1 (.s _))
      · split at h
        · cases h; exact .cells _ (all1 (free_ints _ _ _).nms)
        · split at h
          · cases h; exact .map _ fun p hp => ⟨(encMB_free m p hp).1.nms, (encMB_free m p hp).2.nms⟩
          · split at h
            · cases h; exact .cells _ (allC (free_map Cel.free _ _ _).nms (all1 (.mp _ (by simp [InBx]))))
            · split at h
              · cases h; exact .cells _ (all1 chFn_nms)
              · cases h
def BxPost (b : Bool) (cells : List Cel) (sets : List Int) (R : BSt) (v : A) (H' : Hp) (_ : Nat) : Prop := v = .tup [] ∧ ∃ m', MemoOk cells m' ∧ H' = ofH (bxH b cells sets m' R)
abbrev bxArgs (x : A) (y : Int) (many : Int) : List A := [x, .agg [.int y], .int many, .ref 6 0, .ref 1 0, .ref 2 0, .ref 0 0, .ref 4 0, .ref 7 0]
theorem bx_frame {b : Bool} {cells : List Cel} {sets : List Int} {l : List Int} {x : A} {y many : Int} {m : List (Int × Cel)} {s R : BSt} (hx : x = outA l) (h : SCall Try.prog 40 (bxArgs x y many) (ofH (bxH b cells sets m s)) 8 (BxPost b cells sets R)) {H : Hp} {c : Nat} (hH : HasH H (bxH b cells sets m s)) :
    SCall Try.prog 40 (bxArgs x y many) H c fun v H1 c1 => v = .tup [] ∧ c1 = c ∧ ∃ m', MemoOk cells m' ∧ H1 = overH H (ofH (bxH b cells sets m s)) (ofH (bxH b cells sets m' R)) := by
  subst hx
  have dn : (fun i => (ofH (bxH b cells sets m s) i).isSome = true) = InBx := by funext i; exact propext (bxH_dom b cells sets m s i)
  refine (h.frame (H := H) (c := c) (fun id bx hb => ?_) (fun id bx hb => ?_) ?_ ?_).mono ?_
  · rcases (bxH_nms b cells sets m s id bx hb).1 with rfl | rfl | rfl | rfl | rfl | rfl | rfl <;> decide
  · rw [dn]; exact ⟨(bxH_nms b cells sets m s id bx hb).2, hH.ofH id bx hb⟩
  · rw [dn]
    exact allC (outA_free _).nms (allC (.agg _ (all1 (.s _))) (allC (.s _) (allC (.ref _ _ (by simp [InBx])) (allC (.ref _ _ (by simp [InBx])) (allC (.ref _ _ (by simp [InBx])) (allC (.ref _ _ (by simp [InBx])) (allC (.ref _ _ (by simp [InBx])) (all1 (.ref _ _ (by simp [InBx]))))))))))
  · rintro v H' c' ⟨rfl, m', hm', rfl⟩
    rw [dn]
    refine ⟨.tup _ (fun _ h => nomatch h), fun id bx hb => ?_⟩
    have := bxH_nms b cells sets m' R id bx hb
    exact ⟨(bxH_dom b cells sets m s id).2 this.1, this.2⟩
  · rintro v H1 c1 ⟨H', c', ⟨rfl, m', hm', rfl⟩, h2, h3⟩
    exact ⟨rfl, h3, m', hm', h2⟩
theorem better_is (n : Cel) (s : BSt) : cond (decide (n.sp > s.sp)) true (cond (n.sp == s.sp) (decide (n.la < s.la)) false) = better n s := by
  unfold better
  have e : (n.sp == s.sp) = decide (n.sp = s.sp) := by rw [Bool.eq_iff_iff, beq_iff_eq, decide_eq_true_eq]
  rw [e, c_or, c_and]
theorem chooseB_t (b : Bool) (cells : List Cel) (hc : CelsIn cells) (sets : List Int) (hs8 : sets.length ≤ 8) : ∀ (f : Nat) (l : List Int) (x : Int) (m : List (Int × Cel)) (s : BSt) (many : Nat), l.length + f = many → many ≤ 8 → (∀ i ∈ l, 0 ≤ i ∧ i < sets.length) → MemoOk cells m →
    SCall Try.prog 40 (bxArgs (outA l) x many) (ofH (bxH b cells sets m s)) 8 (BxPost b cells sets (bxF cells sets f l x s)) := by
  intro f
  induction f with
  | zero =>
    intro l x m s many hlen hm hl hgood
    have hch : bxF cells sets 0 l x s = if better (spareF cells x) s then ⟨l, (spareF cells x).sp, (spareF cells x).la⟩ else s := rfl
    rw [hch]
    have hbe := better_is (spareF cells x) s
    have hsp := fun (m : List (Int × Cel)) hm {H : Hp} {c : Nat} hH => spared_frame b cells hc x m hm (H := H) (c := c) hH
    generalize spareF cells x = n at *
    generalize hR : (if better n s then (⟨l, n.sp, n.la⟩ : BSt) else s) = R
    have hli := ints_lenI l
    refine SCall.drop (post := fun v H' _ => v = .tup [] ∧ ∃ m', MemoOk cells m' ∧ HasH H' (bxH b cells sets m' R)) (SCall.of_bodyN tab_ok Try.func40 rfl Try.ntmps40 (Nat.le_of_ble_eq_true rfl) (allC (fun _ => by cases l <;> rfl) (allC (fun _ => rfl) (allC (fun _ => rfl) (allC (fun _ => rfl) (allC (fun _ => rfl) (allC (fun _ => rfl) (allC (fun _ => rfl) (allC (fun _ => rfl) (all1 fun _ => rfl))))))))) fun E hE => ?_)
      (fun v H' c' h => by obtain ⟨h1, m', h2, h3⟩ := h; exact ⟨_, h3.ofH, h1, m', h2, rfl⟩)
    have hE8 : ∀ id, 8 ≤ id → E.φ0 id = none := hE
    cases l with
    | nil =>
      refine Aw.sm tab_ok mb0 [] rfl rfl ?zo ?zk
      case zo =>
        repeat' apply AllP.cons
        all_goals first | exact trivial
      case zk =>
      refine Aw.seq ?_
      refine Aw.sm tab_ok mb0 [] rfl rfl ?zo ?zk
      case zo =>
        repeat' apply AllP.cons
        all_goals first | exact trivial
      case zk =>
      refine Aw.cond rfl (fun _ => ?_) (fun h2 => ?_)
      · refine Aw.seq (Aw.region rfl ?_)
        refine RegL.partE tab_ok mb0 false 2 0 [] ?_
        conv => arg 5; whnf
        refine PartK.mk ?zo ?zk
        case zo =>
          repeat' apply AllP.cons
          all_goals first | exact trivial | exact Nat.le_of_ble_eq_true rfl
        case zk =>
        refine Does.raw rfl (DoesR.call (fst := []) (cap := []) rfl rfl (enters_of Try.func41 rfl rfl) (hsp m hgood (H := _) (c := _) ⟨rfl, trivial⟩) ?_)
        rintro v H' c' ⟨rfl, rfl, m', hm', rfl⟩
        refine RegL.partE tab_ok mb0 false 9 3 [] ?_
        conv => arg 5; whnf
        refine PartK.mk ?zo ?zk
        case zo =>
          repeat' apply AllP.cons
          all_goals first | exact trivial | exact rfl | exact Nat.le_of_ble_eq_true rfl
        case zk =>
        refine Aw.keep (n := 9) (cst := [(0, .sl true .exact []), (4, .ref 1 0), (5, .ref 2 0), (6, .ref 0 0), (12, .ref 8 0)]) (v := []) (Hl := (8, .cells n.c) :: bxH b cells sets m' s) (fun i h => hE8 i (by omega)) ⟨(free_ints _ _ []).under, .ref _ _ (by decide), .ref _ _ (by decide), .ref _ _ (by decide), .ref _ _ (by decide), trivial⟩ trivial ⟨⟨by decide, .cells _ (allC (.s _) (all1 (.s _)))⟩, bxH_under b cells sets m' s (by decide)⟩
          ⟨⟨.refl _, .refl _, .refl _, .refl _, .refl _, trivial⟩, trivial, ⟨rfl, rfl, rfl, rfl, rfl, rfl, rfl, rfl, trivial⟩, Nat.le_of_ble_eq_true rfl⟩ ?_
        refine Aw.seq ?_
        refine Aw.sm tab_ok mb0 [] rfl rfl ?zo ?zk
        case zo =>
          repeat' apply AllP.cons
          all_goals first | exact trivial | exact id | exact fun _ => rfl | exact Nat.le_of_ble_eq_true rfl | exact fun _ => Nat.le_of_ble_eq_true rfl | exact gq_f | exact fun h1 h2 => gq_c h1 h2 | exact fun _ _ => rfl
        case zk =>
        refine Aw.cond rfl (fun h2 => ?_) (fun h2 => Aw.skip ?_)
        · have h2' : better n s = true := hbe.symm.trans h2
          rw [if_pos h2'] at hR
          subst hR
          refine Aw.ed tab_ok mixed mb0 [] rfl (by kernel_rfl) rfl rfl ?zo ?zk
          case zo =>
            repeat' apply AllP.cons
            all_goals first | exact trivial | exact rfl | exact Nat.le_of_ble_eq_true rfl
          case zk =>
          exact Aw.ret ⟨_, .nil, rfl, m', hm', ⟨rfl, rfl, rfl, rfl, rfl, rfl, rfl, trivial⟩⟩
        · have h2' : better n s = false := hbe.symm.trans h2
          rw [h2'] at hR
          subst hR
          exact Aw.ret ⟨_, .nil, rfl, m', hm', ⟨rfl, rfl, rfl, rfl, rfl, rfl, rfl, trivial⟩⟩
      · have h2 : (((([] : List (List A)).length : Nat) : Int) == many) = false := h2
        have h3 : (((([] : List (List A)).length : Nat) : Int) == many) = true := by rw [beq_iff_eq]; simp at hlen ⊢; omega
        rw [h3] at h2; cases h2
    | cons z l =>
      refine Aw.sm tab_ok mb0 [] rfl rfl ?zo ?zk
      case zo =>
        repeat' apply AllP.cons
        all_goals first | exact trivial
      case zk =>
      refine Aw.seq ?_
      refine Aw.sm tab_ok mb0 [] rfl rfl ?zo ?zk
      case zo =>
        repeat' apply AllP.cons
        all_goals first | exact trivial
      case zk =>
      refine Aw.cond rfl (fun _ => ?_) (fun h2 => ?_)
      · refine Aw.seq (Aw.region rfl ?_)
        refine RegL.partE tab_ok mb0 false 2 0 [] ?_
        conv => arg 5; whnf
        refine PartK.mk ?zo ?zk
        case zo =>
          repeat' apply AllP.cons
          all_goals first | exact trivial | exact Nat.le_of_ble_eq_true rfl
        case zk =>
        refine Does.raw rfl (DoesR.call (fst := []) (cap := []) rfl rfl (enters_of Try.func41 rfl rfl) (hsp m hgood (H := _) (c := _) ⟨rfl, trivial⟩) ?_)
        rintro v H' c' ⟨rfl, rfl, m', hm', rfl⟩
        refine RegL.partE tab_ok mb0 false 9 3 [] ?_
        conv => arg 5; whnf
        refine PartK.mk ?zo ?zk
        case zo =>
          repeat' apply AllP.cons
          all_goals first | exact trivial | exact rfl | exact Nat.le_of_ble_eq_true rfl
        case zk =>
        refine Aw.keep (n := 9) (cst := [(0, .sl false .any (ints (z :: l))), (4, .ref 1 0), (5, .ref 2 0), (6, .ref 0 0), (12, .ref 8 0)]) (v := []) (Hl := (8, .cells n.c) :: bxH b cells sets m' s) (fun i h => hE8 i (by omega)) ⟨(free_ints _ _ (z :: l)).under, .ref _ _ (by decide), .ref _ _ (by decide), .ref _ _ (by decide), .ref _ _ (by decide), trivial⟩ trivial ⟨⟨by decide, .cells _ (allC (.s _) (all1 (.s _)))⟩, bxH_under b cells sets m' s (by decide)⟩
          ⟨⟨.refl _, .refl _, .refl _, .refl _, .refl _, trivial⟩, trivial, ⟨rfl, rfl, rfl, rfl, rfl, rfl, rfl, rfl, trivial⟩, Nat.le_of_ble_eq_true rfl⟩ ?_
        refine Aw.seq ?_
        refine Aw.sm tab_ok mb0 [] rfl rfl ?zo ?zk
        case zo =>
          repeat' apply AllP.cons
          all_goals first | exact trivial | exact id | exact fun _ => rfl | exact Nat.le_of_ble_eq_true rfl | exact fun _ => Nat.le_of_ble_eq_true rfl | exact gq_f | exact fun h1 h2 => gq_c h1 h2 | exact fun _ _ => rfl
        case zk =>
        refine Aw.cond rfl (fun h2 => ?_) (fun h2 => Aw.skip ?_)
        · have h2' : better n s = true := hbe.symm.trans h2
          rw [if_pos h2'] at hR
          subst hR
          refine Aw.ed tab_ok mixed mb0 [] rfl (by kernel_rfl) rfl rfl ?zo ?zk
          case zo =>
            repeat' apply AllP.cons
            all_goals first | exact trivial | exact rfl | exact Nat.le_of_ble_eq_true rfl
          case zk =>
          exact Aw.ret ⟨_, .nil, rfl, m', hm', ⟨rfl, rfl, rfl, rfl, rfl, rfl, rfl, trivial⟩⟩
        · have h2' : better n s = false := hbe.symm.trans h2
          rw [h2'] at hR
          subst hR
          exact Aw.ret ⟨_, .nil, rfl, m', hm', ⟨rfl, rfl, rfl, rfl, rfl, rfl, rfl, trivial⟩⟩
      · have h2 : (((ints (z :: l)).length : Int) == many) = false := h2
        have h3 : (((ints (z :: l)).length : Int) == many) = true := by rw [beq_iff_eq]; omega
        rw [h3] at h2; cases h2
  | succ f ih =>
    intro l x m s many hlen hm hl hgood
    have hch : bxF cells sets (f + 1) l x s = bxGo (bxF cells sets f) sets l x ((List.range sets.length).drop (Q.fromB l)) s := rfl
    rw [hch]
    generalize hR : bxGo (bxF cells sets f) sets l x ((List.range sets.length).drop (Q.fromB l)) s = R
    have hol : ∀ {n : Nat}, Under n (outA l) := (outA_free l).under
    have ux : ∀ {n}, Under n (A.pt [A.int x]) := .pt _ (all1 (.s _))
    have hfn : Q.fromB l ≤ sets.length := by
      unfold Q.fromB
      cases e : l.getLast? with
      | none => exact Nat.zero_le _
      | some y => have := hl y (List.mem_of_getLast? e); show (y + 1).toNat ≤ _; omega
    refine SCall.drop (post := fun v H' _ => v = .tup [] ∧ ∃ m', MemoOk cells m' ∧ HasH H' (bxH b cells sets m' R)) (SCall.of_bodyN tab_ok Try.func40 rfl Try.ntmps40 (Nat.le_of_ble_eq_true rfl) (allC (fun _ => by cases l <;> rfl) (allC (fun _ => rfl) (allC (fun _ => rfl) (allC (fun _ => rfl) (allC (fun _ => rfl) (allC (fun _ => rfl) (allC (fun _ => rfl) (allC (fun _ => rfl) (all1 fun _ => rfl))))))))) fun E hE => ?_)
      (fun v H' c' h => by obtain ⟨h1, m', h2, h3⟩ := h; exact ⟨_, h3.ofH, h1, m', h2, rfl⟩)
    have h8E : ∀ id, 8 ≤ id → E.φ0 id = none := hE
    have zset := ints_lenI sets
    refine Aw.sm tab_ok mb0 [] rfl rfl ?zo ?zk
    case zo =>
      repeat' apply AllP.cons
      all_goals first | exact trivial
    case zk =>
    have uc : UnderL 8 [(0, outA l), (2, .int many), (7, .ref 4 0), (8, .ref 7 0), (10, .pt [.int x])] := ⟨hol, .s _, .ref _ _ (by decide), .ref _ _ (by decide), ux, trivial⟩
    refine Aw.join1 8 h8E [(0, outA l), (2, .int many), (7, .ref 4 0), (8, .ref 7 0), (10, .pt [.int x])] [] (bxH b cells sets m s) uc trivial (bxH_under b cells sets m s (Nat.le_refl _)) ?_ ?_
    · cases l with
      | nil =>
        refine Aw.sm tab_ok mb0 [] rfl rfl ?zo ?zk
        case zo =>
          repeat' apply AllP.cons
          all_goals first | exact trivial
        case zk =>
        refine Aw.cond rfl (fun h2 => ?_) (fun _ => Aw.skip ⟨⟨.refl _, .refl _, .refl _, .refl _, .refl _, trivial⟩, trivial, ⟨rfl, rfl, rfl, rfl, rfl, rfl, rfl, trivial⟩, Nat.le_refl _⟩)
        have h2 : (((([] : List (List A)).length : Nat) : Int) == many) = true := h2
        simp at h2; omega
      | cons z l =>
        refine Aw.sm tab_ok mb0 [] rfl rfl ?zo ?zk
        case zo =>
          repeat' apply AllP.cons
          all_goals first | exact trivial
        case zk =>
        refine Aw.cond rfl (fun h2 => ?_) (fun _ => Aw.skip ⟨⟨.refl _, .refl _, .refl _, .refl _, .refl _, trivial⟩, trivial, ⟨rfl, rfl, rfl, rfl, rfl, rfl, rfl, trivial⟩, Nat.le_refl _⟩)
        have h2 : ((((ints (z :: l)).length : Nat) : Int) == many) = true := h2
        simp [ints] at h2
        simp at hlen; omega
    refine Aw.sm tab_ok mb0 [] rfl rfl ?zo ?zk
    case zo =>
      repeat' apply AllP.cons
      all_goals first | exact trivial
    case zk =>
    refine Aw.join1 8 h8E [(0, outA l), (2, .int many), (7, .ref 4 0), (8, .ref 7 0), (10, .pt [.int x])] [(13, .int (Q.fromB l))] (bxH b cells sets m s) uc ⟨.s _, trivial⟩ (bxH_under b cells sets m s (Nat.le_refl _)) ?_ ?_
    · cases l with
      | nil =>
        refine Aw.sm tab_ok mb0 [] rfl rfl ?zo ?zk
        case zo =>
          repeat' apply AllP.cons
          all_goals first | exact trivial
        case zk =>
        exact Aw.cond rfl (fun h2 => by cases h2) (fun _ => Aw.skip ⟨⟨.refl _, .refl _, .refl _, .refl _, .refl _, trivial⟩, ⟨.refl _, trivial⟩, ⟨rfl, rfl, rfl, rfl, rfl, rfl, rfl, trivial⟩, Nat.le_refl _⟩)
      | cons z l =>
        generalize hL : z :: l = L at *
        have hLl : L.length ≤ 8 ∧ 0 < L.length := by rw [← hL]; simp; rw [← hL] at hlen; simp at hlen; omega
        obtain ⟨y, hy⟩ : ∃ y, L[L.length - 1]? = some y := ⟨L[L.length - 1]'(by omega), by simp [show L.length - 1 < L.length by omega]⟩
        have hyb := hl y (List.mem_of_getElem? hy)
        have hfy : A.int (Q.fromB L) = .int (y + 1) := by
          unfold Q.fromB; rw [List.getLast?_eq_getElem?, hy]
          show A.int (((y + 1).toNat : Nat) : Int) = _
          rw [Int.toNat_of_nonneg (by omega)]
        have hlz : ((ints L).length : Int) = L.length := by simp [ints]
        have hyi : (ints L)[Int.toNat (((ints L).length : Int) - 1)]? = some [.int y] := by
          have : Int.toNat (((ints L).length : Int) - 1) = L.length - 1 := by omega
          rw [this]; simp [ints, hy]
        have hoL : outA L = .sl false .any (ints L) := by rw [← hL]; rfl
        rw [hoL]
        refine Aw.sm tab_ok mb0 [] rfl rfl ?zo ?zk
        case zo =>
          repeat' apply AllP.cons
          all_goals first | exact trivial
        case zk =>
        refine Aw.cond rfl (fun _ => ?_) (fun h2 => ?_)
        · refine Aw.em tab_ok mb0 [(4, [.int y])] rfl rfl ?zo ?zk
          case zo =>
            repeat' apply AllP.cons
            all_goals first | exact trivial | exact rfl | exact Nat.le_of_ble_eq_true rfl | exact hyi | exact (by simp only [Ob.of, inR]; omega)
          case zk =>
          exact ⟨⟨.refl _, .refl _, .refl _, .refl _, .refl _, trivial⟩, ⟨.of_eq hfy, trivial⟩, ⟨rfl, rfl, rfl, rfl, rfl, rfl, rfl, trivial⟩, Nat.le_of_ble_eq_true rfl⟩
        · have h2 : decide (((ints L).length : Int) > 0) = false := h2
          have := of_decide_eq_false h2; omega
    refine Aw.sm tab_ok mb0 [] rfl rfl ?zo ?zk
    case zo =>
      repeat' apply AllP.cons
      all_goals first | exact trivial
    case zk =>
    refine Aw.block (Aw.rounds (ι := Nat × List (Int × Cel) × BSt) 8 h8E [(0, outA l), (2, .int many), (7, .ref 4 0), (8, .ref 7 0), (10, .pt [.int x])] (fun i => [(14, .int i.1)]) (fun i => bxH b cells sets i.2.1 i.2.2)
      (fun i => i.1 ≤ sets.length ∧ MemoOk cells i.2.1 ∧ bxGo (bxF cells sets f) sets l x ((List.range sets.length).drop i.1) i.2.2 = R) (fun i => sets.length - i.1) (Q.fromB l, m, s)
      ⟨hfn, hgood, hR⟩ ⟨⟨.refl _, .refl _, .refl _, .refl _, .refl _, trivial⟩, ⟨.refl _, trivial⟩, ⟨rfl, rfl, rfl, rfl, rfl, rfl, rfl, trivial⟩, Nat.le_refl _⟩ uc (fun _ _ => ⟨.s _, trivial⟩) (fun i _ => bxH_under b cells sets i.2.1 i.2.2 (Nat.le_refl _)) ?_)
    rintro ⟨i, m2, s2⟩ ⟨hi, hgood2, hrun⟩
    simp only at hi hgood2 hrun
    refine Aw.seq ?_
    refine Aw.sm tab_ok mb0 [] rfl rfl ?zo ?zk
    case zo =>
      repeat' apply AllP.cons
      all_goals first | exact trivial | exact Nat.le_of_ble_eq_true rfl
    case zk =>
    refine Aw.cond rfl (fun h2 => Aw.skip ?_) (fun h2 => ?_)
    · have hlt : i < sets.length := by have := of_decide_eq_true h2; omega
      have hdr : (List.range sets.length).drop i = i :: (List.range sets.length).drop (i + 1) := range_drop hlt
      rw [hdr, bxGo] at hrun
      have hz8 : (ints l).length ≤ 8 := by simp [ints]; omega
      have hgi : (ints sets)[Int.toNat (i : Int)]? = some [.int (sets.getD i 0)] := ints_getD hlt
      have hcall := ih (l ++ [(i : Int)]) (ior x (sets.getD i 0)) m2 s2 many (by simp; omega) hm (fun j hj => by
        rcases List.mem_append.1 hj with h | h
        · exact hl j h
        · simp at h; subst h; omega) hgood2
      generalize bxF cells sets f (l ++ [(i : Int)]) (ior x (sets.getD i 0)) s2 = s3 at *
      generalize sets.getD i 0 = si at *
      have hone : ∀ z ∈ [[A.int (i : Int)]], z.length = 1 := fun z hz => by simp at hz; subst hz; rfl
      have hzs : ∀ z ∈ ints l, z.length = 1 := ints_one l
      refine Aw.seq (Aw.block (SegW.start mixed ?_))
      cases l with
      | nil =>
        refine SegW.run (b := 0) tab_ok mb0 20 [(14, [.int si])] rfl (by kernel_rfl) rfl rfl ?zo ?zk
        case zo =>
          repeat' apply AllP.cons
          all_goals first | exact trivial | exact id | exact rfl | exact Nat.le_of_ble_eq_true rfl | exact hone | exact Int.le_refl _ | exact hgi | exact Int.natCast_nonneg _ | trace_state
        case zk =>
        refine SegW.step rfl (by kernel_rfl) rfl (fun i h1 h2 => by have h2 : i < 21 := h2; omega) (Does.raw rfl (DoesR.call (fst := []) (cap := [.ref 6 0, .ref 1 0, .ref 2 0, .ref 0 0, .ref 4 0, .ref 7 0]) rfl rfl (enters_of Try.func40 rfl rfl) (bx_frame (l := [] ++ [(i : Int)]) rfl hcall (H := _) (c := _) ⟨rfl, rfl, rfl, rfl, rfl, rfl, rfl, trivial⟩) ?_))
        rintro v H' c' ⟨rfl, rfl, m3, hgood3, rfl⟩
        refine SegW.done (by kernel_rfl) (Nat.le_of_ble_eq_true rfl) ?_
        refine Aw.em tab_ok mb0 [] rfl rfl ?zo ?zk
        case zo =>
          repeat' apply AllP.cons
          all_goals first | exact trivial | exact inrk i (by omega)
        case zk =>
        exact ⟨(i + 1, m3, s3), ⟨hlt, hgood3, hrun⟩, by show sets.length - (i + 1) < sets.length - i; omega, ⟨.refl _, .refl _, .refl _, .refl _, .refl _, trivial⟩, ⟨.refl _, trivial⟩, ⟨rfl, rfl, rfl, rfl, rfl, rfl, rfl, trivial⟩, Nat.le_of_ble_eq_true rfl⟩
      | cons z l =>
        have hL : outA (z :: l) = .sl false .any (ints (z :: l)) := rfl
        generalize hgl : z :: l = L at *
        rw [hL]
        have ht : (ints L).take (Int.toNat ((ints L).length : Int)) = ints L := by rw [Int.toNat_natCast, List.take_length]
        have hres : outA (L ++ [(i : Int)]) = .sl false .any ((ints L).take (Int.toNat ((ints L).length : Int)) ++ [[A.int (i : Int)]]) := by
          rw [ht, ← hgl]; simp [ints, outA]
        rw [hres] at hcall
        have hb1 : ∀ z ∈ (ints L).take (Int.toNat ((ints L).length : Int)) ++ [[A.int (i : Int)]], z.length = 1 := fun z hz => by
          rw [ht] at hz
          rcases List.mem_append.1 hz with h | h
          · exact hzs z h
          · exact hone z h
        have hb2 : (((ints L).take (Int.toNat ((ints L).length : Int))).length + 1) * 8 ≤ 140737488355328 := by rw [ht]; omega
        have hb3 : ((ints L).take (Int.toNat ((ints L).length : Int))).length + 1 ≤ maxLen := by rw [ht]; unfold maxLen; omega
        refine SegW.run (b := 0) tab_ok mb0 20 [(14, [.int si])] rfl (by kernel_rfl) rfl rfl ?zo ?zk
        case zo =>
          repeat' apply AllP.cons
          all_goals first | exact trivial | exact id | exact rfl | exact Nat.le_of_ble_eq_true rfl | exact hb1 | exact hb2 | exact hb3 | exact hgi | exact Int.natCast_nonneg _ | exact Int.le_refl _
        case zk =>
        refine SegW.step rfl (by kernel_rfl) rfl (fun i h1 h2 => by have h2 : i < 21 := h2; omega) (Does.raw rfl (DoesR.call (fst := []) (cap := [.ref 6 0, .ref 1 0, .ref 2 0, .ref 0 0, .ref 4 0, .ref 7 0]) rfl rfl (enters_of Try.func40 rfl rfl) (bx_frame hres.symm hcall (H := _) (c := _) ⟨rfl, rfl, rfl, rfl, rfl, rfl, rfl, trivial⟩) ?_))
        rintro v H' c' ⟨rfl, rfl, m3, hgood3, rfl⟩
        refine SegW.done (by kernel_rfl) (Nat.le_of_ble_eq_true rfl) ?_
        refine Aw.em tab_ok mb0 [] rfl rfl ?zo ?zk
        case zo =>
          repeat' apply AllP.cons
          all_goals first | exact trivial | exact inrk i (by omega)
        case zk =>
        exact ⟨(i + 1, m3, s3), ⟨hlt, hgood3, hrun⟩, by show sets.length - (i + 1) < sets.length - i; omega, ⟨.refl _, .refl _, .refl _, .refl _, .refl _, trivial⟩, ⟨.refl _, trivial⟩, ⟨rfl, rfl, rfl, rfl, rfl, rfl, rfl, trivial⟩, Nat.le_of_ble_eq_true rfl⟩
    · have hend : i = sets.length := by have := of_decide_eq_false h2; omega
      subst hend
      rw [range_end, bxGo] at hrun
      subst hrun
      exact Aw.exit2 ⟨_, .nil, rfl, m2, hgood2, ⟨rfl, rfl, rfl, rfl, rfl, rfl, rfl, trivial⟩⟩
end Go.Proofs.Ytkfepnbanekfgaa

namespace Go.Proofs.Ytkfepnbanekfgaa
open Go Go.AL Go.AL.Q
theorem ints_rows (l : List Int) : RowsAre (l.map A.int) (ints l) 1 := ⟨ints_one l, by rw [ints_len, List.length_map]; omega, fun i j hi hj => by
  obtain rfl : j = 0 := by omega
  rw [ints_len] at hi
  simp [ints, List.getD_eq_getElem?_getD, hi, A.down]⟩
theorem zeros_is (n : Nat) : ((List.range (n * 1)).map fun j => ([A.s (.int .i64 0)] : List A).getD (j % 1) .un).map A.down = (List.replicate n (0 : Int)).map A.int := by
  rw [Nat.mul_one]
  have h : ∀ j : Nat, ([A.s (.int .i64 0)] : List A).getD (j % 1) .un = A.int 0 := fun j => by
    have : j % 1 = 0 := by omega
    rw [this]; rfl
  simp only [h]
  rw [List.map_const', List.length_range, List.map_replicate, List.map_replicate]; rfl
def setsN (boxes : List NL) (k : Nat) : List Int := (boxes.take k).map (fun b => setOf b.l) ++ List.replicate (boxes.length - k) 0
theorem setsN_len (boxes : List NL) (k : Nat) (h : k ≤ boxes.length) : (setsN boxes k).length = boxes.length := by simp [setsN]; omega
theorem setsN_get (boxes : List NL) (k : Nat) (h : k < boxes.length) : (setsN boxes k).getD k 0 = 0 := by
  unfold setsN
  have hl : ((boxes.take k).map (fun b => setOf b.l)).length = k := by simp; omega
  rw [List.getD_eq_getElem?_getD, List.getElem?_append_right (by omega), hl, Nat.sub_self]
  rw [List.getElem?_replicate]; split <;> rfl
theorem setsN_succ (boxes : List NL) (k : Nat) (h : k < boxes.length) : (setsN boxes k).set k (setOf boxes[k].l) = setsN boxes (k + 1) := by
  unfold setsN
  have hl : ((boxes.take k).map (fun b => setOf b.l)).length = k := by simp; omega
  rw [List.set_append_right _ _ (by omega), hl, Nat.sub_self, List.take_succ_eq_append_getElem h, List.map_append]
  have e : boxes.length - k = (boxes.length - (k + 1)) + 1 := by omega
  rw [e, List.replicate_succ, List.set_cons_zero, List.append_assoc]; rfl
theorem setsN_full (boxes : List NL) : setsN boxes boxes.length = setsOf boxes := by
  unfold setsN setsOf; rw [List.take_length, Nat.sub_self, List.replicate_zero, List.append_nil]
theorem foldl_take_succ {α : Type} (f : Int → α → Int) (l : List α) (k : Nat) (h : k < l.length) (a : Int) : (l.take (k + 1)).foldl f a = f ((l.take k).foldl f a) l[k] := by
  rw [List.take_succ_eq_append_getElem h, List.foldl_append]; rfl
theorem Boxes_t (p q : Bool) (cells : List Cel) (boxes : List NL) (most : Int) (hcl : (cells.length : Int) ≤ 9223372036854775806) (hbl : (boxes.length : Int) ≤ 5900000000000) (hbf : ∀ b ∈ boxes, nlFit b) :
    Ans Try.prog 18 [.sl p .any (cells.map Cel.c), .sl q .any (boxes.map NL.c), .int most] (.tup (boxR cells boxes most)) := by
  have hfr : Free (.tup (boxR cells boxes most)) := .tup _ (by
    have h4 : ∀ (l : List Int) (a b c : Int), ∀ x ∈ [outA l, .int a, .int b, .int c], Free x := fun _ _ _ _ => allC (outA_free _) (allC (.s _) (allC (.s _) (all1 (.s _))))
    unfold boxR
    split
    · split <;> exact h4 _ _ _ _
    · exact h4 _ _ _ _)
  have zc : ((cells.map Cel.c).length : Int) = cells.length := by simp
  have zb : ((boxes.map NL.c).length : Int) = boxes.length := by simp
  have fc : Free (.sl p .any (cells.map Cel.c)) := free_map Cel.free _ _ _
  have fb : Free (.sl q .any (boxes.map NL.c)) := free_map NL.free _ _ _
  refine told Try.func18 rfl rfl (Pure.of tab_ok Try.func18 rfl Try.ntmps18 rfl (allC (fc) (allC (fb) (all1 (.s _)))) (allC (fun _ => rfl) (allC (fun _ => rfl) (all1 (fun _ => rfl)))) (by first | exact .s _ | assumption | exact .tup _ (by intro x hx; simp only [List.mem_cons, List.not_mem_nil, or_false] at hx; rcases hx with rfl | rfl | rfl | rfl <;> first | exact .s _ | (simp_all; done))) fun E hE => ?_)
  have hE3 : ∀ id, 3 ≤ id → E.φ0 id = none := fun id h => hE id (by omega)
  have hE5 : ∀ id, 5 ≤ id → E.φ0 id = none := fun id h => hE id (by omega)
  have hE8 : ∀ id, 8 ≤ id → E.φ0 id = none := fun id h => hE id (by omega)
  have un0 : ∀ {n}, UnderB n (.cells [A.sl true .exact []]) := .cells _ (all1 (nil_under _ _))
  have ui0 : ∀ {n} {x : Int}, UnderB n (.cells [A.int x]) := .cells _ (all1 (.s _))
  refine Aw.sm tab_ok mb0 [] rfl rfl ?zo ?zk
  case zo =>
    repeat' apply AllP.cons
    all_goals first | exact trivial
  case zk =>
  refine Aw.sm tab_ok mb0 [] rfl rfl ?zo ?zk
  case zo =>
    repeat' apply AllP.cons
    all_goals first | exact trivial | exact id | exact fun _ => rfl
  case zk =>
  generalize hb0 : cond (decide (((cells.map Cel.c).length : Int) ≤ 12)) (decide (((boxes.map NL.c).length : Int) ≤ 8)) false = b0
  have hb0' : b0 = cond (decide ((cells.length : Int) ≤ 12)) (decide ((boxes.length : Int) ≤ 8)) false := by rw [← hb0, zc, zb]
  refine Aw.seq ?_
  refine Aw.sm tab_ok mb0 [] rfl rfl ?zo ?zk
  case zo =>
    repeat' apply AllP.cons
    all_goals first | exact trivial
  case zk =>
  refine Aw.block (Aw.rounds (ι := Nat) 3 hE3 [(0, .sl p .any (cells.map Cel.c)), (1, .sl q .any (boxes.map NL.c)), (2, .int most), (6, .ref 0 0), (7, .ref 1 0), (8, .ref 2 0), (30, .sl p .any (cells.map Cel.c)), (31, .int (cells.map Cel.c).length)] (fun k => [(10, .bool (andAll b0 celOk cells k)), (32, .int k)]) (fun _ => [(0, .cells [.sl true .exact []]), (1, .cells [.int 0]), (2, .cells [.int 0])]) (fun k => k ≤ cells.length) (fun k => cells.length - k) 0
    (Nat.zero_le _) ⟨⟨.refl _, .refl _, .refl _, .refl _, .refl _, .refl _, .refl _, .refl _, trivial⟩, ⟨.of_eq (by rw [andAll_zero]; rfl), .refl _, trivial⟩, ⟨rfl, rfl, rfl, trivial⟩, Nat.le_refl _⟩ ⟨fc.under, fb.under, .s _, .ref _ _ (by decide), .ref _ _ (by decide), .ref _ _ (by decide), fc.under, .s _, trivial⟩ (fun _ _ => ⟨.s _, .s _, trivial⟩) (fun _ _ => ⟨⟨by decide, un0⟩, ⟨by decide, ui0⟩, ⟨by decide, ui0⟩, trivial⟩) fun k hk => ?_)
  refine Aw.sm tab_ok mb0 [] rfl rfl ?zo ?zk
  case zo =>
    repeat' apply AllP.cons
    all_goals first | exact trivial
  case zk =>
  refine Aw.seq (Aw.cond rfl (fun h1 => Aw.skip1 ?_) (fun h1 => Aw.exit2 ?_))
  · have hlt : k < cells.length := by have := of_decide_eq_true h1; omega
    have hstep := andAll_step (b := b0) (p := celOk) hlt
    have hg : (cells.map Cel.c)[k]? = some cells[k].c := get_map hlt
    generalize cells[k] = c at *
    refine Aw.seq (Aw.block ?_)
    refine Aw.sm tab_ok mb0 [(0, c.c)] rfl rfl ?zo ?zk
    case zo =>
      repeat' apply AllP.cons
      all_goals first | exact trivial | exact rfl | exact Nat.le_of_ble_eq_true rfl | exact Int.natCast_nonneg _ | exact hg
    case zk =>
    refine Aw.em tab_ok mb0 [(4, [.bool (wi c.sp 0 10000)]), (9, [.bool (wi c.la 0 10000)])] rfl rfl ?zo ?zk
    case zo =>
      repeat' apply AllP.cons
      all_goals first | exact trivial | exact id | exact fun _ => rfl | exact fun _ => Nat.le_of_ble_eq_true rfl | exact (within_t _ _ _).un
    case zk =>
    refine Aw.em tab_ok mb0 [] rfl rfl ?zo ?zk
    case zo =>
      repeat' apply AllP.cons
      all_goals first | exact trivial | exact inrk k (by omega)
    case zk =>
    exact ⟨k + 1, hlt, by omega, ⟨.refl _, .refl _, .refl _, .refl _, .refl _, .refl _, .refl _, .refl _, trivial⟩, ⟨.of_eq (show A.bool (andAll b0 celOk cells (k + 1)) = A.bool (cond (cond (andAll b0 celOk cells k) (wi c.sp 0 10000) false) (wi c.la 0 10000) false) by rw [hstep, cond_assoc]; rfl), .refl _, trivial⟩, ⟨rfl, rfl, rfl, trivial⟩, Nat.le_of_ble_eq_true rfl⟩
  have hle : k = cells.length := by have := of_decide_eq_false h1; omega
  subst hle
  rw [andAll_full]
  have hbok : boxesOk cells boxes = cond (cond b0 (cells.all celOk) false) (boxes.all fun b => risingF cells.length (-1) b.l) false := by rw [hb0']; rfl
  generalize hb1 : cond b0 (cells.all celOk) false = b1 at *
  have hb1i : b1 = true → CelsIn cells ∧ boxes.length ≤ 8 := fun h => by
    rw [← hb1, hb0'] at h
    have h1 := of_decide_eq_true (ac1 (ac1 h))
    have h2 := of_decide_eq_true (ac2 (ac1 h))
    have h3 := fun c hc => List.all_eq_true.1 (ac2 h) c hc
    refine ⟨⟨by omega, fun c hc => ?_, fun c hc => ?_⟩, by omega⟩
    · have := h3 c hc; unfold celOk at this; exact wi_iff.1 (ac1 this)
    · have := h3 c hc; unfold celOk at this; exact wi_iff.1 (ac2 this)
  refine Aw.sm tab_ok mb0 [] rfl rfl ?zo ?zk
  case zo =>
    repeat' apply AllP.cons
    all_goals first | exact trivial | exact rfl | exact Nat.le_of_ble_eq_true rfl | exact Int.natCast_nonneg _ | exact (show ((boxes.map NL.c).length : Int) ≤ (maxLen : Nat) by unfold maxLen; omega) | exact (show ((8 : Nat) : Int) * ((boxes.map NL.c).length : Int) ≤ 140737488355328 by omega)
  case zk =>
  have hzr : (((List.range (((boxes.map NL.c).length : Int).toNat * 1)).map fun j => ([A.s (.int .i64 0)] : List A).getD (j % 1) .un).map A.down) = (setsN boxes 0).map A.int := by
    rw [Int.toNat_natCast, List.length_map, zeros_is]; rfl
  have hnn : (((boxes.map NL.c).length : Int)).toNat = boxes.length := by omega
  refine Aw.keep (n := 5) (cst := [(0, .sl p .any (cells.map Cel.c)), (1, .sl q .any (boxes.map NL.c)), (2, .int most), (6, .ref 0 0), (7, .ref 1 0), (8, .ref 2 0), (10, .bool b1), (13, .ref 4 0)]) (v := []) (Hl := [(0, .cells [.sl true .exact []]), (1, .cells [.int 0]), (2, .cells [.int 0]), (3, .cells ((setsN boxes 0).map A.int)), (4, .cells [.ms 3 0 boxes.length])]) hE5 ⟨fc.under, fb.under, .s _, .ref _ _ (by decide), .ref _ _ (by decide), .ref _ _ (by decide), .s _, .ref _ _ (by decide), trivial⟩ trivial ⟨⟨by decide, un0⟩, ⟨by decide, ui0⟩, ⟨by decide, ui0⟩, ⟨by decide, cells_under _⟩, ⟨by decide, .cells _ (all1 (.ms _ _ _ (by decide)))⟩, trivial⟩
    ⟨⟨.refl _, .refl _, .refl _, .refl _, .refl _, .refl _, .refl _, .refl _, trivial⟩, trivial, ⟨rfl, rfl, rfl, congrArg (fun x => some (B.cells x)) hzr, congrArg (fun x => some (B.cells [.ms 3 0 x])) hnn, trivial⟩, Nat.le_of_ble_eq_true rfl⟩ ?_
  refine Aw.seq ?_
  refine Aw.sm tab_ok mb0 [] rfl rfl ?zo ?zk
  case zo =>
    repeat' apply AllP.cons
    all_goals first | exact trivial
  case zk =>
  refine Aw.block (Aw.rounds (ι := Nat) 5 hE5 [(0, .sl p .any (cells.map Cel.c)), (2, .int most), (6, .ref 0 0), (7, .ref 1 0), (8, .ref 2 0), (10, .bool b1), (13, .ref 4 0), (51, .sl q .any (boxes.map NL.c)), (52, .int (boxes.map NL.c).length)] (fun k => [(53, .int k)]) (fun k => [(0, .cells [.sl true .exact []]), (1, .cells [.int 0]), (2, .cells [.int 0]), (3, .cells ((setsN boxes k).map A.int)), (4, .cells [.ms 3 0 boxes.length])])
    (fun k => k ≤ boxes.length ∧ (boxes.take k).all (fun b => risingF cells.length (-1) b.l) = true) (fun k => boxes.length - k) 0
    ⟨Nat.zero_le _, rfl⟩ ⟨⟨.refl _, .refl _, .refl _, .refl _, .refl _, .refl _, .refl _, .refl _, .refl _, trivial⟩, ⟨.refl _, trivial⟩, ⟨rfl, rfl, rfl, rfl, rfl, trivial⟩, Nat.le_refl _⟩ ⟨fc.under, .s _, .ref _ _ (by decide), .ref _ _ (by decide), .ref _ _ (by decide), .s _, .ref _ _ (by decide), fb.under, .s _, trivial⟩ (fun _ _ => ⟨.s _, trivial⟩) (fun _ _ => ⟨⟨by decide, un0⟩, ⟨by decide, ui0⟩, ⟨by decide, ui0⟩, ⟨by decide, cells_under _⟩, ⟨by decide, .cells _ (all1 (.ms _ _ _ (by decide)))⟩, trivial⟩) ?_)
  rintro k ⟨hk, hall⟩
  refine Aw.sm tab_ok mb0 [] rfl rfl ?zo ?zk
  case zo =>
    repeat' apply AllP.cons
    all_goals first | exact trivial
  case zk =>
  refine Aw.seq (Aw.cond rfl (fun h1 => Aw.skip1 ?_) (fun h1 => Aw.exit2 ?_))
  · have hlt : k < boxes.length := by have := of_decide_eq_true h1; omega
    have hg : (boxes.map NL.c)[k]? = some boxes[k].c := get_map hlt
    have hfit : nlFit boxes[k] := hbf _ (List.getElem_mem hlt)
    have hsucc := setsN_succ boxes k hlt
    have hall2 := all_take_succ (p := fun b : NL => risingF cells.length (-1) b.l) hlt
    have hbad : risingF cells.length (-1) boxes[k].l = false → boxesOk cells boxes = false := fun h => by
      rw [hbok]
      have : (boxes.all fun b => risingF cells.length (-1) b.l) = false := by
        rw [List.all_eq_false]
        exact ⟨boxes[k], List.getElem_mem hlt, by rw [h]; simp⟩
      rw [this]; cases b1 <;> rfl
    generalize boxes[k] = bx at *
    have hl63 : (bx.l.length : Int) ≤ 9223372036854775806 := hfit
    have zl := ints_lenI bx.l
    have ul : ∀ {n}, Under n (A.sl bx.n .any (ints bx.l)) := (free_ints _ _ _).under
    have hsl := setsN_len boxes k hk
    refine Aw.seq (Aw.block ?_)
    refine Aw.sm tab_ok mb0 [(1, bx.c)] rfl rfl ?zo ?zk
    case zo =>
      repeat' apply AllP.cons
      all_goals first | exact trivial | exact rfl | exact Nat.le_of_ble_eq_true rfl | exact Int.natCast_nonneg _ | exact hg
    case zk =>
    refine Aw.sm tab_ok mb0 [] rfl rfl ?zo ?zk
    case zo =>
      repeat' apply AllP.cons
      all_goals first | exact trivial
    case zk =>
    refine Aw.sm tab_ok mb0 [] rfl rfl ?zo ?zk
    case zo =>
      repeat' apply AllP.cons
      all_goals first | exact trivial
    case zk =>
    refine Aw.block (Aw.rounds (ι := Nat × Int) 5 hE5 [(0, .sl p .any (cells.map Cel.c)), (2, .int most), (6, .ref 0 0), (7, .ref 1 0), (8, .ref 2 0), (10, .bool b1), (13, .ref 4 0), (14, .int k), (51, .sl q .any (boxes.map NL.c)), (52, .int (boxes.map NL.c).length), (53, .int k), (58, .sl bx.n .any (ints bx.l)), (59, .int (ints bx.l).length)] (fun i => [(16, .int i.2), (60, .int i.1)])
      (fun i => [(0, .cells [.sl true .exact []]), (1, .cells [.int 0]), (2, .cells [.int 0]), (3, .cells (((setsN boxes k).set k ((bx.l.take i.1).foldl (fun x c => ior x (bitOf c)) 0)).map A.int)), (4, .cells [.ms 3 0 boxes.length])])
      (fun i => i.1 ≤ bx.l.length ∧ (-1 ≤ i.2 ∧ i.2 ≤ cells.length) ∧ risingF cells.length i.2 (bx.l.drop i.1) = risingF cells.length (-1) bx.l) (fun i => bx.l.length - i.1) (0, -1)
      ⟨Nat.zero_le _, ⟨Int.le_refl _, by show (-1 : Int) ≤ _; omega⟩, rfl⟩ ⟨⟨.refl _, .refl _, .refl _, .refl _, .refl _, .refl _, .refl _, .refl _, .refl _, .refl _, .refl _, .refl _, .refl _, trivial⟩, ⟨.refl _, .refl _, trivial⟩, ⟨rfl, rfl, rfl, ?_, rfl, trivial⟩, Nat.le_of_ble_eq_true rfl⟩ ⟨fc.under, .s _, .ref _ _ (by decide), .ref _ _ (by decide), .ref _ _ (by decide), .s _, .ref _ _ (by decide), .s _, fb.under, .s _, .s _, ul, .s _, trivial⟩ (fun _ _ => ⟨.s _, .s _, trivial⟩) (fun _ _ => ⟨⟨by decide, un0⟩, ⟨by decide, ui0⟩, ⟨by decide, ui0⟩, ⟨by decide, cells_under _⟩, ⟨by decide, .cells _ (all1 (.ms _ _ _ (by decide)))⟩, trivial⟩) ?_)
    · show some (B.cells ((setsN boxes k).map A.int)) = some (B.cells (((setsN boxes k).set k 0).map A.int))
      have h0 := setsN_get boxes k hlt
      rw [List.getD_eq_getElem?_getD, List.getElem?_eq_getElem (by omega)] at h0
      have : (setsN boxes k).set k 0 = setsN boxes k := by
        conv => lhs; rw [← show (setsN boxes k)[k] = 0 from h0]
        exact List.set_getElem_self _
      rw [this]
    rintro ⟨j, last⟩ ⟨hj, hla, hrun⟩
    simp only at hj hla hrun
    refine Aw.sm tab_ok mb0 [] rfl rfl ?zo ?zk
    case zo =>
      repeat' apply AllP.cons
      all_goals first | exact trivial
    case zk =>
    refine Aw.seq (Aw.cond rfl (fun h2 => Aw.skip1 ?_) (fun h2 => Aw.exit2 ?_))
    · have hjl : j < bx.l.length := by have := of_decide_eq_true h2; omega
      rw [List.drop_eq_getElem_cons hjl, risingF] at hrun
      have hgj : (ints bx.l)[j]? = some [.int bx.l[j]] := ints_get hjl
      have hfo := foldl_take_succ (fun x c => ior x (bitOf c)) bx.l j hjl 0
      generalize hc : bx.l[j] = c at *
      generalize (bx.l.take j).foldl (fun x c => ior x (bitOf c)) 0 = v at *
      refine Aw.seq (Aw.block ?_)
      refine Aw.sm tab_ok mb0 [(0, [.int c])] rfl rfl ?zo ?zk
      case zo =>
        repeat' apply AllP.cons
        all_goals first | exact trivial | exact rfl | exact Nat.le_of_ble_eq_true rfl | exact Int.natCast_nonneg _ | exact hgj
      case zk =>
      refine Aw.seq ?_
      refine Aw.sm tab_ok mb0 [(6, [.bool (wi c (last + 1) ((cells.map Cel.c).length - 1))])] rfl rfl ?zo ?zk
      case zo =>
        repeat' apply AllP.cons
        all_goals first | exact trivial | exact within_t _ _ _ | exact (by simp only [Ob.of, inR]; omega)
      case zk =>
      rw [zc]
      refine Aw.cond rfl (fun h3 => ?_) (fun h3 => Aw.skip ?_)
      · have h3' : wi c (last + 1) (cells.length - 1) = false := by simpa using h3
        rw [h3'] at hrun
        have hno := hbad hrun.symm
        refine Aw.sm tab_ok mb0 [] rfl rfl ?zo ?zk
        case zo =>
          repeat' apply AllP.cons
          all_goals first | exact trivial | exact rfl | exact Nat.le_of_ble_eq_true rfl
        case zk =>
        exact Aw.ret ⟨_, .cons (resO rfl rfl (by decide) rfl rfl rfl) (.cons (resO rfl rfl (by decide) rfl rfl rfl) (.cons (resO rfl rfl (by decide) rfl rfl rfl) (.cons (.tmp _) .nil))), by unfold boxR; rw [hno]; rfl⟩
      have h3' : wi c (last + 1) (cells.length - 1) = true := by simpa using h3
      rw [h3'] at hrun
      have hrun : risingF cells.length c (bx.l.drop (j + 1)) = risingF cells.length (-1) bx.l := hrun
      have hcb := wi_iff.1 h3'
      have hvl : ((setsN boxes k).set k v).length = boxes.length := by rw [List.length_set]; exact hsl
      have hgv : ((((setsN boxes k).set k v).map A.int).getD (0 + k * 1 + 0) .un).down = .int v := by
        rw [Nat.add_zero, Nat.zero_add, Nat.mul_one, cells_get (by omega), getD_set' _ _ _ _ (by omega), if_pos rfl]
      have l1 : 0 + k * 1 + 0 < (((setsN boxes k).set k v).map A.int).length := by rw [List.length_map]; omega
      have l2 : 0 + k * 1 + 0 + 1 ≤ (((setsN boxes k).set k v).map A.int).length := l1
      have hkb : (k : Int) < (boxes.length : Nat) := by omega
      refine Aw.sm tab_ok mb0 [] rfl rfl ?zo ?zk
      case zo =>
        repeat' apply AllP.cons
        all_goals first | exact trivial
      case zk =>
      refine Aw.ed tab_ok mixed mb0 [(4, [.int v])] rfl (by kernel_rfl) rfl rfl ?zo ?zk
      case zo =>
        repeat' apply AllP.cons
        all_goals first | exact trivial | exact rfl | exact Nat.le_of_ble_eq_true rfl | exact Int.natCast_nonneg _ | exact hgv | exact l1 | exact hkb | exact (show (0 : Int) ≤ c by omega)
      case zk =>
      have hset : setSeg (((setsN boxes k).set k v).map A.int) (0 + k * 1 + 0) [A.int (ior v (bitOf c))] = (((setsN boxes k).set k (ior v (bitOf c))).map A.int) := by
        rw [Nat.add_zero, Nat.zero_add, Nat.mul_one, setSeg_set (by omega), List.set_set]
      refine Aw.em tab_ok mb0 [] rfl rfl ?zo ?zk
      case zo =>
        repeat' apply AllP.cons
        all_goals first | exact trivial | exact inrk j (by omega)
      case zk =>
      exact ⟨(j + 1, c), ⟨hjl, ⟨by show -1 ≤ c; omega, by show c ≤ cells.length; omega⟩, hrun⟩, by show bx.l.length - (j + 1) < bx.l.length - j; omega, ⟨.refl _, .refl _, .refl _, .refl _, .refl _, .refl _, .refl _, .refl _, .refl _, .refl _, .refl _, .refl _, .refl _, trivial⟩, ⟨.refl _, .refl _, trivial⟩, ⟨rfl, rfl, rfl, by rw [hfo]; exact congrArg (fun x => some (B.cells x)) hset, rfl, trivial⟩, Nat.le_of_ble_eq_true rfl⟩
    · have hle : j = bx.l.length := by have := of_decide_eq_false h2; omega
      subst hle
      rw [List.drop_length, risingF] at hrun
      have hso : (bx.l.take bx.l.length).foldl (fun x c => ior x (bitOf c)) 0 = setOf bx.l := by rw [List.take_length]; rfl
      rw [hso, hsucc]
      refine Aw.em tab_ok mb0 [] rfl rfl ?zo ?zk
      case zo =>
        repeat' apply AllP.cons
        all_goals first | exact trivial | exact inrk k (by omega)
      case zk =>
      exact ⟨k + 1, ⟨hlt, by rw [hall2, hall, ← hrun]; rfl⟩, by omega, ⟨.refl _, .refl _, .refl _, .refl _, .refl _, .refl _, .refl _, .refl _, .refl _, trivial⟩, ⟨.refl _, trivial⟩, ⟨rfl, rfl, rfl, rfl, rfl, trivial⟩, Nat.le_of_ble_eq_true rfl⟩
  have hle : k = boxes.length := by have := of_decide_eq_false h1; omega
  subst hle
  rw [List.take_length] at hall
  rw [hall] at hbok
  have hbok : boxesOk cells boxes = b1 := by rw [hbok]; cases b1 <;> rfl
  rw [setsN_full]
  have hsl : (setsOf boxes).length = boxes.length := by simp [setsOf]
  refine Aw.keep (n := 5) (cst := [(0, .sl p .any (cells.map Cel.c)), (2, .int most), (6, .ref 0 0), (7, .ref 1 0), (8, .ref 2 0), (10, .bool b1), (13, .ref 4 0)]) (v := []) (Hl := [(0, .cells [.sl true .exact []]), (1, .cells [.int 0]), (2, .cells [.int 0]), (3, .cells ((setsOf boxes).map A.int)), (4, .cells [.ms 3 0 boxes.length])]) hE5 ⟨fc.under, .s _, .ref _ _ (by decide), .ref _ _ (by decide), .ref _ _ (by decide), .s _, .ref _ _ (by decide), trivial⟩ trivial ⟨⟨by decide, un0⟩, ⟨by decide, ui0⟩, ⟨by decide, ui0⟩, ⟨by decide, cells_under _⟩, ⟨by decide, .cells _ (all1 (.ms _ _ _ (by decide)))⟩, trivial⟩
    ⟨⟨.refl _, .refl _, .refl _, .refl _, .refl _, .refl _, .refl _, trivial⟩, trivial, ⟨rfl, rfl, rfl, rfl, rfl, trivial⟩, Nat.le_of_ble_eq_true rfl⟩ ?_
  refine Aw.freezeC (id := 3) (id2 := 4) (j := 0) (ints (setsOf boxes)) rfl rfl (by decide) (Nat.le_of_ble_eq_true rfl) rfl (ints_rows _) (by rw [ints_len, hsl]) ?_
  refine Aw.seq ?_
  refine Aw.sm tab_ok mb0 [] rfl rfl ?zo ?zk
  case zo =>
    repeat' apply AllP.cons
    all_goals first | exact trivial
  case zk =>
  refine Aw.cond rfl (fun h1 => ?_) (fun h1 => Aw.skip ?_)
  · have hno : b1 = false := by simpa using h1
    refine Aw.sm tab_ok mb0 [] rfl rfl ?zo ?zk
    case zo =>
      repeat' apply AllP.cons
      all_goals first | exact trivial | exact rfl | exact Nat.le_of_ble_eq_true rfl
    case zk =>
    exact Aw.ret ⟨_, .cons (resO rfl rfl (by decide) rfl rfl rfl) (.cons (resO rfl rfl (by decide) rfl rfl rfl) (.cons (resO rfl rfl (by decide) rfl rfl rfl) (.cons (.tmp _) .nil))), by unfold boxR; rw [hbok, hno]; rfl⟩
  have hyes : b1 = true := by simpa using h1
  obtain ⟨hcin, hb8⟩ := hb1i hyes
  refine Aw.seq ?_
  refine Aw.sm tab_ok mb0 [(1, [.bool (wi most 0 8)])] rfl rfl ?zo ?zk
  case zo =>
    repeat' apply AllP.cons
    all_goals first | exact trivial | exact within_t _ _ _
  case zk =>
  refine Aw.cond rfl (fun h1 => ?_) (fun h1 => Aw.skip ?_)
  · have hno : wi most 0 8 = false := by simpa using h1
    refine Aw.sm tab_ok mb0 [] rfl rfl ?zo ?zk
    case zo =>
      repeat' apply AllP.cons
      all_goals first | exact trivial | exact rfl | exact Nat.le_of_ble_eq_true rfl
    case zk =>
    exact Aw.ret ⟨_, .cons (resO rfl rfl (by decide) rfl rfl rfl) (.cons (resO rfl rfl (by decide) rfl rfl rfl) (.cons (resO rfl rfl (by decide) rfl rfl rfl) (.cons (.tmp _) .nil))), by unfold boxR; rw [hbok, hyes, hno]; rfl⟩
  have hmo : wi most 0 8 = true := by simpa using h1
  have hmb := wi_iff.1 hmo
  have hR : boxR cells boxes most = [outA (boxF cells boxes most).chosen, .int (boxF cells boxes most).sp, .int (boxF cells boxes most).la, .int 0] := by unfold boxR; rw [hbok, hyes, hmo]; rfl
  rw [hR]
  have hF : boxF cells boxes most = bxAll cells (setsOf boxes) (List.range ((min most boxes.length).toNat + 1)) ⟨[], 0, 0⟩ := rfl
  generalize boxF cells boxes most = R at *
  generalize setsOf boxes = sets at *
  refine Aw.sm tab_ok mb0 [] rfl rfl ?zo ?zk
  case zo =>
    repeat' apply AllP.cons
    all_goals first | exact trivial | exact rfl | exact Nat.le_of_ble_eq_true rfl
  case zk =>
  refine Aw.sm tab_ok mb0 [] rfl rfl ?zo ?zk
  case zo =>
    repeat' apply AllP.cons
    all_goals first | exact trivial
  case zk =>
  refine Aw.sm tab_ok mb0 [] rfl rfl ?zo ?zk
  case zo =>
    repeat' apply AllP.cons
    all_goals first | exact trivial | exact rfl | exact Nat.le_of_ble_eq_true rfl
  case zk =>
  refine Aw.keep (n := 8) (cst := [(2, .int most), (6, .ref 0 0), (7, .ref 1 0), (8, .ref 2 0), (13, .ref 4 0), (20, .ref 7 0)]) (v := []) (Hl := bxH p cells sets [] ⟨[], 0, 0⟩) hE8 ⟨.s _, .ref _ _ (by decide), .ref _ _ (by decide), .ref _ _ (by decide), .ref _ _ (by decide), .ref _ _ (by decide), trivial⟩ trivial (bxH_under _ _ _ _ _ (Nat.le_refl _))
    ⟨⟨.refl _, .refl _, .refl _, .refl _, .refl _, .refl _, trivial⟩, trivial, ⟨rfl, rfl, rfl, rfl, rfl, rfl, rfl, trivial⟩, Nat.le_of_ble_eq_true rfl⟩ ?_
  have zs := ints_lenI sets
  have hmin : (if ((ints sets).length : Int) < most then ((ints sets).length : Int) else most) = min most boxes.length := by rw [zs, hsl]; exact minI most boxes.length
  obtain ⟨M, hM⟩ : ∃ M : Nat, min most boxes.length = M := ⟨(min most boxes.length).toNat, by omega⟩
  have hM8 : M ≤ 8 := by omega
  rw [hM, Int.toNat_natCast] at hF
  have ob1 : inR ((if ((ints sets).length : Int) < most then ((ints sets).length : Int) else most) + 1) := by rw [hmin, hM]; simp only [inR]; omega
  refine Aw.seq ?_
  refine Aw.sm tab_ok mb0 [] rfl rfl ?zo ?zk
  case zo =>
    repeat' apply AllP.cons
    all_goals first | exact trivial | exact Nat.le_of_ble_eq_true rfl | exact ob1
  case zk =>
  refine Aw.block (Aw.rounds (ι := Nat × List (Int × Cel) × BSt) 8 hE8 [(6, .ref 0 0), (7, .ref 1 0), (8, .ref 2 0), (20, .ref 7 0), (98, .int ((M : Int) + 1))] (fun i => [(99, .int i.1)]) (fun i => bxH p cells sets i.2.1 i.2.2)
    (fun i => i.1 ≤ M + 1 ∧ MemoOk cells i.2.1 ∧ bxAll cells sets ((List.range (M + 1)).drop i.1) i.2.2 = R) (fun i => M + 1 - i.1) (0, [], ⟨[], 0, 0⟩)
    ⟨Nat.zero_le _, (fun _ _ h => by cases h), hF.symm⟩ ⟨⟨.refl _, .refl _, .refl _, .refl _, .of_eq (show A.int ((M : Int) + 1) = A.int ((if ((ints sets).length : Int) < most then ((ints sets).length : Int) else most) + 1) by rw [hmin, hM]), trivial⟩, ⟨.refl _, trivial⟩, ⟨rfl, rfl, rfl, rfl, rfl, rfl, rfl, trivial⟩, Nat.le_refl _⟩ ⟨.ref _ _ (by decide), .ref _ _ (by decide), .ref _ _ (by decide), .ref _ _ (by decide), .s _, trivial⟩ (fun _ _ => ⟨.s _, trivial⟩) (fun i _ => bxH_under _ _ _ _ _ (Nat.le_refl _)) ?_)
  rintro ⟨i, m, s⟩ ⟨hi, hgood, hrun⟩
  simp only at hi hgood hrun
  refine Aw.sm tab_ok mb0 [] rfl rfl ?zo ?zk
  case zo =>
    repeat' apply AllP.cons
    all_goals first | exact trivial
  case zk =>
  refine Aw.seq (Aw.cond rfl (fun h2 => Aw.skip1 ?_) (fun h2 => Aw.exit2 ?_))
  · have hlt : i < M + 1 := by have := of_decide_eq_true h2; omega
    rw [range_drop hlt, bxAll] at hrun
    have hcall := chooseB_t p cells hcin sets (by omega) i [] 0 m s i (by simp) (by omega) (fun _ h => nomatch h) hgood
    generalize bxF cells sets i [] 0 s = s3 at *
    refine Aw.seq (Aw.block ?_)
    refine Aw.sm tab_ok mb0 [] rfl rfl ?zo ?zk
    case zo =>
      repeat' apply AllP.cons
      all_goals first | exact trivial
    case zk =>
    refine Aw.es rfl ?_
    refine RegL.partE tab_ok mb0 false 3 0 [] ?_
    conv => arg 5; whnf
    refine PartK.mk ?zo ?zk
    case zo =>
      repeat' apply AllP.cons
      all_goals first | exact trivial | exact Nat.le_of_ble_eq_true rfl
    case zk =>
    refine Does.raw rfl (DoesR.call (fst := []) (cap := [.ref 6 0, .ref 1 0, .ref 2 0, .ref 0 0, .ref 4 0, .ref 7 0]) rfl rfl (enters_of Try.func40 rfl rfl) (bx_frame (l := []) rfl hcall (H := _) (c := _) ⟨rfl, rfl, rfl, rfl, rfl, rfl, rfl, trivial⟩) ?_)
    rintro v H' c' ⟨rfl, rfl, m3, hgood3, rfl⟩
    refine Aw.em tab_ok mb0 [] rfl rfl ?zo ?zk
    case zo =>
      repeat' apply AllP.cons
      all_goals first | exact trivial | exact inrk i (by omega)
    case zk =>
    exact ⟨(i + 1, m3, s3), ⟨hlt, hgood3, hrun⟩, by show M + 1 - (i + 1) < M + 1 - i; omega, ⟨.refl _, .refl _, .refl _, .refl _, .refl _, trivial⟩, ⟨.refl _, trivial⟩, ⟨rfl, rfl, rfl, rfl, rfl, rfl, rfl, trivial⟩, Nat.le_of_ble_eq_true rfl⟩
  · have hend : i = M + 1 := by have := of_decide_eq_false h2; omega
    subst hend
    rw [range_end, bxAll] at hrun
    subst hrun
    obtain ⟨s1, s2, s3⟩ := s
    cases s1 with
    | nil =>
      refine Aw.sd tab_ok mixed mb0 [] rfl (by kernel_rfl) rfl rfl ?zo ?zk
      case zo =>
        repeat' apply AllP.cons
        all_goals first | exact trivial | exact rfl | exact Nat.le_of_ble_eq_true rfl
      case zk =>
      exact Aw.ret ⟨_, .cons (resO rfl rfl (by decide) rfl rfl rfl) (.cons (resO rfl rfl (by decide) rfl rfl rfl) (.cons (resO rfl rfl (by decide) rfl rfl rfl) (.cons (.tmp _) .nil))), rfl⟩
    | cons x l =>
      refine Aw.sd tab_ok mixed mb0 [] rfl (by kernel_rfl) rfl rfl ?zo ?zk
      case zo =>
        repeat' apply AllP.cons
        all_goals first | exact trivial | exact rfl | exact Nat.le_of_ble_eq_true rfl
      case zk =>
      exact Aw.ret ⟨_, .cons (resO rfl rfl (by decide) rfl rfl rfl) (.cons (resO rfl rfl (by decide) rfl rfl rfl) (.cons (resO rfl rfl (by decide) rfl rfl rfl) (.cons (.tmp _) .nil))), rfl⟩
end Go.Proofs.Ytkfepnbanekfgaa

namespace Go.Proofs.Ytkfepnbanekfgaa
open Go Go.AL Go.AL.Q Go.AL.Sh
def lastI (l : List Int) : Int := l.getLast?.getD (-1)
theorem fromN_last {l : List Int} (h : ∀ i ∈ l, 0 ≤ i) : (fromN l : Int) = lastI l + 1 := by
  unfold fromN lastI
  cases e : l.getLast? with
  | none => rfl
  | some x =>
    have := h x (List.mem_of_getLast? e)
    simp only [Option.getD_some]; omega
theorem lastI_snoc (l : List Int) (x : Int) : lastI (l ++ [x]) = x := by unfold lastI; rw [List.getLast?_concat]; rfl
structure Rd (n f : Nat) (last : Int) (m : List Int) : Prop where
  len : m.length = f
  ri : risingF n last m = true
structure ChT (fd : List Int → Bool) (n f : Nat) (l : List Int) (r : Cst) : Prop where
  t : r.1 = true → ∃ m, Rd n f (lastI l) m ∧ r.2 = l ++ m ∧ fd (l ++ m) = true ∧ ∀ m', Rd n f (lastI l) m' → fd (l ++ m') = true → Q.befF m' m = false
  f : r.1 = false → ∀ m', Rd n f (lastI l) m' → fd (l ++ m') = false
structure GoT (fd : List Int → Bool) (n f : Nat) (l : List Int) (is : List Nat) (r : Cst) : Prop where
  t : r.1 = true → ∃ i ∈ is, ∃ m, Rd n f i m ∧ r.2 = l ++ (i : Int) :: m ∧ fd (l ++ (i : Int) :: m) = true ∧ ∀ i' ∈ is, ∀ m', Rd n f i' m' → fd (l ++ (i' : Int) :: m') = true → Q.befF ((i' : Int) :: m') ((i : Int) :: m) = false
  f : r.1 = false → ∀ i' ∈ is, ∀ m', Rd n f i' m' → fd (l ++ (i' : Int) :: m') = false
theorem chGo_is {fd : List Int → Bool} {n f : Nat} {l : List Int} {rec : List Int → List Int → Cst} (hrec : ∀ (i : Nat) (o : List Int), ChT fd n f (l ++ [(i : Int)]) (rec (l ++ [(i : Int)]) o)) : ∀ (is : List Nat) (o : List Int), is.Pairwise (· < ·) → GoT fd n f l is (chGo rec l is o)
  | [], o, _ => ⟨(fun h => by cases h), (fun _ i' h => by cases h)⟩
  | i :: is, o, hp => by
    have h1 := hrec i o
    have hap : ∀ m, l ++ [(i : Int)] ++ m = l ++ (i : Int) :: m := fun m => by simp
    rw [chGo]
    split
    · rename_i ht
      obtain ⟨m, k1, k2, k3, k4⟩ := h1.t ht
      rw [lastI_snoc] at k1 k4
      refine ⟨fun _ => ⟨i, by simp, m, k1, by rw [k2, hap], by rw [← hap]; exact k3, fun i' hi' m' hm' hfd => ?_⟩, fun h => by rw [ht] at h; cases h⟩
      rcases List.mem_cons.1 hi' with rfl | h
      · rw [Q.befF, if_pos rfl]; exact k4 m' hm' (by rw [hap]; exact hfd)
      · have := (List.pairwise_cons.1 hp).1 i' h
        rw [Q.befF, if_neg (by omega)]; exact decide_eq_false (by omega)
    · rename_i ht
      have ht : (rec (l ++ [(i : Int)]) o).1 = false := by simpa using ht
      have hno := h1.f ht
      rw [lastI_snoc] at hno
      have ih := chGo_is hrec is (rec (l ++ [(i : Int)]) o).2 (List.pairwise_cons.1 hp).2
      refine ⟨fun h => ?_, fun h i' hi' m' hm' => ?_⟩
      · obtain ⟨j, k0, m, k1, k2, k3, k4⟩ := ih.t h
        refine ⟨j, by simp [k0], m, k1, k2, k3, fun i' hi' m' hm' hfd => ?_⟩
        rcases List.mem_cons.1 hi' with rfl | h
        · have := hno m' hm'; rw [hap, hfd] at this; cases this
        · exact k4 i' h m' hm' hfd
      · rcases List.mem_cons.1 hi' with rfl | h2
        · rw [← hap]; exact hno m' hm'
        · exact ih.f h i' h2 m' hm'
theorem range_drop_mem {n a i : Nat} : i ∈ (List.range n).drop a ↔ a ≤ i ∧ i < n := by
  rw [List.range_eq_range', List.drop_range', List.mem_range']
  constructor
  · rintro ⟨j, h1, rfl⟩; omega
  · rintro ⟨h1, h2⟩; exact ⟨i - a, by omega, by omega⟩
theorem chF_is (fd : List Int → Bool) (n : Nat) : ∀ (f : Nat) (l o : List Int), (∀ i ∈ l, 0 ≤ i) → ChT fd n f l (chF fd n f l o)
  | 0, l, o, _ => by
    have hn : ∀ m, Rd n 0 (lastI l) m → m = [] := fun m h => List.eq_nil_of_length_eq_zero h.len
    refine ⟨fun h => ⟨[], ⟨rfl, rfl⟩, by simp [chF], by simpa [chF] using h, fun m' h' _ => by rw [hn m' h']; rfl⟩, fun h m' h' => ?_⟩
    rw [hn m' h', List.append_nil]; exact h
  | f + 1, l, o, hl => by
    rw [chF]
    have hl1 : ∀ i : Nat, ∀ x ∈ l ++ [(i : Int)], 0 ≤ x := fun i x hx => by
      rcases List.mem_append.1 hx with h | h
      · exact hl x h
      · simp at h; omega
    have key := chGo_is (fd := fd) (n := n) (f := f) (l := l) (rec := chF fd n f) (fun i o => chF_is fd n f _ o (hl1 i)) ((List.range n).drop (fromN l)) o (List.Pairwise.sublist (List.drop_sublist _ _) List.pairwise_lt_range)
    have hfr := fromN_last hl
    have sp : ∀ m, Rd n (f + 1) (lastI l) m → ∃ i : Nat, ∃ m2, m = (i : Int) :: m2 ∧ i ∈ (List.range n).drop (fromN l) ∧ Rd n f i m2 := fun m hm => by
      cases m with
      | nil => have := hm.len; simp at this
      | cons x m2 =>
        have h1 := hm.ri
        rw [risingF] at h1
        have h2 := wi_iff.1 (ac1 h1)
        have hx : ((x.toNat : Nat) : Int) = x := by omega
        refine ⟨x.toNat, m2, by rw [hx], range_drop_mem.2 ⟨by omega, by omega⟩, ⟨by have := hm.len; simpa using this, by rw [hx]; exact ac2 h1⟩⟩
    have sp2 : ∀ (i : Nat) m2, i ∈ (List.range n).drop (fromN l) → Rd n f i m2 → Rd n (f + 1) (lastI l) ((i : Int) :: m2) := fun i m2 hi hm => by
      have := range_drop_mem.1 hi
      refine ⟨by simp [hm.len], ?_⟩
      rw [risingF, wi_iff.2 (by omega), hm.ri]; rfl
    refine ⟨fun h => ?_, fun h m' hm' => ?_⟩
    · obtain ⟨i, k0, m, k1, k2, k3, k4⟩ := key.t h
      refine ⟨(i : Int) :: m, sp2 i m k0 k1, k2, k3, fun m' hm' hfd => ?_⟩
      obtain ⟨i', m2, rfl, q1, q2⟩ := sp m' hm'
      exact k4 i' q1 m2 q2 hfd
    · obtain ⟨i', m2, rfl, q1, q2⟩ := sp m' hm'
      exact key.f h i' q1 m2 q2
structure SureIs (fd : List Int → Bool) (n : Nat) (o : List Int) : Prop where
  ri : risingF n (-1) o = true
  ok : fd o = true
  pos : 1 ≤ o.length
  first : ∀ o', o' ≠ [] → risingF n (-1) o' = true → fd o' = true → o.length < o'.length ∨ o'.length = o.length ∧ Q.befF o' o = false
theorem suGo_is (fd : List Int → Bool) (n : Nat) : ∀ (ks : List Nat) (a : Nat) (o : List Int), ks = (List.range n).drop a → (∀ o', o' ≠ [] → risingF n (-1) o' = true → fd o' = true → a < o'.length) →
    match suGo fd n ks o with
    | some r => SureIs fd n r
    | none => ∀ o', o' ≠ [] → risingF n (-1) o' = true → fd o' = false
  | [], a, o, hk, hb => by
    rw [suGo]
    intro o' h1 h2
    rw [← Bool.not_eq_true]
    intro h3
    have h4 := hb o' h1 h2 h3
    have h5 := (rising_in h2 (by omega) (by cases o' with | nil => exact absurd rfl h1 | cons x o' => have := wi_iff.1 (ac1 (show cond _ _ false = true from h2)); omega)).2
    have : n ≤ a := by
      have := congrArg List.length hk
      simp at this; omega
    omega
  | k :: ks, a, o, hk, hb => by
    have ha : a < n := by
      have := congrArg List.length hk
      simp at this; omega
    have hk2 : (List.range n).drop a = a :: (List.range n).drop (a + 1) := by
      rw [List.drop_eq_getElem_cons (by simpa using ha)]; simp
    rw [hk2] at hk
    simp only [List.cons.injEq] at hk
    obtain ⟨rfl, hks⟩ := hk
    have key := chF_is fd n (k + 1) [] o (fun _ h => by cases h)
    rw [suGo]
    split
    · rename_i r hr
      split at hr
      · rename_i ht
        cases hr
        obtain ⟨m, k1, k2, k3, k4⟩ := key.t ht
        rw [List.nil_append] at k2 k3
        rw [k2]
        refine ⟨k1.ri, k3, by rw [k1.len]; omega, fun o' h1 h2 h3 => ?_⟩
        have h4 := hb o' h1 h2 h3
        rcases Nat.lt_or_ge (k + 1) o'.length with h5 | h5
        · left; rw [k1.len]; exact h5
        · right
          have e : o'.length = k + 1 := by omega
          exact ⟨by rw [k1.len, e], k4 o' ⟨e, h2⟩ h3⟩
      · rename_i ht
        have ht : (chF fd n (k + 1) [] o).1 = false := by simpa using ht
        have ih := suGo_is fd n ks (k + 1) (chF fd n (k + 1) [] o).2 hks (fun o' h1 h2 h3 => by
          have h4 := hb o' h1 h2 h3
          rcases Nat.lt_or_ge (k + 1) o'.length with h5 | h5
          · exact h5
          · have := key.f ht o' ⟨by omega, h2⟩
            rw [List.nil_append, h3] at this; cases this)
        rw [hr] at ih
        exact ih
    · rename_i hr
      split at hr
      · cases hr
      · rename_i ht
        have ht : (chF fd n (k + 1) [] o).1 = false := by simpa using ht
        have ih := suGo_is fd n ks (k + 1) (chF fd n (k + 1) [] o).2 hks (fun o' h1 h2 h3 => by
          have h4 := hb o' h1 h2 h3
          rcases Nat.lt_or_ge (k + 1) o'.length with h5 | h5
          · exact h5
          · have := key.f ht o' ⟨by omega, h2⟩
            rw [List.nil_append, h3] at this; cases this)
        rw [hr] at ih
        exact ih
theorem su_is (fd : List Int → Bool) (n : Nat) : match suGo fd n (List.range n) [] with
    | some r => SureIs fd n r
    | none => ∀ o', o' ≠ [] → risingF n (-1) o' = true → fd o' = false :=
  suGo_is fd n _ 0 [] rfl fun o' h _ _ => by cases o' with | nil => exact absurd rfl h | cons x o' => simp
end Go.Proofs.Ytkfepnbanekfgaa

