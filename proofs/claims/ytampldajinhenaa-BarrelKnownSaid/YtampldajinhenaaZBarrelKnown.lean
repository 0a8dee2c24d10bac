/- BarrelKnown holds: what is said of single piles, yards and books. No condition. -/
import Derived.Test.YtampldajinhenaaK6
set_option linter.all false
namespace Go.AL
open Go Go.RowKit
theorem rows_of {ys : List (List A)} {sz : Nat} (hs : ∀ y ∈ ys, y.length = sz) (hd : ys.flatten.map A.down = ys.flatten) : RowsAre ys.flatten ys sz := by
  refine ⟨hs, by rw [flat_len hs]; exact Nat.le_refl _, fun i j hi hj => ?_⟩
  have hk : i * sz + j < ys.length * sz := by
    have : (i + 1) * sz ≤ ys.length * sz := Nat.mul_le_mul_right _ hi
    rw [Nat.add_mul, Nat.one_mul] at this; omega
  have h0 : 0 < sz := by omega
  have e1 : (i * sz + j) / sz = i := by rw [Nat.mul_comm, Nat.mul_add_div h0, Nat.div_eq_of_lt hj]; rfl
  have e2 : (i * sz + j) % sz = j := by rw [Nat.mul_comm, Nat.mul_add_mod, Nat.mod_eq_of_lt hj]
  have e3 := flat_get hs (i * sz + j) hk
  rw [e1, e2] at e3
  have hl : i * sz + j < ys.flatten.length := by rw [flat_len hs]; exact hk
  have e4 : (ys.flatten.getD (i * sz + j) .un).down = ys.flatten.getD (i * sz + j) .un := by
    have := congrArg (fun l => l.getD (i * sz + j) .un) hd
    simp only [List.getD_eq_getElem?_getD, List.getElem?_map, List.getElem?_eq_getElem hl] at this ⊢
    exact this
  rw [e4, e3]
section
variable {α : Type} {c : α → List A} {sz : Nat}
theorem flat_down (hd : ∀ a, (c a).map A.down = c a) (l : List α) : (l.map c).flatten.map A.down = (l.map c).flatten := by
  rw [List.map_flatten, List.map_map]
  congr 1
  exact List.map_congr_left fun a _ => hd a
theorem rows_all (hc : ∀ a, (c a).length = sz) (hd : ∀ a, (c a).map A.down = c a) (l : List α) : RowsAre (l.map c).flatten (l.map c) sz := rows_of (fun y hy => by obtain ⟨b, _, rfl⟩ := List.mem_map.1 hy; exact hc b) (flat_down hd l)
end
end Go.AL

namespace Go.Proofs.Ytampldajinhenaa
open Go Go.AL Go.AL.Q Go.AL.Br
def stL : List Int := [30, 40, 50, 35, 45, 60, 25]
noncomputable def twoH (H : Hp) (c : Nat) (z cs row : List A) : Hp := updH (updH (updH H c (some (.cells z))) (c + 1) (some (.cells cs))) c (some (.cells row))
theorem pile_0 (H : Hp) : SCall Try.prog 59 [] H 0 fun v H1 c1 => v = .agg [.ms 1 0 7, .int 100, .int 10] ∧ c1 = 2 ∧ H1 = twoH H 0 ((tab.zr 24).map A.down) (stL.map A.int) [.ms 1 0 7, .int 100, .int 10] := by
  refine SCall.of_bodyN tab_ok Try.func59 rfl Try.ntmps59 (Nat.le_of_ble_eq_true rfl) allN fun E hE => ?_
  refine Aw.sm tab_ok mb0 [] rfl rfl ?zo ?zk
  case zo =>
    repeat' apply AllP.cons
    all_goals first | exact trivial
  case zk =>
  refine Aw.sm tab_ok mb0 [(0, [.ms 0 0 0])] rfl rfl ?zo ?zk
  case zo =>
    repeat' apply AllP.cons
    all_goals first | exact trivial | exact rfl | exact Nat.le_of_ble_eq_true rfl
  case zk =>
  exact Aw.ret ⟨_, .cons (resC rfl rfl rfl rfl rfl) .nil, rfl, rfl, rfl⟩
theorem pile_2 (H : Hp) : SCall Try.prog 59 [] H 2 fun v H1 c1 => v = .agg [.ms 3 0 7, .int 100, .int 10] ∧ c1 = 4 ∧ H1 = twoH H 2 ((tab.zr 24).map A.down) (stL.map A.int) [.ms 3 0 7, .int 100, .int 10] := by
  refine SCall.of_bodyN tab_ok Try.func59 rfl Try.ntmps59 (Nat.le_of_ble_eq_true rfl) allN fun E hE => ?_
  refine Aw.sm tab_ok mb0 [] rfl rfl ?zo ?zk
  case zo =>
    repeat' apply AllP.cons
    all_goals first | exact trivial
  case zk =>
  refine Aw.sm tab_ok mb0 [(0, [.ms 0 0 0])] rfl rfl ?zo ?zk
  case zo =>
    repeat' apply AllP.cons
    all_goals first | exact trivial | exact rfl | exact Nat.le_of_ble_eq_true rfl
  case zk =>
  exact Aw.ret ⟨_, .cons (resC rfl rfl rfl rfl rfl) .nil, rfl, rfl, rfl⟩
def yardC : List A := (yard0.map Cask.c).flatten
theorem yard_s (H : Hp) : SCall Try.prog 60 [] H 0 fun v H1 c1 => v = .ms 0 0 2 ∧ c1 = 1 ∧ H1 = updH H 0 (some (.cells yardC)) := by
  refine SCall.of_bodyN tab_ok Try.func60 rfl Try.ntmps60 (Nat.le_of_ble_eq_true rfl) allN fun E hE => ?_
  refine Aw.sm tab_ok mb0 [] rfl rfl ?zo ?zk
  case zo =>
    repeat' apply AllP.cons
    all_goals first | exact trivial
  case zk =>
  refine Aw.sm tab_ok mb0 [(0, [.agg (Sp.c ⟨5, 10⟩)]), (2, [.agg (Sp.c ⟨2, 8⟩)]), (4, [.ms 0 0 0])] rfl rfl ?zo ?zk
  case zo =>
    repeat' apply AllP.cons
    all_goals first | exact trivial | exact Nat.le_of_ble_eq_true rfl | exact to_t _ _
  case zk =>
  exact Aw.ret ⟨_, .cons (.tmp _) .nil, rfl, rfl, rfl⟩
theorem yardC_ok : ∀ x ∈ yardC, Free x ∧ ∀ u, spareOf x u = none := by
  have h : yardC = ([50, 60, 20, 5, 10, 40, 60, 30, 2, 8] : List Int).map A.int := rfl
  rw [h]
  intro x hx
  obtain ⟨n, _, rfl⟩ := List.mem_map.1 hx
  exact ⟨.s _, fun u => rfl⟩
theorem yard_b (nm : Nat) : NewBlk Try.prog 60 [] nm (.ms nm 0 2) yardC :=
  NewBlk.of (k := 0) (enters_of Try.func60 rfl rfl) (fun x hx => nomatch hx) yardC_ok
    ((yard_s (fun _ => none)).mono fun v H1 c1 ⟨h1, _, h3⟩ => ⟨h1, h3⟩)
    (fun φ φ' Z w u b h1 h2 h3 => by
      obtain ⟨b', c, rfl, e, hc, hm⟩ := inv_ms h3
      rw [h1] at e; cases e
      exact .ms _ _ _ _ _ h2 hc hm)
    (fun u => rfl)
def mvC : List A := ((bookN 9).ms.map Mv.c).flatten
theorem book_0 (H : Hp) : SCall Try.prog 61 [.int 9] H 0 fun v H1 c1 => v = .agg [.int 3, .ms 1 0 4] ∧ c1 = 2 ∧ H1 = twoH H 0 ((tab.zr 49).map A.down) mvC [.int 3, .ms 1 0 4] := by
  refine SCall.of_bodyN tab_ok Try.func61 rfl Try.ntmps61 (Nat.le_of_ble_eq_true rfl) (all1 fun _ => rfl) fun E hE => ?_
  refine Aw.sm tab_ok mb0 [] rfl rfl ?zo ?zk
  case zo =>
    repeat' apply AllP.cons
    all_goals first | exact trivial
  case zk =>
  refine Aw.sm tab_ok mb0 [(0, [.agg (Sp.c ⟨10, 20⟩)]), (2, [.agg (Sp.c ⟨5, 12⟩)]), (4, [.agg (Sp.c ⟨2, 4⟩)]), (7, [.agg (Sp.c ⟨0, 9⟩)]), (9, [.ms 0 0 0])] rfl rfl ?zo ?zk
  case zo =>
    repeat' apply AllP.cons
    all_goals first | exact trivial | exact rfl | exact Nat.le_of_ble_eq_true rfl | exact to_t _ _
  case zk =>
  exact Aw.ret ⟨_, .cons (resC rfl rfl rfl rfl rfl) .nil, rfl, rfl, rfl⟩
theorem book_2 (H : Hp) : SCall Try.prog 61 [.int 9] H 2 fun v H1 c1 => v = .agg [.int 3, .ms 3 0 4] ∧ c1 = 4 ∧ H1 = twoH H 2 ((tab.zr 49).map A.down) mvC [.int 3, .ms 3 0 4] := by
  refine SCall.of_bodyN tab_ok Try.func61 rfl Try.ntmps61 (Nat.le_of_ble_eq_true rfl) (all1 fun _ => rfl) fun E hE => ?_
  refine Aw.sm tab_ok mb0 [] rfl rfl ?zo ?zk
  case zo =>
    repeat' apply AllP.cons
    all_goals first | exact trivial
  case zk =>
  refine Aw.sm tab_ok mb0 [(0, [.agg (Sp.c ⟨10, 20⟩)]), (2, [.agg (Sp.c ⟨5, 12⟩)]), (4, [.agg (Sp.c ⟨2, 4⟩)]), (7, [.agg (Sp.c ⟨0, 9⟩)]), (9, [.ms 0 0 0])] rfl rfl ?zo ?zk
  case zo =>
    repeat' apply AllP.cons
    all_goals first | exact trivial | exact rfl | exact Nat.le_of_ble_eq_true rfl | exact to_t _ _
  case zk =>
  exact Aw.ret ⟨_, .cons (resC rfl rfl rfl rfl rfl) .nil, rfl, rfl, rfl⟩
theorem book_4 (H : Hp) : SCall Try.prog 61 [.int 9] H 4 fun v H1 c1 => v = .agg [.int 3, .ms 5 0 4] ∧ c1 = 6 ∧ H1 = twoH H 4 ((tab.zr 49).map A.down) mvC [.int 3, .ms 5 0 4] := by
  refine SCall.of_bodyN tab_ok Try.func61 rfl Try.ntmps61 (Nat.le_of_ble_eq_true rfl) (all1 fun _ => rfl) fun E hE => ?_
  refine Aw.sm tab_ok mb0 [] rfl rfl ?zo ?zk
  case zo =>
    repeat' apply AllP.cons
    all_goals first | exact trivial
  case zk =>
  refine Aw.sm tab_ok mb0 [(0, [.agg (Sp.c ⟨10, 20⟩)]), (2, [.agg (Sp.c ⟨5, 12⟩)]), (4, [.agg (Sp.c ⟨2, 4⟩)]), (7, [.agg (Sp.c ⟨0, 9⟩)]), (9, [.ms 0 0 0])] rfl rfl ?zo ?zk
  case zo =>
    repeat' apply AllP.cons
    all_goals first | exact trivial | exact rfl | exact Nat.le_of_ble_eq_true rfl | exact to_t _ _
  case zk =>
  exact Aw.ret ⟨_, .cons (resC rfl rfl rfl rfl rfl) .nil, rfl, rfl, rfl⟩
def wpL : List Pile := [⟨true, [], 0, 0⟩, ⟨false, [30, 40, 50, 0, 45, 60, 25], 100, 10⟩, ⟨false, [30, 40, 50, 501, 45, 60, 25], 100, 10⟩, ⟨false, stL, 0, 10⟩, ⟨false, stL, 100, 101⟩, ⟨false, List.replicate 11 0, 100, 10⟩]
theorem wp_all : ∀ p ∈ wpL, p.ok = false ∧ p.st.length ≤ 11 := by decide +kernel
theorem wp_calls (i : Nat) (h : i < 6) : ∃ p : Pile, (wpL.map Pile.c)[i]? = some p.c ∧ Ans Try.prog 16 [.agg p.c, .sl true .exact []] (.tup [.bool false, .int 60]) ∧ Ans Try.prog 20 [.agg p.c] (.tup [setW [], .int 60]) ∧ Ans Try.prog 18 [.agg p.c] (.int 60) := by
  have hl : i < wpL.length := h
  obtain ⟨h1, h2⟩ := wp_all _ (List.getElem_mem hl)
  generalize hp : wpL[i] = p at *
  refine ⟨p, by rw [List.getElem?_map, List.getElem?_eq_getElem hl, hp]; rfl, ?_, ?_, ?_⟩
  · have := are_t p (by omega) true [] (by decide) (fun _ h => nomatch h)
    have e : AreR p [] = (false, 60) := by unfold AreR; rw [h1]; rfl
    rw [e] at this
    exact AnsL this (.cons (.refl _) (.cons (.any _ _ _) .nil))
  · have := Set_w p (by omega)
    have e : SetR p = ([], 60) := by unfold SetR; rw [h1]; rfl
    rw [e] at this; exact this
  · have := pile_t p (by omega)
    have e : p.chk = 60 := by unfold Pile.chk; rw [h1]; rfl
    rw [e] at this; exact this
def rowL2 (L : List NL) : List A := [.sl false .any (L.map NL.c)]
def wlL : List (List NL) := [[⟨false, [0, 1]⟩], [⟨false, [2, 1]⟩], [⟨false, [1, 2]⟩, ⟨false, [2, 4]⟩], [⟨false, [1, 2]⟩, ⟨true, []⟩], [⟨false, [1, 7]⟩], [⟨false, [4, 5]⟩]]
theorem wl_all : ∀ l ∈ wlL, AreR pile0 l = (false, 0) ∧ l.length ≤ 2 ∧ l.all (fun x => decide (x.l.length ≤ 2)) = true := by decide +kernel
theorem wl_calls (i : Nat) (h : i < 6) : ∃ l : List NL, (wlL.map rowL2)[i]? = some (rowL2 l) ∧ Ans Try.prog 16 [.agg pile0.c, .sl false .any (l.map NL.c)] (.tup [.bool false, .int 0]) := by
  have hl : i < wlL.length := h
  obtain ⟨h1, h2, h3⟩ := wl_all _ (List.getElem_mem hl)
  generalize hp : wlL[i] = l at *
  refine ⟨l, by rw [List.getElem?_map, List.getElem?_eq_getElem hl, hp]; rfl, ?_⟩
  have := are_t pile0 (by decide) false l (by omega) (fun x hx => by have := of_decide_eq_true (List.all_eq_true.1 h3 x hx); omega)
  rw [h1] at this; exact this
def yRow (x : Bool × List Cask) : List A := [.sl x.1 .any (x.2.map Cask.c)]
theorem yRow_free (x : Bool × List Cask) : ∀ a ∈ yRow x, Free a := all1 (free_map Cask.free _ _ _)
def cA : Cask := ⟨50, 60, 20, 5, 10⟩
def cB : Cask := ⟨40, 60, 30, 2, 8⟩
def wyL : List (Bool × List Cask) := [(true, []), (false, List.replicate 5 c00), (false, [⟨50, 1001, 20, 5, 10⟩, cB]), (false, [⟨61, 60, 20, 5, 10⟩, cB]), (false, [cA, ⟨40, 60, 61, 2, 8⟩]), (false, [cA, ⟨40, 60, 30, 8, 2⟩])]
theorem wy_all : ∀ y ∈ wyL, yardOk y.2 = false ∧ y.2.length ≤ 5 := by decide +kernel
theorem run_le {y : List Cask} {b : Bool} (hy : (y.length : Int) ≤ 9223372036854775806) {plan : List Int} {leaks : List NL} {r : List Int} {d e : Int} {pb lb : Bool} {es : List (List A)} {c : Cap} (hp : (plan.length : Int) ≤ 9223372036854775806) (h : RunR y plan leaks = (r, d, e)) (hl : A.Le (.sl lb .any (leaks.map NL.c)) (.sl lb c es)) :
    Ans Try.prog 23 [.sl b .any (y.map Cask.c), .sl pb .exact (ints plan), .sl lb c es] (.tup [outW r, .int d, .int e]) := by
  have := Run_w y b hy pb plan hp lb leaks
  rw [h] at this
  exact AnsL this (.cons (.refl _) (.cons (.any _ _ _) (.cons hl .nil)))
theorem wy_calls (i : Nat) (h : i < 6) : ∃ x : Bool × List Cask, (wyL.map yRow)[i]? = some (yRow x) ∧ Ans Try.prog 23 [.sl x.1 .any (x.2.map Cask.c), .sl false .exact (ints [5]), .sl true .exact []] (.tup [outW [], .int 0, .int 61]) ∧
    Ans Try.prog 28 [.sl x.1 .any (x.2.map Cask.c), .int (-1)] (.tup [.int 0, .int 0, .int 61]) ∧ Ans Try.prog 30 [.sl x.1 .any (x.2.map Cask.c), .int 13] (.tup [outW [], .int 61]) ∧ Ans Try.prog 26 [.sl x.1 .any (x.2.map Cask.c)] (.int 61) := by
  have hl : i < wyL.length := h
  obtain ⟨h1, h2⟩ := wy_all _ (List.getElem_mem hl)
  generalize hp : wyL[i] = x at *
  have hy : (x.2.length : Int) ≤ 9223372036854775806 := by omega
  refine ⟨x, by rw [List.getElem?_map, List.getElem?_eq_getElem hl, hp]; rfl, run_le (plan := [5]) (leaks := []) hy (by decide) (by unfold RunR; rw [h1]; rfl) (.any _ _ _), ?_, ?_, ?_⟩
  · have := first_t x.2 x.1 hy (-1)
    have e : FirstR x.2 (-1) = (0, 0, 61) := by unfold FirstR; rw [h1]; rfl
    rw [e] at this; exact this
  · have := Keep_w x.2 x.1 hy 13
    have e : KeepR x.2 13 = ([], 61) := by unfold KeepR; rw [h1]; rfl
    rw [e] at this; exact this
  · have := yard_chk x.2 x.1 hy
    have e : yardChk x.2 = 61 := by unfold yardChk; rw [h1]; rfl
    rw [e] at this; exact this
def wbL : List Book := [⟨0, true, []⟩, ⟨2, false, (bookN 9).ms⟩, ⟨3, false, [⟨0, 0, 10, 20⟩, ⟨1, 2, 5, 12⟩, ⟨1, 0, 2, 4⟩, ⟨2, 0, 0, 9⟩]⟩, ⟨3, false, [⟨0, 1, 10, 20⟩, ⟨1, 2, 5, 4⟩, ⟨1, 0, 2, 4⟩, ⟨2, 0, 0, 9⟩]⟩, ⟨3, false, [⟨0, 1, 10, 20⟩, ⟨1, 2, 5, 1001⟩, ⟨1, 0, 2, 4⟩, ⟨2, 0, 0, 9⟩]⟩]
theorem wb_all : ∀ b ∈ wbL, b.ok = false ∧ b.ms.length ≤ 4 := by decide +kernel
theorem counts_le {b : Book} (hb : (b.ms.length : Int) ≤ 9223372036854775806) (cs : List Int) (n : Bool) (c : Cap) {r : Bool} {e : Int} (h : CountsR b cs = (r, e)) : Ans Try.prog 33 [.agg b.c, .sl n c (ints cs)] (.tup [.bool r, .int e]) := by
  have := counts_t b hb n cs
  rw [h] at this
  exact AnsL this (.cons (.refl _) (.cons (.any _ _ _) .nil))
theorem proves_le {b : Book} (hb : (b.ms.length : Int) ≤ 9223372036854775806) (s : Int) {r : Bool} {e : Int} (h : ProvesR b s = (r, e)) : Ans Try.prog 52 [.agg b.c, .int s] (.tup [.bool r, .int e]) := by
  have := proves_t b hb s
  rw [h] at this; exact this
theorem proof_le {b : Book} (hb : (b.ms.length : Int) ≤ 9223372036854775806) {r e : Int} (h : ProofR b = (r, e)) : Ans Try.prog 54 [.agg b.c] (.tup [.int r, .int e]) := by
  have := proof_t b hb
  rw [h] at this; exact this
theorem balance_le {b : Book} (hb : (b.ms.length : Int) ≤ 9223372036854775806) {r : List Sp} {e : Int} (h : BalanceR b = (r, e)) : Ans Try.prog 37 [.agg b.c] (.tup [spW r, .int e]) := by
  have := Balance_w b hb
  rw [h] at this; exact this
theorem wb_calls (i : Nat) (h : i < 5) : ∃ b : Book, (wbL.map Book.c)[i]? = some b.c ∧ Ans Try.prog 33 [.agg b.c, .sl true .exact []] (.tup [.bool false, .int 63]) ∧ Ans Try.prog 37 [.agg b.c] (.tup [spW [], .int 63]) ∧ Ans Try.prog 52 [.agg b.c, .int (-1)] (.tup [.bool false, .int 63]) ∧ Ans Try.prog 54 [.agg b.c] (.tup [.int 0, .int 63]) ∧ Ans Try.prog 35 [.agg b.c] (.int 63) := by
  have hl : i < wbL.length := h
  obtain ⟨h1, h2⟩ := wb_all _ (List.getElem_mem hl)
  generalize hp : wbL[i] = b at *
  have hb : (b.ms.length : Int) ≤ 9223372036854775806 := by omega
  refine ⟨b, by rw [List.getElem?_map, List.getElem?_eq_getElem hl, hp]; rfl, counts_le hb [] true .exact (by unfold CountsR; rw [h1]; rfl), balance_le hb (by unfold BalanceR; rw [h1]; rfl), proves_le hb _ (by unfold ProvesR; rw [h1]; rfl), proof_le hb (by unfold ProofR; rw [h1]; rfl), ?_⟩
  have := book_chk b hb
  have e : b.chk = 63 := by unfold Book.chk; rw [h1]; rfl
  rw [e] at this; exact this
theorem k1 : Ans Try.prog 20 [.agg [.sl false .exact (ints [30, 40]), .int 100, .int 10]] (.tup [setW [], .int 4]) := by
  have := Set_w ⟨false, [30, 40], 100, 10⟩ (by decide)
  rw [show SetR ⟨false, [30, 40], 100, 10⟩ = ([], 4) by decide +kernel] at this
  exact AnsL this (.cons (.agg (.cons (.any _ _ _) (.cons (.refl _) (.cons (.refl _) .nil)))) .nil)
theorem k2 : Ans Try.prog 16 [.agg pile0.c, .sl true .exact []] (.tup [.bool true, .int 0]) := by
  have := are_t pile0 (by decide) true [] (by decide) (fun _ h => nomatch h)
  rw [show AreR pile0 [] = (true, 0) by decide +kernel] at this
  exact AnsL this (.cons (.refl _) (.cons (.any _ _ _) .nil))
theorem k3 : Ans Try.prog 23 [.sl false .any (yard0.map Cask.c), .sl false .exact (ints [2]), .sl false .exact [[.sl false .exact (ints [5, 2])]]] (.tup [outW [], .int 0, .int 62]) :=
  run_le (leaks := [⟨false, [5, 2]⟩]) (by decide) (by decide) (by decide +kernel) (.rows (.cons (.cons (.any _ _ _) .nil) .nil))
theorem k4 : Ans Try.prog 23 [.sl false .any (yard0.map Cask.c), .sl false .exact (ints [1]), .sl false .exact [[.sl false .exact (ints [5, 9])]]] (.tup [outW [], .int 0, .int 62]) :=
  run_le (leaks := [⟨false, [5, 9]⟩]) (by decide) (by decide) (by decide +kernel) (.rows (.cons (.cons (.any _ _ _) .nil) .nil))
theorem k5 : Ans Try.prog 23 [.sl false .any (yard0.map Cask.c), .sl false .exact (ints [1]), .sl true .exact []] (.tup [outW [], .int 0, .int 62]) :=
  run_le (leaks := []) (by decide) (by decide) (by decide +kernel) (.any _ _ _)
theorem k6 : Ans Try.prog 23 [.sl false .any (yard0.map Cask.c), .sl false .exact (ints [-1, -1]), .sl false .exact [[.sl false .exact (ints [10, 8])], [.sl false .exact (ints [10, 8])]]] (.tup [outW [30, 24], .int 1, .int 0]) :=
  run_le (leaks := [⟨false, [10, 8]⟩, ⟨false, [10, 8]⟩]) (by decide) (by decide) (by decide +kernel) (.rows (.cons (.cons (.any _ _ _) .nil) (.cons (.cons (.any _ _ _) .nil) .nil)))
theorem first_le {y : List Cask} {b : Bool} (hy : (y.length : Int) ≤ 9223372036854775806) {n a d e : Int} (h : FirstR y n = (a, d, e)) : Ans Try.prog 28 [.sl b .any (y.map Cask.c), .int n] (.tup [.int a, .int d, .int e]) := by
  have := first_t y b hy n
  rw [h] at this; exact this
theorem keep_le {y : List Cask} {b : Bool} (hy : (y.length : Int) ≤ 9223372036854775806) {n e : Int} {r : List Int} (h : KeepR y n = (r, e)) : Ans Try.prog 30 [.sl b .any (y.map Cask.c), .int n] (.tup [outW r, .int e]) := by
  have := Keep_w y b hy n
  rw [h] at this; exact this
def lowY : List Cask := [cA, ⟨37, 60, 30, 2, 8⟩]
theorem k7 : Ans Try.prog 28 [.sl false .any (yard0.map Cask.c), .int 13] (.tup [.int 0, .int 0, .int 62]) := first_le (by decide) (by decide +kernel)
theorem k8 : Ans Try.prog 30 [.sl false .any (yard0.map Cask.c), .int (-1)] (.tup [outW [], .int 62]) := keep_le (by decide) (by decide +kernel)
theorem k9 : Ans Try.prog 28 [.sl false .any (yard0.map Cask.c), .int 1] (.tup [.int 0, .int 0, .int 4]) := first_le (by decide) (by decide +kernel)
theorem k10 : Ans Try.prog 30 [.sl false .any (lowY.map Cask.c), .int 4] (.tup [outW [], .int 4]) := keep_le (by decide) (by decide +kernel)
theorem k11 : Ans Try.prog 30 [.sl false .any (lowY.map Cask.c), .int 0] (.tup [outW [], .int 0]) := keep_le (by decide) (by decide +kernel)
theorem k12 : Ans Try.prog 33 [.agg (bookN 9).c, .sl false .exact (ints [11, 8, 3, 9])] (.tup [.bool false, .int 0]) := counts_le (by decide) _ _ _ (by decide +kernel)
theorem k13 : Ans Try.prog 33 [.agg (bookN 9).c, .sl false .exact (ints [9, 6, 3, 6])] (.tup [.bool false, .int 0]) := counts_le (by decide) _ _ _ (by decide +kernel)
theorem k14 : Ans Try.prog 33 [.agg (bookN 9).c, .sl false .exact (ints [11, 8, 3])] (.tup [.bool false, .int 64]) := counts_le (by decide) _ _ _ (by decide +kernel)
theorem k15 : Ans Try.prog 52 [.agg (bookN 9).c, .int 8] (.tup [.bool false, .int 64]) := proves_le (by decide) _ (by decide +kernel)
theorem k16 : Ans Try.prog 52 [.agg (bookN 9).c, .int (-1)] (.tup [.bool false, .int 64]) := proves_le (by decide) _ (by decide +kernel)
theorem k17 : Ans Try.prog 37 [.agg (bookN 4).c] (.tup [spW [], .int 65]) := balance_le (by decide) (by decide +kernel)
theorem k18 : Ans Try.prog 54 [.agg (bookN 9).c] (.tup [.int 0, .int 4]) := proof_le (by decide) (by decide +kernel)
theorem k19 : Ans Try.prog 54 [.agg (bookN 4).c] (.tup [.int 1, .int 0]) := proof_le (by decide) (by decide +kernel)
theorem k20 : Ans Try.prog 52 [.agg (bookN 4).c, .int 0] (.tup [.bool false, .int 0]) := proves_le (by decide) _ (by decide +kernel)
end Go.Proofs.Ytampldajinhenaa

namespace Go.Proofs.Ytampldajinhenaa
open Go Go.AL Go.AL.Q Go.AL.Br
theorem each_len {l : List (List A)} {n : Nat} (h : l.all (fun z => z.length == n) = true) : ∀ z ∈ l, z.length = n := fun z hz => eq_of_beq (List.all_eq_true.1 h z hz)
def stA (l : List Int) : List A := [.sl false .any (ints l), .int 100, .int 10]
def wpR : List (List A) := [[.sl true .exact [], .int 0, .int 0], stA [30, 40, 50, 0, 45, 60, 25], stA [30, 40, 50, 501, 45, 60, 25], [.sl false .any (ints stL), .int 0, .int 10], [.sl false .any (ints stL), .int 100, .int 101], stA (List.replicate 11 0)]
theorem wp_le : A.Le (.sl false .any (wpL.map Pile.c)) (.sl false .any wpR) := .rows
  (.cons (.cons (.any _ _ _) (.cons (.refl _) (.cons (.refl _) .nil)))
  (.cons (.cons (.refl _) (.cons (.refl _) (.cons (.refl _) .nil)))
  (.cons (.cons (.refl _) (.cons (.refl _) (.cons (.refl _) .nil)))
  (.cons (.cons (.refl _) (.cons (.refl _) (.cons (.refl _) .nil)))
  (.cons (.cons (.refl _) (.cons (.refl _) (.cons (.refl _) .nil)))
  (.cons (.cons (.refl _) (.cons (.refl _) (.cons (.refl _) .nil))) .nil))))))
def nlE (l : List Int) : List A := [.sl false .exact (ints l)]
theorem nlE_le (l : List Int) : LeL (NL.c ⟨false, l⟩) (nlE l) := .cons (.any _ _ _) .nil
theorem nlT_le : LeL (NL.c ⟨true, []⟩) [.sl true .exact []] := .cons (.any _ _ _) .nil
def wlR : List (List A) := [[.sl false .exact [nlE [0, 1]]], [.sl false .exact [nlE [2, 1]]], [.sl false .exact [nlE [1, 2], nlE [2, 4]]], [.sl false .exact [nlE [1, 2], [.sl true .exact []]]], [.sl false .exact [nlE [1, 7]]], [.sl false .exact [nlE [4, 5]]]]
theorem row1_le {L : List NL} {M : List (List A)} (h : LeR (L.map NL.c) M) : LeL (rowL2 L) [.sl false .exact M] := .cons (.rows h) .nil
theorem wl_le : A.Le (.sl false .any (wlL.map rowL2)) (.sl false .exact wlR) := .rows
  (.cons (row1_le (.cons (nlE_le _) .nil)) (.cons (row1_le (.cons (nlE_le _) .nil)) (.cons (row1_le (.cons (nlE_le _) (.cons (nlE_le _) .nil))) (.cons (row1_le (.cons (nlE_le _) (.cons nlT_le .nil))) (.cons (row1_le (.cons (nlE_le _) .nil)) (.cons (row1_le (.cons (nlE_le _) .nil)) .nil))))))
def wyR : List (List A) := [[.sl true .exact []], yRow (false, List.replicate 5 c00), yRow (false, [⟨50, 1001, 20, 5, 10⟩, cB]), yRow (false, [⟨61, 60, 20, 5, 10⟩, cB]), yRow (false, [cA, ⟨40, 60, 61, 2, 8⟩]), yRow (false, [cA, ⟨40, 60, 30, 8, 2⟩])]
theorem wy_le : A.Le (.sl false .any (wyL.map yRow)) (.sl false .any wyR) := .rows
  (.cons (.cons (.any _ _ _) .nil) (.cons (.cons (.refl _) .nil) (.cons (.cons (.refl _) .nil) (.cons (.cons (.refl _) .nil) (.cons (.cons (.refl _) .nil) (.cons (.cons (.refl _) .nil) .nil))))))
def wbR : List (List A) := [[.int 0, .sl true .exact []], [.int 2, .sl false .any ((bookN 9).ms.map Mv.c)], [.int 3, .sl false .any (([⟨0, 0, 10, 20⟩, ⟨1, 2, 5, 12⟩, ⟨1, 0, 2, 4⟩, ⟨2, 0, 0, 9⟩] : List Mv).map Mv.c)], [.int 3, .sl false .any (([⟨0, 1, 10, 20⟩, ⟨1, 2, 5, 4⟩, ⟨1, 0, 2, 4⟩, ⟨2, 0, 0, 9⟩] : List Mv).map Mv.c)], [.int 3, .sl false .any (([⟨0, 1, 10, 20⟩, ⟨1, 2, 5, 1001⟩, ⟨1, 0, 2, 4⟩, ⟨2, 0, 0, 9⟩] : List Mv).map Mv.c)]]
theorem wb_le : A.Le (.sl false .any (wbL.map Book.c)) (.sl false .any wbR) := .rows
  (.cons (.cons (.refl _) (.cons (.any _ _ _) .nil)) (.cons (.cons (.refl _) (.cons (.refl _) .nil)) (.cons (.cons (.refl _) (.cons (.refl _) .nil)) (.cons (.cons (.refl _) (.cons (.refl _) .nil)) (.cons (.cons (.refl _) (.cons (.refl _) .nil)) .nil)))))
set_option maxRecDepth 100000 in
set_option maxHeartbeats 16000000 in
theorem known_l : Ans Try.prog 15 [] (.bool true) := by
  have hfr : Free (.bool true) := .s _
  refine told Try.func15 rfl rfl (Pure.of tab_ok Try.func15 rfl Try.ntmps15 rfl allN allN hfr fun E hE => ?_)
  have uP : ∀ {n : Nat}, Under n (.sl false .any (wpL.map Pile.c)) := (free_map Pile.free _ _ _).under
  have uL : ∀ {n : Nat}, Under n (.sl false .any (wlL.map rowL2)) := (free_map (fun L => all1 (free_map NL.free _ _ _)) _ _ _).under
  have uY : ∀ {n : Nat}, Under n (.sl false .any (wyL.map yRow)) := (free_map yRow_free _ _ _).under
  have uB : ∀ {n : Nat}, Under n (.sl false .any (wbL.map Book.c)) := (free_map Book.free _ _ _).under
  refine Aw.sm tab_ok mb0 [] rfl rfl ?zo ?zk
  case zo =>
    repeat' apply AllP.cons
    all_goals first | exact trivial
  case zk =>
  refine Aw.ss rfl ?_
  refine RegL.partE tab_ok mb0 false 1 0 [] ?_
  conv => arg 5; whnf
  refine PartK.mk ?zo ?zk
  case zo =>
    repeat' apply AllP.cons
    all_goals first | exact trivial
  case zk =>
  refine Does.raw rfl (DoesR.call rfl rfl (enters_of Try.func59 rfl rfl) (pile_0 _) ?_)
  rintro v H' c' ⟨rfl, rfl, rfl⟩
  refine Does.raw rfl (DoesR.call rfl rfl (enters_of Try.func59 rfl rfl) (pile_2 _) ?_)
  rintro v H' c' ⟨rfl, rfl, rfl⟩
  refine RegL.partE tab_ok mb0 false 5 3 [(3, [.agg pile0.c]), (4, [.agg pile0.c]), (5, [.agg pile0.c]), (6, [.ms 0 0 0])] ?_
  conv => arg 5; whnf
  refine PartK.mk ?zo ?zk
  case zo =>
    repeat' apply AllP.cons
    all_goals first | exact trivial | exact Nat.le_of_ble_eq_true rfl | exact pile0_t
  case zk =>
  refine Aw.sm tab_ok mb0 [] rfl rfl ?zo ?zk
  case zo =>
    repeat' apply AllP.cons
    all_goals first | exact trivial | exact rfl | exact Nat.le_of_ble_eq_true rfl | exact Int.natCast_nonneg _
  case zk =>
  refine Aw.sm tab_ok mb0 [] rfl rfl ?zo ?zk
  case zo =>
    repeat' apply AllP.cons
    all_goals first | exact trivial | exact rfl | exact Nat.le_of_ble_eq_true rfl | exact Int.natCast_nonneg _
  case zk =>
  refine Aw.sm tab_ok mb0 [] rfl rfl ?zo ?zk
  case zo =>
    repeat' apply AllP.cons
    all_goals first | exact trivial | exact rfl | exact Nat.le_of_ble_eq_true rfl | exact Int.natCast_nonneg _
  case zk =>
  refine Aw.sm tab_ok mb0 [] rfl rfl ?zo ?zk
  case zo =>
    repeat' apply AllP.cons
    all_goals first | exact trivial | exact rfl | exact Nat.le_of_ble_eq_true rfl | exact Int.natCast_nonneg _
  case zk =>
  refine Aw.sm tab_ok mb0 [] rfl rfl ?zo ?zk
  case zo =>
    repeat' apply AllP.cons
    all_goals first | exact trivial | exact rfl | exact Nat.le_of_ble_eq_true rfl | exact Int.natCast_nonneg _
  case zk =>
  refine Aw.freezeC (id := 1) (id2 := 4) (j := 3) (n := 7) (sz := 1) (cs := ([30, 40, 50, 0, 45, 60, 25] : List Int).map A.int) (ints [30, 40, 50, 0, 45, 60, 25]) rfl rfl (by decide) (Nat.le_of_ble_eq_true rfl) rfl (rowsI _) rfl ?_
  refine Aw.freezeC (id := 3) (id2 := 4) (j := 6) (n := 7) (sz := 1) (cs := ([30, 40, 50, 501, 45, 60, 25] : List Int).map A.int) (ints [30, 40, 50, 501, 45, 60, 25]) rfl rfl (by decide) (Nat.le_of_ble_eq_true rfl) rfl (rowsI _) rfl ?_
  refine Aw.freezeC (id := 5) (id2 := 4) (j := 15) (n := 11) (sz := 1) (cs := (List.replicate 11 (0 : Int)).map A.int) (ints (List.replicate 11 0)) rfl rfl (by decide) (Nat.le_of_ble_eq_true rfl) rfl (rowsI _) rfl ?_
  refine Aw.freezeS (id := 4) (t := 1) (n := 6) (sz := 3) (cs := wpR.flatten) wpR rfl rfl (rows_of (each_len rfl) rfl) rfl ?_
  refine Aw.keep (n := 0) (cst := [(1, .sl false .any (wpL.map Pile.c))]) (v := []) (Hl := []) hE ?zu ?zw ?zx ⟨?zc, ?zv, ?zh, Nat.le_of_ble_eq_true rfl⟩ ?zr
  case zu =>
    (repeat' (first | exact trivial | exact uP | (refine And.intro ?_ ?_)))
  case zw =>
    (repeat' (first | exact trivial))
  case zx =>
    (repeat' (first | exact trivial))
  case zc =>
    (repeat' (first | (refine And.intro ?_ ?_) | exact trivial | exact wp_le))
  case zv =>
    (repeat' (first | exact trivial))
  case zh =>
    (repeat' (first | exact trivial))
  case zr =>
  refine Aw.seq ?_
  refine Aw.sm tab_ok mb0 [] rfl rfl ?zo ?zk
  case zo =>
    repeat' apply AllP.cons
    all_goals first | exact trivial
  case zk =>
  refine Aw.block (Aw.rounds 0 hE [(1, .sl false .any (wpL.map Pile.c))] (fun i : Nat => [(2, .int i)]) (fun i => []) (fun i => i ≤ 6) (fun i => 6 - i) 0 ?zg ⟨?zc, ?zv, ?zh, Nat.le_of_ble_eq_true rfl⟩ ?zu (fun i zhk => ?zw) (fun i zhk => ?zx) fun i hk => ?zr)
  case zg =>
    (repeat' (first | exact Nat.zero_le _))
  case zc =>
    (repeat' (first | (refine And.intro ?_ ?_) | exact trivial | exact A.Le.refl _))
  case zv =>
    (repeat' (first | (refine And.intro ?_ ?_) | exact trivial | exact A.Le.refl _))
  case zh =>
    (repeat' (first | exact trivial))
  case zu =>
    (repeat' (first | exact trivial | exact uP | (refine And.intro ?_ ?_)))
  case zw =>
    (repeat' (first | exact trivial | exact Under.s _ | (refine And.intro ?_ ?_)))
  case zx =>
    (repeat' (first | exact trivial))
  case zr =>
  refine Aw.seq ?_
  refine Aw.sm tab_ok mb0 [] rfl rfl ?zo ?zk
  case zo =>
    repeat' apply AllP.cons
    all_goals first | exact trivial
  case zk =>
  refine Aw.cond rfl (fun h => Aw.skip ?_) (fun h => ?_)
  · have hlt : i < 6 := by
      have := of_decide_eq_true (show decide ((i : Int) < 6) = true from h); omega
    obtain ⟨p, hr, a1, a2, a3⟩ := wp_calls i hlt
    refine Aw.seq (Aw.block ?_)
    refine Aw.sm tab_ok mb0 [(2, p.c), (4, [.tup [.bool false, .int 60]])] rfl rfl ?zo ?zk
    case zo =>
      repeat' apply AllP.cons
      all_goals first | exact trivial | exact rfl | exact Nat.le_of_ble_eq_true rfl | exact Int.natCast_nonneg _ | exact hr | exact a1
    case zk =>
    refine Aw.sm tab_ok mb0 [(2, p.c), (4, [.tup [setW [], .int 60]])] rfl rfl ?zo ?zk
    case zo =>
      repeat' apply AllP.cons
      all_goals first | exact trivial | exact rfl | exact Nat.le_of_ble_eq_true rfl | exact Int.natCast_nonneg _ | exact hr | exact a2
    case zk =>
    refine Aw.sm tab_ok mb0 [(2, p.c), (4, [.int 60])] rfl rfl ?zo ?zk
    case zo =>
      repeat' apply AllP.cons
      all_goals first | exact trivial | exact id | exact rfl | exact fun _ => rfl | exact Nat.le_of_ble_eq_true rfl | exact Int.natCast_nonneg _ | exact hr | exact a3
    case zk =>
    refine Aw.cond rfl (fun h => by cases h) (fun _ => Aw.skip ?_)
    refine Aw.em tab_ok mb0 [] rfl rfl ?zo ?zk
    case zo =>
      repeat' apply AllP.cons
      all_goals first | exact trivial | exact inrk i (by omega)
    case zk =>
    refine ⟨i + 1, ?zg, ?zm, ⟨?zc, ?zv, ?zh, Nat.le_of_ble_eq_true rfl⟩⟩
    case zg =>
      (repeat' (first | assumption))
    case zm =>
      (repeat' (first | omega))
    case zc =>
      (repeat' (first | (refine And.intro ?_ ?_) | exact trivial | exact A.Le.refl _))
    case zv =>
      (repeat' (first | (refine And.intro ?_ ?_) | exact trivial | exact A.Le.refl _))
    case zh =>
      (repeat' (first | exact trivial))
  refine Aw.exit2 ?_
  refine Aw.keep (n := 0) (cst := []) (v := []) (Hl := []) hE ?zu ?zw ?zx ⟨?zc, ?zv, ?zh, Nat.le_of_ble_eq_true rfl⟩ ?zr
  case zu =>
    (repeat' (first | exact trivial))
  case zw =>
    (repeat' (first | exact trivial))
  case zx =>
    (repeat' (first | exact trivial))
  case zc =>
    (repeat' (first | exact trivial))
  case zv =>
    (repeat' (first | exact trivial))
  case zh =>
    (repeat' (first | exact trivial))
  case zr =>
  refine Aw.sm tab_ok mb0 [] rfl rfl ?zo ?zk
  case zo =>
    repeat' apply AllP.cons
    all_goals first | exact trivial | exact Nat.le_of_ble_eq_true rfl
  case zk =>
  refine Aw.keep (n := 0) (cst := [(7, .sl false .any (wlL.map rowL2))]) (v := []) (Hl := []) hE ?zu ?zw ?zx ⟨?zc, ?zv, ?zh, Nat.le_of_ble_eq_true rfl⟩ ?zr
  case zu =>
    (repeat' (first | exact trivial | exact uL | (refine And.intro ?_ ?_)))
  case zw =>
    (repeat' (first | exact trivial))
  case zx =>
    (repeat' (first | exact trivial))
  case zc =>
    (repeat' (first | (refine And.intro ?_ ?_) | exact trivial | exact wl_le))
  case zv =>
    (repeat' (first | exact trivial))
  case zh =>
    (repeat' (first | exact trivial))
  case zr =>
  refine Aw.seq ?_
  refine Aw.sm tab_ok mb0 [] rfl rfl ?zo ?zk
  case zo =>
    repeat' apply AllP.cons
    all_goals first | exact trivial
  case zk =>
  refine Aw.block (Aw.rounds 0 hE [(7, .sl false .any (wlL.map rowL2))] (fun i : Nat => [(8, .int i)]) (fun i => []) (fun i => i ≤ 6) (fun i => 6 - i) 0 ?zg ⟨?zc, ?zv, ?zh, Nat.le_of_ble_eq_true rfl⟩ ?zu (fun i zhk => ?zw) (fun i zhk => ?zx) fun i hk => ?zr)
  case zg =>
    (repeat' (first | exact Nat.zero_le _))
  case zc =>
    (repeat' (first | (refine And.intro ?_ ?_) | exact trivial | exact A.Le.refl _))
  case zv =>
    (repeat' (first | (refine And.intro ?_ ?_) | exact trivial | exact A.Le.refl _))
  case zh =>
    (repeat' (first | exact trivial))
  case zu =>
    (repeat' (first | exact trivial | exact uL | (refine And.intro ?_ ?_)))
  case zw =>
    (repeat' (first | exact trivial | exact Under.s _ | (refine And.intro ?_ ?_)))
  case zx =>
    (repeat' (first | exact trivial))
  case zr =>
  refine Aw.seq ?_
  refine Aw.sm tab_ok mb0 [] rfl rfl ?zo ?zk
  case zo =>
    repeat' apply AllP.cons
    all_goals first | exact trivial
  case zk =>
  refine Aw.cond rfl (fun h => Aw.skip ?_) (fun h => ?_)
  · have hlt : i < 6 := by
      have := of_decide_eq_true (show decide ((i : Int) < 6) = true from h); omega
    obtain ⟨l, hr, a1⟩ := wl_calls i hlt
    refine Aw.seq (Aw.block ?_)
    refine Aw.sd tab_ok mixed mb0 [(0, [.agg pile0.c]), (3, rowL2 l), (5, [.tup [.bool false, .int 0]])] rfl (by kernel_rfl) rfl rfl ?zo ?zk
    case zo =>
      repeat' apply AllP.cons
      all_goals first | exact trivial | exact rfl | exact Nat.le_of_ble_eq_true rfl | exact Int.natCast_nonneg _ | exact pile0_t | exact hr | exact a1
    case zk =>
    refine Aw.sm tab_ok mb0 [] rfl rfl ?zo ?zk
    case zo =>
      repeat' apply AllP.cons
      all_goals first | exact trivial | exact id | exact fun _ => rfl
    case zk =>
    refine Aw.cond rfl (fun h => by cases h) (fun _ => Aw.skip ?_)
    refine Aw.em tab_ok mb0 [] rfl rfl ?zo ?zk
    case zo =>
      repeat' apply AllP.cons
      all_goals first | exact trivial | exact inrk i (by omega)
    case zk =>
    refine ⟨i + 1, ?zg, ?zm, ⟨?zc, ?zv, ?zh, Nat.le_of_ble_eq_true rfl⟩⟩
    case zg =>
      (repeat' (first | assumption))
    case zm =>
      (repeat' (first | omega))
    case zc =>
      (repeat' (first | (refine And.intro ?_ ?_) | exact trivial | exact A.Le.refl _))
    case zv =>
      (repeat' (first | (refine And.intro ?_ ?_) | exact trivial | exact A.Le.refl _))
    case zh =>
      (repeat' (first | exact trivial))
  refine Aw.exit2 ?_
  refine Aw.keep (n := 0) (cst := []) (v := []) (Hl := []) hE ?zu ?zw ?zx ⟨?zc, ?zv, ?zh, Nat.le_of_ble_eq_true rfl⟩ ?zr
  case zu =>
    (repeat' (first | exact trivial))
  case zw =>
    (repeat' (first | exact trivial))
  case zx =>
    (repeat' (first | exact trivial))
  case zc =>
    (repeat' (first | exact trivial))
  case zv =>
    (repeat' (first | exact trivial))
  case zh =>
    (repeat' (first | exact trivial))
  case zr =>
  refine Aw.sm tab_ok mb0 [(0, [.agg pile0.c])] rfl rfl ?zo ?zk
  case zo =>
    repeat' apply AllP.cons
    all_goals first | exact trivial | exact rfl | exact Nat.le_of_ble_eq_true rfl | exact pile0_t
  case zk =>
  refine Aw.sm tab_ok mb0 [] rfl rfl ?zo ?zk
  case zo =>
    repeat' apply AllP.cons
    all_goals first | exact trivial | exact rfl | exact Nat.le_of_ble_eq_true rfl
  case zk =>
  refine Aw.sm tab_ok mb0 [(1, [.tup [setW [], .int 4]])] rfl rfl ?zo ?zk
  case zo =>
    repeat' apply AllP.cons
    all_goals first | exact trivial | exact Nat.le_of_ble_eq_true rfl | exact k1
  case zk =>
  refine Aw.sm tab_ok mb0 [(0, [.agg pile0.c]), (1, [.tup [.bool true, .int 0]])] rfl rfl ?zo ?zk
  case zo =>
    repeat' apply AllP.cons
    all_goals first | exact trivial | exact pile0_t | exact k2
  case zk =>
  refine Aw.keep (n := 0) (cst := [(13, .int 4), (14, .bool true), (15, .int 0)]) (v := []) (Hl := []) hE ?zu ?zw ?zx ⟨?zc, ?zv, ?zh, Nat.le_of_ble_eq_true rfl⟩ ?zr
  case zu =>
    (repeat' (first | exact trivial | exact Under.s _ | (refine And.intro ?_ ?_)))
  case zw =>
    (repeat' (first | exact trivial))
  case zx =>
    (repeat' (first | exact trivial))
  case zc =>
    (repeat' (first | (refine And.intro ?_ ?_) | exact trivial | exact A.Le.refl _))
  case zv =>
    (repeat' (first | exact trivial))
  case zh =>
    (repeat' (first | exact trivial))
  case zr =>
  refine Aw.sd tab_ok mixed mb0 [(1, [.ms 1 0 2, .pt yardC]), (2, [.ms 2 0 2, .pt yardC]), (3, [.ms 3 0 2, .pt yardC]), (4, [.ms 4 0 2, .pt yardC]), (5, [.ms 0 0 0])] rfl (by kernel_rfl) rfl rfl ?zo ?zk
  case zo =>
    repeat' apply AllP.cons
    all_goals first | exact trivial | exact rfl | exact Nat.le_of_ble_eq_true rfl | exact Int.natCast_nonneg _ | exact yard_b _
  case zk =>
  refine Aw.sm tab_ok mb0 [] rfl rfl ?zo ?zk
  case zo =>
    repeat' apply AllP.cons
    all_goals first | exact trivial | exact rfl | exact Nat.le_of_ble_eq_true rfl | exact Int.natCast_nonneg _
  case zk =>
  refine Aw.sm tab_ok mb0 [] rfl rfl ?zo ?zk
  case zo =>
    repeat' apply AllP.cons
    all_goals first | exact trivial | exact rfl | exact Nat.le_of_ble_eq_true rfl | exact Int.natCast_nonneg _
  case zk =>
  refine Aw.sm tab_ok mb0 [] rfl rfl ?zo ?zk
  case zo =>
    repeat' apply AllP.cons
    all_goals first | exact trivial | exact rfl | exact Nat.le_of_ble_eq_true rfl | exact Int.natCast_nonneg _
  case zk =>
  refine Aw.sd tab_ok mixed mb0 [(3, [.agg (Sp.c ⟨8, 2⟩)])] rfl (by kernel_rfl) rfl rfl ?zo ?zk
  case zo =>
    repeat' apply AllP.cons
    all_goals first | exact trivial | exact rfl | exact Nat.le_of_ble_eq_true rfl | exact Int.natCast_nonneg _ | exact to_t _ _
  case zk =>
  refine Aw.freezeC (id := 0) (id2 := 5) (j := 1) (n := 5) (sz := 5) (cs := ((List.replicate 5 c00).map Cask.c).flatten) ((List.replicate 5 c00).map Cask.c) rfl rfl (by decide) (Nat.le_of_ble_eq_true rfl) rfl (rows_all (c := Cask.c) (sz := 5) (fun m => rfl) (fun m => rfl) _) rfl ?_
  refine Aw.freezeC (id := 1) (id2 := 5) (j := 2) (n := 2) (sz := 5) (cs := (([⟨50, 1001, 20, 5, 10⟩, cB] : List Cask).map Cask.c).flatten) (([⟨50, 1001, 20, 5, 10⟩, cB] : List Cask).map Cask.c) rfl rfl (by decide) (Nat.le_of_ble_eq_true rfl) rfl (rows_all (c := Cask.c) (sz := 5) (fun m => rfl) (fun m => rfl) _) rfl ?_
  refine Aw.freezeC (id := 2) (id2 := 5) (j := 3) (n := 2) (sz := 5) (cs := (([⟨61, 60, 20, 5, 10⟩, cB] : List Cask).map Cask.c).flatten) (([⟨61, 60, 20, 5, 10⟩, cB] : List Cask).map Cask.c) rfl rfl (by decide) (Nat.le_of_ble_eq_true rfl) rfl (rows_all (c := Cask.c) (sz := 5) (fun m => rfl) (fun m => rfl) _) rfl ?_
  refine Aw.freezeC (id := 3) (id2 := 5) (j := 4) (n := 2) (sz := 5) (cs := (([cA, ⟨40, 60, 61, 2, 8⟩] : List Cask).map Cask.c).flatten) (([cA, ⟨40, 60, 61, 2, 8⟩] : List Cask).map Cask.c) rfl rfl (by decide) (Nat.le_of_ble_eq_true rfl) rfl (rows_all (c := Cask.c) (sz := 5) (fun m => rfl) (fun m => rfl) _) rfl ?_
  refine Aw.freezeC (id := 4) (id2 := 5) (j := 5) (n := 2) (sz := 5) (cs := (([cA, ⟨40, 60, 30, 8, 2⟩] : List Cask).map Cask.c).flatten) (([cA, ⟨40, 60, 30, 8, 2⟩] : List Cask).map Cask.c) rfl rfl (by decide) (Nat.le_of_ble_eq_true rfl) rfl (rows_all (c := Cask.c) (sz := 5) (fun m => rfl) (fun m => rfl) _) rfl ?_
  refine Aw.freezeS (id := 5) (t := 16) (n := 6) (sz := 1) (cs := wyR.flatten) wyR rfl rfl (rows_of (each_len rfl) rfl) rfl ?_
  refine Aw.keep (n := 0) (cst := [(13, .int 4), (14, .bool true), (15, .int 0), (16, .sl false .any (wyL.map yRow))]) (v := []) (Hl := []) hE ?zu ?zw ?zx ⟨?zc, ?zv, ?zh, Nat.le_of_ble_eq_true rfl⟩ ?zr
  case zu =>
    (repeat' (first | exact trivial | exact Under.s _ | exact uY | (refine And.intro ?_ ?_)))
  case zw =>
    (repeat' (first | exact trivial))
  case zx =>
    (repeat' (first | exact trivial))
  case zc =>
    (repeat' (first | (refine And.intro ?_ ?_) | exact trivial | exact A.Le.refl _ | exact wy_le))
  case zv =>
    (repeat' (first | exact trivial))
  case zh =>
    (repeat' (first | exact trivial))
  case zr =>
  refine Aw.seq ?_
  refine Aw.sm tab_ok mb0 [] rfl rfl ?zo ?zk
  case zo =>
    repeat' apply AllP.cons
    all_goals first | exact trivial
  case zk =>
  refine Aw.block (Aw.rounds 0 hE [(13, .int 4), (14, .bool true), (15, .int 0), (16, .sl false .any (wyL.map yRow))] (fun i : Nat => [(17, .int i)]) (fun i => []) (fun i => i ≤ 6) (fun i => 6 - i) 0 ?zg ⟨?zc, ?zv, ?zh, Nat.le_of_ble_eq_true rfl⟩ ?zu (fun i zhk => ?zw) (fun i zhk => ?zx) fun i hk => ?zr)
  case zg =>
    (repeat' (first | exact Nat.zero_le _))
  case zc =>
    (repeat' (first | (refine And.intro ?_ ?_) | exact trivial | exact A.Le.refl _))
  case zv =>
    (repeat' (first | (refine And.intro ?_ ?_) | exact trivial | exact A.Le.refl _))
  case zh =>
    (repeat' (first | exact trivial))
  case zu =>
    (repeat' (first | exact trivial | exact Under.s _ | exact uY | (refine And.intro ?_ ?_)))
  case zw =>
    (repeat' (first | exact trivial | exact Under.s _ | (refine And.intro ?_ ?_)))
  case zx =>
    (repeat' (first | exact trivial))
  case zr =>
  refine Aw.seq ?_
  refine Aw.sm tab_ok mb0 [] rfl rfl ?zo ?zk
  case zo =>
    repeat' apply AllP.cons
    all_goals first | exact trivial
  case zk =>
  refine Aw.cond rfl (fun h => Aw.skip ?_) (fun h => ?_)
  · have hlt : i < 6 := by
      have := of_decide_eq_true (show decide ((i : Int) < 6) = true from h); omega
    obtain ⟨x, hr, a1, a2, a3, a4⟩ := wy_calls i hlt
    refine Aw.seq (Aw.block ?_)
    refine Aw.sm tab_ok mb0 [(2, yRow x), (5, [.tup [outW [], .int 0, .int 61]])] rfl rfl ?zo ?zk
    case zo =>
      repeat' apply AllP.cons
      all_goals first | exact trivial | exact rfl | exact Nat.le_of_ble_eq_true rfl | exact Int.natCast_nonneg _ | exact hr | exact a1
    case zk =>
    refine Aw.sm tab_ok mb0 [(2, yRow x), (4, [.tup [.int 0, .int 0, .int 61]])] rfl rfl ?zo ?zk
    case zo =>
      repeat' apply AllP.cons
      all_goals first | exact trivial | exact rfl | exact Nat.le_of_ble_eq_true rfl | exact Int.natCast_nonneg _ | exact hr | exact a2
    case zk =>
    refine Aw.sm tab_ok mb0 [(2, yRow x), (4, [.tup [outW [], .int 61]])] rfl rfl ?zo ?zk
    case zo =>
      repeat' apply AllP.cons
      all_goals first | exact trivial | exact rfl | exact Nat.le_of_ble_eq_true rfl | exact Int.natCast_nonneg _ | exact hr | exact a3
    case zk =>
    refine Aw.sm tab_ok mb0 [(2, yRow x), (4, [.int 61])] rfl rfl ?zo ?zk
    case zo =>
      repeat' apply AllP.cons
      all_goals first | exact trivial | exact id | exact rfl | exact fun _ => rfl | exact Nat.le_of_ble_eq_true rfl | exact Int.natCast_nonneg _ | exact hr | exact a4
    case zk =>
    refine Aw.cond rfl (fun h => by cases h) (fun _ => Aw.skip ?_)
    refine Aw.em tab_ok mb0 [] rfl rfl ?zo ?zk
    case zo =>
      repeat' apply AllP.cons
      all_goals first | exact trivial | exact inrk i (by omega)
    case zk =>
    refine ⟨i + 1, ?zg, ?zm, ⟨?zc, ?zv, ?zh, Nat.le_of_ble_eq_true rfl⟩⟩
    case zg =>
      (repeat' (first | assumption))
    case zm =>
      (repeat' (first | omega))
    case zc =>
      (repeat' (first | (refine And.intro ?_ ?_) | exact trivial | exact A.Le.refl _))
    case zv =>
      (repeat' (first | (refine And.intro ?_ ?_) | exact trivial | exact A.Le.refl _))
    case zh =>
      (repeat' (first | exact trivial))
  refine Aw.exit2 ?_
  refine Aw.keep (n := 0) (cst := [(13, .int 4), (14, .bool true), (15, .int 0)]) (v := []) (Hl := []) hE ?zu ?zw ?zx ⟨?zc, ?zv, ?zh, Nat.le_of_ble_eq_true rfl⟩ ?zr
  case zu =>
    (repeat' (first | exact trivial | exact Under.s _ | (refine And.intro ?_ ?_)))
  case zw =>
    (repeat' (first | exact trivial))
  case zx =>
    (repeat' (first | exact trivial))
  case zc =>
    (repeat' (first | (refine And.intro ?_ ?_) | exact trivial | exact A.Le.refl _))
  case zv =>
    (repeat' (first | exact trivial))
  case zh =>
    (repeat' (first | exact trivial))
  case zr =>
  refine Aw.sm tab_ok mb0 [(0, [.sl false .any (yard0.map Cask.c)]), (4, [.tup [outW [], .int 0, .int 62]])] rfl rfl ?zo ?zk
  case zo =>
    repeat' apply AllP.cons
    all_goals first | exact trivial | exact Nat.le_of_ble_eq_true rfl | exact yard0_t | exact k3
  case zk =>
  refine Aw.sm tab_ok mb0 [(0, [.sl false .any (yard0.map Cask.c)]), (4, [.tup [outW [], .int 0, .int 62]])] rfl rfl ?zo ?zk
  case zo =>
    repeat' apply AllP.cons
    all_goals first | exact trivial | exact Nat.le_of_ble_eq_true rfl | exact yard0_t | exact k4
  case zk =>
  refine Aw.sm tab_ok mb0 [(0, [.sl false .any (yard0.map Cask.c)]), (2, [.tup [outW [], .int 0, .int 62]])] rfl rfl ?zo ?zk
  case zo =>
    repeat' apply AllP.cons
    all_goals first | exact trivial | exact Nat.le_of_ble_eq_true rfl | exact yard0_t | exact k5
  case zk =>
  refine Aw.sm tab_ok mb0 [(0, [.sl false .any (yard0.map Cask.c)]), (1, [.tup [.int 0, .int 0, .int 62]])] rfl rfl ?zo ?zk
  case zo =>
    repeat' apply AllP.cons
    all_goals first | exact trivial | exact yard0_t | exact k7
  case zk =>
  refine Aw.sm tab_ok mb0 [(0, [.sl false .any (yard0.map Cask.c)]), (1, [.tup [outW [], .int 62]])] rfl rfl ?zo ?zk
  case zo =>
    repeat' apply AllP.cons
    all_goals first | exact trivial | exact yard0_t | exact k8
  case zk =>
  refine Aw.sm tab_ok mb0 [(0, [.sl false .any (yard0.map Cask.c)]), (1, [.tup [.int 0, .int 0, .int 4]])] rfl rfl ?zo ?zk
  case zo =>
    repeat' apply AllP.cons
    all_goals first | exact trivial | exact yard0_t | exact k9
  case zk =>
  refine Aw.sm tab_ok mb0 [(0, [.sl false .any (yard0.map Cask.c)]), (5, [.tup [outW [30, 24], .int 1, .int 0]])] rfl rfl ?zo ?zk
  case zo =>
    repeat' apply AllP.cons
    all_goals first | exact trivial | exact Nat.le_of_ble_eq_true rfl | exact yard0_t | exact k6
  case zk =>
  have uo : ∀ {n : Nat}, Under n (outW [30, 24]) := (outW_free _).under
  refine Aw.keep (n := 0) (cst := [(13, .int 4), (14, .bool true), (15, .int 0), (28, .int 62), (31, .int 62), (34, .int 62), (37, .int 62), (39, .int 62), (42, .int 4), (43, outW [30, 24]), (44, .int 1), (45, .int 0)]) (v := []) (Hl := []) hE ?zu ?zw ?zx ⟨?zc, ?zv, ?zh, Nat.le_of_ble_eq_true rfl⟩ ?zr
  case zu =>
    (repeat' (first | exact trivial | exact Under.s _ | exact (free_ints _ _ _).under | (refine And.intro ?_ ?_)))
  case zw =>
    (repeat' (first | exact trivial))
  case zx =>
    (repeat' (first | exact trivial))
  case zc =>
    (repeat' (first | (refine And.intro ?_ ?_) | exact trivial | exact A.Le.refl _))
  case zv =>
    (repeat' (first | exact trivial))
  case zh =>
    (repeat' (first | exact trivial))
  case zr =>
  refine Aw.ss rfl ?_
  refine Does.raw rfl (DoesR.call (fst := []) (cap := []) rfl rfl (enters_of Try.func60 rfl rfl) (yard_s _) ?_)
  rintro v H' c' ⟨rfl, rfl, rfl⟩
  refine RegL.partE tab_ok mb0 false 1 1 [] ?_
  conv => arg 5; whnf
  refine PartK.mk ?zo ?zk
  case zo =>
    repeat' apply AllP.cons
    all_goals first | exact trivial
  case zk =>
  refine Aw.sm tab_ok mb0 [] rfl rfl ?zo ?zk
  case zo =>
    repeat' apply AllP.cons
    all_goals first | exact trivial | exact rfl | exact Nat.le_of_ble_eq_true rfl | exact Int.natCast_nonneg _
  case zk =>
  refine Aw.freezeS (id := 0) (t := 46) (n := 2) (sz := 5) (cs := (lowY.map Cask.c).flatten) (lowY.map Cask.c) rfl rfl (rows_all (c := Cask.c) (sz := 5) (fun m => rfl) (fun m => rfl) _) rfl ?_
  refine Aw.sm tab_ok mb0 [(1, [.tup [outW [], .int 4]])] rfl rfl ?zo ?zk
  case zo =>
    repeat' apply AllP.cons
    all_goals first | exact trivial | exact k10
  case zk =>
  refine Aw.sm tab_ok mb0 [(1, [.tup [outW [], .int 0]])] rfl rfl ?zo ?zk
  case zo =>
    repeat' apply AllP.cons
    all_goals first | exact trivial | exact k11
  case zk =>
  refine Aw.seq ?_
  have k21 : Ans Try.prog 25 [outW [30, 24], .sl false .exact (ints [30, 24])] (.bool true) := same_e [30, 24] [30, 24] false (by decide)
  refine Aw.sm tab_ok mb0 [(45, [.bool true])] rfl rfl ?zo ?zk
  case zo =>
    repeat' apply AllP.cons
    all_goals first | exact trivial | exact id | exact fun _ => rfl | exact fun _ => Nat.le_of_ble_eq_true rfl | exact fun _ => k21
  case zk =>
  refine Aw.cond rfl (fun h => by cases h) (fun _ => Aw.skip ?_)
  refine Aw.keep (n := 0) (cst := []) (v := []) (Hl := []) hE ?zu ?zw ?zx ⟨?zc, ?zv, ?zh, Nat.le_of_ble_eq_true rfl⟩ ?zr
  case zu =>
    (repeat' (first | exact trivial))
  case zw =>
    (repeat' (first | exact trivial))
  case zx =>
    (repeat' (first | exact trivial))
  case zc =>
    (repeat' (first | exact trivial))
  case zv =>
    (repeat' (first | exact trivial))
  case zh =>
    (repeat' (first | exact trivial))
  case zr =>
  refine Aw.ss rfl ?_
  refine RegL.partE tab_ok mb0 false 2 0 [(1, [.agg (bookN 9).c])] ?_
  conv => arg 5; whnf
  refine PartK.mk ?zo ?zk
  case zo =>
    repeat' apply AllP.cons
    all_goals first | exact trivial | exact bookN_t _
  case zk =>
  refine Does.raw rfl (DoesR.call (fst := []) (cap := []) rfl rfl (enters_of Try.func61 rfl rfl) (book_0 _) ?_)
  rintro v H' c' ⟨rfl, rfl, rfl⟩
  refine Does.raw rfl (DoesR.call (fst := []) (cap := []) rfl rfl (enters_of Try.func61 rfl rfl) (book_2 _) ?_)
  rintro v H' c' ⟨rfl, rfl, rfl⟩
  refine Does.raw rfl (DoesR.call (fst := []) (cap := []) rfl rfl (enters_of Try.func61 rfl rfl) (book_4 _) ?_)
  rintro v H' c' ⟨rfl, rfl, rfl⟩
  refine RegL.partE tab_ok mb0 false 2 5 [(5, [.ms 0 0 0])] ?_
  conv => arg 5; whnf
  refine PartK.mk ?zo ?zk
  case zo =>
    repeat' apply AllP.cons
    all_goals first | exact trivial | exact Nat.le_of_ble_eq_true rfl
  case zk =>
  refine Aw.sm tab_ok mb0 [] rfl rfl ?zo ?zk
  case zo =>
    repeat' apply AllP.cons
    all_goals first | exact trivial | exact rfl | exact Nat.le_of_ble_eq_true rfl | exact Int.natCast_nonneg _
  case zk =>
  refine Aw.sm tab_ok mb0 [] rfl rfl ?zo ?zk
  case zo =>
    repeat' apply AllP.cons
    all_goals first | exact trivial | exact rfl | exact Nat.le_of_ble_eq_true rfl | exact Int.natCast_nonneg _
  case zk =>
  refine Aw.sd tab_ok mixed mb0 [(4, [.agg (Sp.c ⟨5, 4⟩)])] rfl (by kernel_rfl) rfl rfl ?zo ?zk
  case zo =>
    repeat' apply AllP.cons
    all_goals first | exact trivial | exact rfl | exact Nat.le_of_ble_eq_true rfl | exact Int.natCast_nonneg _ | exact to_t _ _
  case zk =>
  refine Aw.sd tab_ok mixed mb0 [(4, [.agg (Sp.c ⟨5, 1001⟩)])] rfl (by kernel_rfl) rfl rfl ?zo ?zk
  case zo =>
    repeat' apply AllP.cons
    all_goals first | exact trivial | exact rfl | exact Nat.le_of_ble_eq_true rfl | exact Int.natCast_nonneg _ | exact to_t _ _
  case zk =>
  refine Aw.freezeC (id := 1) (id2 := 6) (j := 5) (n := 4) (sz := 4) (cs := (([⟨0, 0, 10, 20⟩, ⟨1, 2, 5, 12⟩, ⟨1, 0, 2, 4⟩, ⟨2, 0, 0, 9⟩] : List Mv).map Mv.c).flatten) (([⟨0, 0, 10, 20⟩, ⟨1, 2, 5, 12⟩, ⟨1, 0, 2, 4⟩, ⟨2, 0, 0, 9⟩] : List Mv).map Mv.c) rfl rfl (by decide) (Nat.le_of_ble_eq_true rfl) rfl (rows_all (c := Mv.c) (sz := 4) (fun m => rfl) (fun m => rfl) _) rfl ?_
  refine Aw.freezeC (id := 3) (id2 := 6) (j := 7) (n := 4) (sz := 4) (cs := (([⟨0, 1, 10, 20⟩, ⟨1, 2, 5, 4⟩, ⟨1, 0, 2, 4⟩, ⟨2, 0, 0, 9⟩] : List Mv).map Mv.c).flatten) (([⟨0, 1, 10, 20⟩, ⟨1, 2, 5, 4⟩, ⟨1, 0, 2, 4⟩, ⟨2, 0, 0, 9⟩] : List Mv).map Mv.c) rfl rfl (by decide) (Nat.le_of_ble_eq_true rfl) rfl (rows_all (c := Mv.c) (sz := 4) (fun m => rfl) (fun m => rfl) _) rfl ?_
  refine Aw.freezeC (id := 5) (id2 := 6) (j := 9) (n := 4) (sz := 4) (cs := (([⟨0, 1, 10, 20⟩, ⟨1, 2, 5, 1001⟩, ⟨1, 0, 2, 4⟩, ⟨2, 0, 0, 9⟩] : List Mv).map Mv.c).flatten) (([⟨0, 1, 10, 20⟩, ⟨1, 2, 5, 1001⟩, ⟨1, 0, 2, 4⟩, ⟨2, 0, 0, 9⟩] : List Mv).map Mv.c) rfl rfl (by decide) (Nat.le_of_ble_eq_true rfl) rfl (rows_all (c := Mv.c) (sz := 4) (fun m => rfl) (fun m => rfl) _) rfl ?_
  refine Aw.freezeS (id := 6) (t := 51) (n := 5) (sz := 2) (cs := wbR.flatten) wbR rfl rfl (rows_of (each_len rfl) rfl) rfl ?_
  refine Aw.keep (n := 0) (cst := [(51, .sl false .any (wbL.map Book.c))]) (v := []) (Hl := []) hE ?zu ?zw ?zx ⟨?zc, ?zv, ?zh, Nat.le_of_ble_eq_true rfl⟩ ?zr
  case zu =>
    (repeat' (first | exact trivial | exact uB | (refine And.intro ?_ ?_)))
  case zw =>
    (repeat' (first | exact trivial))
  case zx =>
    (repeat' (first | exact trivial))
  case zc =>
    (repeat' (first | (refine And.intro ?_ ?_) | exact trivial | exact wb_le))
  case zv =>
    (repeat' (first | exact trivial))
  case zh =>
    (repeat' (first | exact trivial))
  case zr =>
  refine Aw.seq ?_
  refine Aw.sm tab_ok mb0 [] rfl rfl ?zo ?zk
  case zo =>
    repeat' apply AllP.cons
    all_goals first | exact trivial
  case zk =>
  refine Aw.block (Aw.rounds 0 hE [(51, .sl false .any (wbL.map Book.c))] (fun i : Nat => [(52, .int i)]) (fun i => []) (fun i => i ≤ 5) (fun i => 5 - i) 0 ?zg ⟨?zc, ?zv, ?zh, Nat.le_of_ble_eq_true rfl⟩ ?zu (fun i zhk => ?zw) (fun i zhk => ?zx) fun i hk => ?zr)
  case zg =>
    (repeat' (first | exact Nat.zero_le _))
  case zc =>
    (repeat' (first | (refine And.intro ?_ ?_) | exact trivial | exact A.Le.refl _))
  case zv =>
    (repeat' (first | (refine And.intro ?_ ?_) | exact trivial | exact A.Le.refl _))
  case zh =>
    (repeat' (first | exact trivial))
  case zu =>
    (repeat' (first | exact trivial | exact uB | (refine And.intro ?_ ?_)))
  case zw =>
    (repeat' (first | exact trivial | exact Under.s _ | (refine And.intro ?_ ?_)))
  case zx =>
    (repeat' (first | exact trivial))
  case zr =>
  refine Aw.seq ?_
  refine Aw.sm tab_ok mb0 [] rfl rfl ?zo ?zk
  case zo =>
    repeat' apply AllP.cons
    all_goals first | exact trivial
  case zk =>
  refine Aw.cond rfl (fun h => Aw.skip ?_) (fun h => ?_)
  · have hlt : i < 5 := by
      have := of_decide_eq_true (show decide ((i : Int) < 5) = true from h); omega
    obtain ⟨b, hr, a1, a2, a3, a4, a5⟩ := wb_calls i hlt
    refine Aw.seq (Aw.block ?_)
    refine Aw.sm tab_ok mb0 [(2, b.c), (4, [.tup [.bool false, .int 63]])] rfl rfl ?zo ?zk
    case zo =>
      repeat' apply AllP.cons
      all_goals first | exact trivial | exact rfl | exact Nat.le_of_ble_eq_true rfl | exact Int.natCast_nonneg _ | exact hr | exact a1
    case zk =>
    refine Aw.sm tab_ok mb0 [(2, b.c), (4, [.tup [spW [], .int 63]])] rfl rfl ?zo ?zk
    case zo =>
      repeat' apply AllP.cons
      all_goals first | exact trivial | exact rfl | exact Nat.le_of_ble_eq_true rfl | exact Int.natCast_nonneg _ | exact hr | exact a2
    case zk =>
    refine Aw.sm tab_ok mb0 [(2, b.c), (4, [.tup [.bool false, .int 63]])] rfl rfl ?zo ?zk
    case zo =>
      repeat' apply AllP.cons
      all_goals first | exact trivial | exact rfl | exact Nat.le_of_ble_eq_true rfl | exact Int.natCast_nonneg _ | exact hr | exact a3
    case zk =>
    refine Aw.sm tab_ok mb0 [(2, b.c), (4, [.tup [.int 0, .int 63]])] rfl rfl ?zo ?zk
    case zo =>
      repeat' apply AllP.cons
      all_goals first | exact trivial | exact rfl | exact Nat.le_of_ble_eq_true rfl | exact Int.natCast_nonneg _ | exact hr | exact a4
    case zk =>
    refine Aw.sm tab_ok mb0 [(2, b.c), (4, [.int 63])] rfl rfl ?zo ?zk
    case zo =>
      repeat' apply AllP.cons
      all_goals first | exact trivial | exact id | exact rfl | exact fun _ => rfl | exact Nat.le_of_ble_eq_true rfl | exact Int.natCast_nonneg _ | exact hr | exact a5
    case zk =>
    refine Aw.cond rfl (fun h => by cases h) (fun _ => Aw.skip ?_)
    refine Aw.em tab_ok mb0 [] rfl rfl ?zo ?zk
    case zo =>
      repeat' apply AllP.cons
      all_goals first | exact trivial | exact inrk i (by omega)
    case zk =>
    refine ⟨i + 1, ?zg, ?zm, ⟨?zc, ?zv, ?zh, Nat.le_of_ble_eq_true rfl⟩⟩
    case zg =>
      (repeat' (first | assumption))
    case zm =>
      (repeat' (first | omega))
    case zc =>
      (repeat' (first | (refine And.intro ?_ ?_) | exact trivial | exact A.Le.refl _))
    case zv =>
      (repeat' (first | (refine And.intro ?_ ?_) | exact trivial | exact A.Le.refl _))
    case zh =>
      (repeat' (first | exact trivial))
  refine Aw.exit2 ?_
  refine Aw.keep (n := 0) (cst := []) (v := []) (Hl := []) hE ?zu ?zw ?zx ⟨?zc, ?zv, ?zh, Nat.le_of_ble_eq_true rfl⟩ ?zr
  case zu =>
    (repeat' (first | exact trivial))
  case zw =>
    (repeat' (first | exact trivial))
  case zx =>
    (repeat' (first | exact trivial))
  case zc =>
    (repeat' (first | exact trivial))
  case zv =>
    (repeat' (first | exact trivial))
  case zh =>
    (repeat' (first | exact trivial))
  case zr =>
  refine Aw.sm tab_ok mb0 [(0, [.agg (bookN 9).c]), (2, [.tup [.bool false, .int 0]])] rfl rfl ?zo ?zk
  case zo =>
    repeat' apply AllP.cons
    all_goals first | exact trivial | exact Nat.le_of_ble_eq_true rfl | exact bookN_t _ | exact k12
  case zk =>
  refine Aw.sm tab_ok mb0 [(0, [.agg (bookN 9).c]), (2, [.tup [.bool false, .int 0]])] rfl rfl ?zo ?zk
  case zo =>
    repeat' apply AllP.cons
    all_goals first | exact trivial | exact Nat.le_of_ble_eq_true rfl | exact bookN_t _ | exact k13
  case zk =>
  refine Aw.sm tab_ok mb0 [(0, [.agg (bookN 9).c]), (2, [.tup [.bool false, .int 64]])] rfl rfl ?zo ?zk
  case zo =>
    repeat' apply AllP.cons
    all_goals first | exact trivial | exact Nat.le_of_ble_eq_true rfl | exact bookN_t _ | exact k14
  case zk =>
  refine Aw.sm tab_ok mb0 [(0, [.agg (bookN 9).c]), (1, [.tup [.bool false, .int 64]])] rfl rfl ?zo ?zk
  case zo =>
    repeat' apply AllP.cons
    all_goals first | exact trivial | exact bookN_t _ | exact k15
  case zk =>
  refine Aw.sm tab_ok mb0 [(0, [.agg (bookN 9).c]), (1, [.tup [.bool false, .int 64]])] rfl rfl ?zo ?zk
  case zo =>
    repeat' apply AllP.cons
    all_goals first | exact trivial | exact bookN_t _ | exact k16
  case zk =>
  refine Aw.sm tab_ok mb0 [(0, [.agg (bookN 4).c]), (1, [.tup [spW [], .int 65]])] rfl rfl ?zo ?zk
  case zo =>
    repeat' apply AllP.cons
    all_goals first | exact trivial | exact bookN_t _ | exact k17
  case zk =>
  refine Aw.sm tab_ok mb0 [(0, [.agg (bookN 9).c]), (1, [.tup [.int 0, .int 4]])] rfl rfl ?zo ?zk
  case zo =>
    repeat' apply AllP.cons
    all_goals first | exact trivial | exact bookN_t _ | exact k18
  case zk =>
  refine Aw.sm tab_ok mb0 [(0, [.agg (bookN 4).c]), (1, [.tup [.int 1, .int 0]])] rfl rfl ?zo ?zk
  case zo =>
    repeat' apply AllP.cons
    all_goals first | exact trivial | exact bookN_t _ | exact k19
  case zk =>
  refine Aw.sm tab_ok mb0 [(0, [.agg (bookN 4).c]), (1, [.tup [.bool false, .int 0]])] rfl rfl ?zo ?zk
  case zo =>
    repeat' apply AllP.cons
    all_goals first | exact trivial | exact bookN_t _ | exact k20
  case zk =>
  refine Aw.sm tab_ok mb0 [(53, [.bool true])] rfl rfl ?zo ?zk
  case zo =>
    repeat' apply AllP.cons
    all_goals first | exact trivial | exact id | exact fun _ => rfl | exact fun _ => works_t
  case zk =>
  exact Aw.ret ⟨_, .cons (.tmp _) .nil, rfl⟩
end Go.Proofs.Ytampldajinhenaa

namespace Go.Proofs.Ytampldajinhenaa
open Go Go.AL Go.ChangeShapes Go.WideShapes Go.ChangeAt Go.RowKit
set_option maxRecDepth 100000 in
theorem barrelKnown_lifted (os : Os) (started : os.Started) (H : Type) (enc : TypeId × Value → H) :
    ReturnsInHanded {} Try.checked os 15 .any (Rows.barrelKnownSpec.pre6 enc Try.prog Try.f15 [] false) (Rows.barrelKnownSpec.post enc Try.prog Try.f15 false true false false) := by
  refine lifted2 (tb := 4) (C := Try.checked) own started (by kernel_rfl) Try.func15
    (ChangeSpec.witness6 (enc := enc) (C := Try.checked) false ⟨#[], #[], []⟩ 8 (by kernel_rfl) (by kernel_rfl) (by kernel_rfl) (by kernel_rfl))
    laidOut ?_ rfl rfl (by kernel_rfl) uBool ?_ ?_
  · rw [Try.params15]; intro t ht; cases ht
  · intro ds hd
    rw [Try.params15] at hd
    match ds, hd with
    | [], _ => rfl
  · intro W base args ds p hval hA hwt
    rw [Try.params15] at hA hval
    obtain ⟨h1, _, _⟩ := trodAll_nil hA
    have e : args = #[] := by cases args; simp_all
    subst e
    exact ⟨fun _ => none, [], VRs.nil _ _ _, known_l⟩
theorem barrelKnown_holds : Rows.BarrelKnownSaid :=
  OpenClaim.holds_of_wide 15 Try.f15 rfl rfl rfl rfl rfl rfl rfl ⟨rfl, rfl, rfl, rfl, rfl⟩ rfl rfl rfl rfl rfl (by kernel_rfl) Try.func15 (by kernel_rfl)
    (of_decide_eq_true (by kernel_rfl)) (by unfold Func.isWrapper; first | (rw [if_pos (by decide +kernel)]; kernel_rfl) | (rw [if_neg (by decide +kernel)]; exact ⟨rfl, rfl⟩))
    (fun os started H enc _ => barrelKnown_lifted os started H enc)
end Go.Proofs.Ytampldajinhenaa

