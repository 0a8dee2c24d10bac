/- GutKnown holds: what is said of single days, lots and workers (closed). No condition. -/
import Derived.Test.YtimikmfkdaoaaaaK5
set_option linter.all false
namespace Go.Proofs.Ytimikmfkdaoaaaa
open Go Go.AL
def yl : List Lot := [⟨10, 0, 20, 1⟩, ⟨8, 1, 30, 3⟩, ⟨12, 2, 40, 5⟩]
def yw : List Wk := [⟨0, 0, 3, 3⟩, ⟨1, 2, 5, 1⟩, ⟨2, 4, 4, 5⟩]
def yh : List Spn := [⟨5, 6⟩, ⟨5, 8⟩, ⟨6, 10⟩, ⟨6, 10⟩, ⟨4, 8⟩, ⟨3, 6⟩]
def bad1 : Day := ⟨5, false, yh, false, yl, false, yw⟩
def bad2 : Day := ⟨6, false, [⟨6, 5⟩, ⟨5, 8⟩, ⟨6, 10⟩, ⟨6, 10⟩, ⟨4, 8⟩, ⟨3, 6⟩], false, yl, false, yw⟩
def bad3 : Day := ⟨6, false, yh, false, [⟨0, 0, 20, 1⟩, ⟨8, 1, 30, 3⟩, ⟨12, 2, 40, 5⟩], false, yw⟩
def bad4 : Day := ⟨6, false, yh, false, [⟨10, 0, 20, 1⟩, ⟨8, 6, 30, 3⟩, ⟨12, 2, 40, 5⟩], false, yw⟩
def bad5 : Day := ⟨6, false, yh, false, [⟨10, 0, 20, 1⟩, ⟨8, 1, 30, 3⟩, ⟨12, 2, 40, 8⟩], false, yw⟩
def bad6 : Day := ⟨6, false, yh, false, yl, false, [⟨3, 0, 3, 3⟩, ⟨1, 2, 5, 1⟩, ⟨2, 4, 4, 5⟩]⟩
def bad7 : Day := ⟨6, false, yh, false, yl, false, [⟨0, 0, 3, 3⟩, ⟨1, 2, 1, 1⟩, ⟨2, 4, 4, 5⟩]⟩
def bad8 : Day := ⟨6, false, yh, false, yl, false, [⟨0, 0, 3, 3⟩, ⟨1, 2, 5, 1⟩, ⟨2, 4, 4, 21⟩]⟩
def bad0 : Day := ⟨0, true, [], true, [], true, []⟩
def badL : List Day := [bad1, bad2, bad3, bad4, bad5, bad6, bad7, bad8]
def zeroC : List A := [.int 0, .sl true .exact [], .sl true .exact [], .sl true .exact []]
def badR : List (List A) := zeroC :: badL.map Day.c
theorem bad_all : ∀ r ∈ badR, ∃ x : Day, x.ok = false ∧ Small x ∧ A.Le (.agg x.c) (.agg r) := fun r hr => by
  rcases List.mem_cons.1 hr with rfl | h
  · exact ⟨bad0, by decide +kernel, ⟨by decide, by decide, by decide⟩, le_agg4 (.refl _) (.any _ _ _) (.any _ _ _) (.any _ _ _)⟩
  · obtain ⟨x, hx, rfl⟩ := List.mem_map.1 h
    refine ⟨x, ?_, ?_, .refl _⟩
    · exact (by decide +kernel : ∀ x ∈ badL, x.ok = false) x hx
    · have h : ∀ x ∈ badL, (x.heat.length : Int) ≤ 9223372036854775807 ∧ (x.lots.length : Int) ≤ 9223372036854775807 ∧ (x.wks.length : Int) ≤ 9223372036854775807 := by decide +kernel
      exact ⟨(h x hx).1, (h x hx).2.1, (h x hx).2.2⟩
theorem bad_rows : RowsAre badR.flatten badR 4 := rows_of (by
  intro y hy
  rcases List.mem_cons.1 hy with rfl | h
  · rfl
  · obtain ⟨x, _, rfl⟩ := List.mem_map.1 h; rfl) rfl
theorem badR_free : Free (.sl false .any badR) := .sl _ _ _ fun e he x hx => by
  rcases List.mem_cons.1 he with rfl | h
  · exact allC (p := Free) (.s _) (allC (.sl _ _ _ (fun _ h => by cases h)) (allC (.sl _ _ _ (fun _ h => by cases h)) (all1 (.sl _ _ _ (fun _ h => by cases h))))) x hx
  · obtain ⟨y, _, rfl⟩ := List.mem_map.1 h; exact y.free x hx
theorem badR_under : Under 0 (.sl false .any badR) := badR_free.under
theorem bad_calls (i : Nat) (h : i < 9) : ∃ r0 r1 r2 r3, badR[i]? = some [r0, r1, r2, r3] ∧ Ans Try.prog 16 [.agg [r0, r1, r2, r3], .int (-1)] (.tup [.int 0, .int 0, .int 50]) ∧
    Ans Try.prog 21 [.agg [r0, r1, r2, r3], .sl true .exact []] (.tup [.int 0, .bool false, .int 50]) ∧ Ans Try.prog 23 [.agg [r0, r1, r2, r3]] (.tup [planA [], .int 0, .int 50]) ∧
    Ans Try.prog 25 [.agg [r0, r1, r2, r3], .sl false .exact (ints [9])] (.tup [.int 0, .int 50]) ∧ Ans Try.prog 27 [.agg [r0, r1, r2, r3]] (.tup [outA [], .int 50]) ∧
    Ans Try.prog 30 [.agg [r0, r1, r2, r3]] (.tup [.agg [.int 0, .int 0], .int 50]) ∧ Ans Try.prog 32 [.agg [r0, r1, r2, r3], .sl true .exact []] (.tup [.int 0, .int 0, .int 50]) ∧
    Ans Try.prog 18 [.agg [r0, r1, r2, r3]] (.int 50) := by
  have hl : i < badR.length := h
  have hm : badR[i] ∈ badR := List.getElem_mem hl
  have h4 := bad_rows.each _ hm
  obtain ⟨x, hx, hs, hle⟩ := bad_all _ hm
  have hg : badR[i]? = some badR[i] := List.getElem?_eq_getElem hl
  generalize badR[i] = r at *
  match r, h4 with
  | [r0, r1, r2, r3], _ =>
  refine ⟨r0, r1, r2, r3, hg, ?_, ?_, ?_, ?_, ?_, ?_, ?_, ?_⟩
  · have := until_t x (-1) hs; unfold untilR at this; rw [if_neg (by simp [hx])] at this; exact le2 this hle (.refl _)
  · have := isPlan_t x true [] hs (by decide); unfold isPlanR at this; rw [if_neg (by simp [hx])] at this; exact le2 this hle (.any _ _ _)
  · have := best_t x hs; unfold bestR at this; rw [if_neg (by simp [hx])] at this; exact this.le1 hle
  · have := Deficit_t x false [9] hs (by decide); unfold deficitR at this; rw [if_neg (by simp [hx])] at this; exact le2 this hle (.any _ _ _)
  · have := Proof_t x hs; unfold proofR at this; rw [if_neg (by simp [hx])] at this; exact this.le1 hle
  · have := told_t x hs; unfold toldR at this; rw [if_neg (by simp [hx])] at this; exact this.le1 hle
  · have := help_t x true [] hs (by decide); unfold helpR at this; rw [if_neg (by simp [hx])] at this; exact le2 this hle (.any _ _ _)
  · have := check_s hs; rw [err_no hx] at this; exact this.le1 hle
def tz : Task := ⟨0, 0, 0, 0⟩
def plL : List (List Task) := [[⟨0, 0, 2, 3⟩], [⟨0, 0, 0, 4⟩], [⟨1, 2, 4, 1⟩], [⟨0, 0, 0, 0⟩], [⟨3, 0, 0, 1⟩], [⟨0, 3, 0, 1⟩], [⟨0, 0, 6, 1⟩], [⟨1, 0, 0, 1⟩], [⟨0, 0, 1, 2⟩, ⟨1, 0, 1, 2⟩]]
def z401 : List Task := List.replicate 401 tz
def plR : List (List A) := plL.map (fun l => [.sl false .exact (l.map Task.c)]) ++ [[.sl false .any (z401.map Task.c)]]
theorem pl_none : ∀ l ∈ plL, planV (yardD 3) l = none := by decide +kernel
theorem pl_401 : planV (yardD 3) z401 = none := by decide +kernel
theorem plan_no {pl : List Task} (h : planV (yardD 3) pl = none) (hl : (pl.length : Int) ≤ 9223372036854775807) (c : Cap) : Ans Try.prog 21 [.agg (yardC 3), .sl false c (pl.map Task.c)] (.tup [.int 0, .bool false, .int 0]) := by
  have e : isPlanR (yardD 3) pl = [.int 0, .bool false, .int 0] := by simp only [isPlanR, w1, h]; rfl
  exact le2 (e ▸ isPlan_t (yardD 3) false pl wsmall hl) (yard_le 3) (.any _ _ _)
theorem plan_calls (i : Nat) (h : i < 10) : (∃ es, plR[i]? = some [.sl false .exact es] ∧ Ans Try.prog 21 [.agg (yardC 3), .sl false .exact es] (.tup [.int 0, .bool false, .int 0])) ∨
    ∃ es, plR[i]? = some [.sl false .any es] ∧ Ans Try.prog 21 [.agg (yardC 3), .sl false .any es] (.tup [.int 0, .bool false, .int 0]) := by
  by_cases h9 : i < 9
  · have hl : i < plL.length := h9
    refine .inl ⟨plL[i].map Task.c, ?_, plan_no (pl_none _ (List.getElem_mem hl)) ?_ _⟩
    · unfold plR
      rw [List.getElem?_append_left (by rw [List.length_map]; exact hl), List.getElem?_map, List.getElem?_eq_getElem hl]; rfl
    · have : ∀ l ∈ plL, (l.length : Int) ≤ 9223372036854775807 := by decide +kernel
      exact this _ (List.getElem_mem hl)
  · have : i = 9 := by omega
    subst this
    exact .inr ⟨z401.map Task.c, rfl, plan_no pl_401 (by unfold z401; rw [List.length_replicate]; decide) _⟩
theorem plR_rows : RowsAre plR.flatten plR 1 := rows_of (fun y hy => by
  unfold plR at hy
  rcases List.mem_append.1 hy with h | h
  · obtain ⟨x, _, rfl⟩ := List.mem_map.1 h; rfl
  · simp at h; subst h; rfl) rfl
theorem plR_under : Under 0 (.sl false .any plR) := Free.under (.sl _ _ _ fun e he x hx => by
  unfold plR at he
  rcases List.mem_append.1 he with h | h
  · obtain ⟨y, _, rfl⟩ := List.mem_map.1 h
    simp at hx; subst hx; exact free_map Task.free _ _ _
  · simp at h; subst h
    simp at hx; subst hx; exact free_map Task.free _ _ _)
theorem zero_rows {sz : Nat} {zr : List A} (n : Nat) (z : List A) (hz : z.length = sz) (h0 : 0 < sz) (h : ∀ j, j < sz → z.getD j .un = (zr.getD j .un).down) :
    RowsAre (((List.range (n * sz)).map fun j => zr.getD (j % sz) .un).map A.down) (List.replicate n z) sz := by
  refine ⟨fun e he => by rw [List.mem_replicate] at he; rw [he.2]; exact hz, by simp, fun i j hi hj => ?_⟩
  have hi : i < n := by simpa using hi
  have hlt : i * sz + j < n * sz := by
    have : (i + 1) * sz ≤ n * sz := Nat.mul_le_mul_right _ hi
    rw [Nat.succ_mul] at this; omega
  have e1 : (List.replicate n z).getD i [] = z := by simp [List.getD_eq_getElem?_getD, hi]
  have e2 : (i * sz + j) % sz = j := by rw [Nat.add_comm, Nat.add_mul_mod_self_right]; exact Nat.mod_eq_of_lt hj
  rw [e1, h j hj]
  have e3 : (((List.range (n * sz)).map fun j => zr.getD (j % sz) .un).map A.down).getD (i * sz + j) .un = (zr.getD ((i * sz + j) % sz) .un).down := by
    simp [List.getD_eq_getElem?_getD, hlt]
  rw [e3, e2]
  cases zr.getD j .un with
  | sl n c es => cases c <;> rfl
  | _ => rfl
theorem k_u3 : Ans Try.prog 16 [.agg (yardC 3), .int 3] (.tup [.int 0, .int 0, .int 7]) := by
  have e : untilR (yardD 3) 3 = [.int 0, .int 0, .int 7] := by
    have hl : lotAt (yardD 3) 3 = none := rfl
    simp only [untilR, w1, hl]; rfl
  exact le2 (e ▸ until_t (yardD 3) 3 wsmall) (yard_le 3) (.refl _)
theorem k_d (l : List Int) (h : risingF (nLots (yardD 3)) (-1) l = false) (hl : (l.length : Int) ≤ 9223372036854775807) : Ans Try.prog 25 [.agg (yardC 3), .sl false .exact (ints l)] (.tup [.int 0, .int 51]) := by
  have e : deficitR (yardD 3) l = [.int 0, .int 51] := by simp only [deficitR, w1, h]; rfl
  exact le2 (e ▸ Deficit_t (yardD 3) false l wsmall hl) (yard_le 3) (.any _ _ _)
theorem k_d2 : Ans Try.prog 25 [.agg (yardC 3), .sl false .exact (ints [1, 0])] (.tup [.int 0, .int 51]) := k_d _ (by decide +kernel) (by decide)
theorem k_d3 : Ans Try.prog 25 [.agg (yardC 3), .sl false .exact (ints [3])] (.tup [.int 0, .int 51]) := k_d _ (by decide +kernel) (by decide)
theorem k_h (b : Bool) (c : Cap) (l : List Wk) (h : helpOk (yardD 3) l = false) (hl : (l.length : Int) ≤ 9223372036854775807) : Ans Try.prog 32 [.agg (yardC 3), .sl b c (l.map Wk.c)] (.tup [.int 0, .int 0, .int 52]) := by
  have e : helpR (yardD 3) l = [.int 0, .int 0, .int 52] := by simp only [helpR, w1, h]; rfl
  exact le2 (e ▸ help_t (yardD 3) b l wsmall hl) (yard_le 3) (.any _ _ _)
def wz : Wk := ⟨0, 0, 0, 0⟩
theorem k_h0 : Ans Try.prog 32 [.agg (yardC 3), .sl true .exact []] (.tup [.int 0, .int 0, .int 52]) := k_h true .exact [] (by decide +kernel) (by decide)
theorem k_h7 : Ans Try.prog 32 [.agg (yardC 3), .sl false .any ((List.replicate 7 wz).map Wk.c)] (.tup [.int 0, .int 0, .int 52]) := k_h false .any _ (by decide +kernel) (by decide)
theorem k_h1 : Ans Try.prog 32 [.agg (yardC 3), .sl false .exact ([⟨0, 5, 6, 0⟩].map Wk.c)] (.tup [.int 0, .int 0, .int 52]) := k_h false .exact _ (by decide +kernel) (by decide)
def hotD : Day := ⟨6, false, yh, false, [⟨10, 0, 4, 1⟩], false, yw⟩
theorem hot_ok : hotD.ok = true := by decide +kernel
theorem hot_small : Small hotD := ⟨by decide, by decide, by decide⟩
theorem k_hu : Ans Try.prog 16 [.agg hotD.c, .int 0] (.tup [.int (-1), .int (-1), .int 0]) := by
  have h1 : untilF hotD Spn.hi ⟨10, 0, 4, 1⟩ = -1 := by decide +kernel
  have h2 : untilF hotD Spn.lo ⟨10, 0, 4, 1⟩ = -1 := by decide +kernel
  have e : untilR hotD 0 = [.int (-1), .int (-1), .int 0] := by
    have hl : lotAt hotD 0 = some ⟨10, 0, 4, 1⟩ := rfl
    simp only [untilR, hot_ok, hl, h1, h2]; rfl
  exact e ▸ until_t hotD 0 hot_small
theorem k_hb : Ans Try.prog 23 [.agg hotD.c] (.tup [planA (planF hotD), .int 10, .int 0]) := by
  have h1 : lostE hotD Spn.hi = 10 := by decide +kernel
  have e : bestR hotD = [planA (planF hotD), .int 10, .int 0] := by simp only [bestR, hot_ok, h1]; rfl
  exact e ▸ best_t hotD hot_small
theorem k_dn : Ans Try.prog 25 [.agg (yardC 3), .sl true .exact []] (.tup [.int 0, .int 0]) := by
  have h1 : risingF (nLots (yardD 3)) (-1) [] = true := by decide +kernel
  have h2 : deficitV (opened (yardD 3) Spn.hi) [] = 0 := by decide +kernel
  have e : deficitR (yardD 3) [] = [.int 0, .int 0] := by simp only [deficitR, w1, h1, h2]; rfl
  exact le2 (e ▸ Deficit_t (yardD 3) true [] wsmall (by decide)) (yard_le 3) (.any _ _ _)
theorem k_d0 : Ans Try.prog 25 [.agg (yardC 3), .sl false .exact (ints [0])] (.tup [.int 4, .int 0]) := by
  have h1 : risingF (nLots (yardD 3)) (-1) [0] = true := by decide +kernel
  have h2 : deficitV (opened (yardD 3) Spn.hi) [0] = 4 := by decide +kernel
  have e : deficitR (yardD 3) [0] = [.int 4, .int 0] := by simp only [deficitR, w1, h1, h2]; rfl
  exact le2 (e ▸ Deficit_t (yardD 3) false [0] wsmall (by decide)) (yard_le 3) (.any _ _ _)
theorem y1ok : (yardD 1).ok = true := by decide +kernel
theorem y0ok : (yardD 0).ok = true := by decide +kernel
theorem y1small : Small (yardD 1) := ⟨by decide, by decide, by decide⟩
theorem y0small : Small (yardD 0) := ⟨by decide, by decide, by decide⟩
theorem k_b1 : Ans Try.prog 23 [.agg (yardC 1)] (.tup [planA (planF (yardD 1)), .int 4, .int 0]) := by
  have h1 : lostE (yardD 1) Spn.hi = 4 := by decide +kernel
  have e : bestR (yardD 1) = [planA (planF (yardD 1)), .int 4, .int 0] := by simp only [bestR, y1ok, h1]; rfl
  exact (e ▸ best_t (yardD 1) y1small).le1 (yard_le 1)
theorem k_p1 : Ans Try.prog 27 [.agg (yardC 1)] (.tup [.sl false .any (ints [0]), .int 0]) := by
  have h1 : proofV (yardD 1) = [0] := by decide +kernel
  have e : proofR (yardD 1) = [.sl false .any (ints [0]), .int 0] := by simp only [proofR, y1ok, h1]; rfl
  exact (e ▸ Proof_t (yardD 1) y1small).le1 (yard_le 1)
theorem k_p0 : Ans Try.prog 27 [.agg (yardC 0)] (.tup [.sl true .exact [], .int 0]) := by
  have h1 : proofV (yardD 0) = [] := by decide +kernel
  have e : proofR (yardD 0) = [.sl true .exact [], .int 0] := by simp only [proofR, y0ok, h1]; rfl
  exact (e ▸ Proof_t (yardD 0) y0small).le1 (yard_le 0)
theorem k_b0 : Ans Try.prog 23 [.agg (yardC 0)] (.tup [.sl true .exact [], .int 0, .int 0]) := by
  have h1 : lostE (yardD 0) Spn.hi = 0 := by decide +kernel
  have h2 : planF (yardD 0) = [] := by
    have : (planF (yardD 0)).isEmpty = true := by decide +kernel
    simpa using this
  have e : bestR (yardD 0) = [.sl true .exact [], .int 0, .int 0] := by simp only [bestR, y0ok, h1, h2]; rfl
  exact (e ▸ best_t (yardD 0) y0small).le1 (yard_le 0)
theorem k_pl : Ans Try.prog 21 [.agg (yardC 3), .sl true .exact []] (.tup [.int 30, .bool true, .int 0]) := by
  have h : planV (yardD 3) [] = some 30 := by decide +kernel
  have e : isPlanR (yardD 3) [] = [.int 30, .bool true, .int 0] := by simp only [isPlanR, w1, h]; rfl
  exact le2 (e ▸ isPlan_t (yardD 3) true [] wsmall (by decide)) (yard_le 3) (.any _ _ _)
theorem k_sm : Ans Try.prog 29 [.sl false .any (ints [0]), .sl false .exact (ints [0])] (.bool true) :=
  le2 (same_t false false [0] [0] (by decide)) (.refl _) (.any _ _ _)
theorem hot_rows : RowsAre [.int 10, .int 0, .int 4, .int 1, .int 8, .int 1, .int 30, .int 3, .int 12, .int 2, .int 40, .int 5] [Lot.c ⟨10, 0, 4, 1⟩] 4 :=
  ⟨fun e he => by simp at he; subst he; rfl, by decide, fun i j hi hj => by
    match i, hi with
    | 0, _ =>
      match j, hj with
      | 0, _ => rfl
      | 1, _ => rfl
      | 2, _ => rfl
      | 3, _ => rfl⟩
end Go.Proofs.Ytimikmfkdaoaaaa
namespace Go.Proofs.Ytimikmfkdaoaaaa
open Go Go.AL
def yardM (c n : Nat) : List A := [.int 6, .ms (c + 7) 0 6, .ms (c + 11) 0 n, .ms (c + 17) 0 3]
def yHeat : List A := [.int 5, .int 6, .int 5, .int 8, .int 6, .int 10, .int 6, .int 10, .int 4, .int 8, .int 3, .int 6]
def yLots : List A := [.int 10, .int 0, .int 20, .int 1, .int 8, .int 1, .int 30, .int 3, .int 12, .int 2, .int 40, .int 5]
def yWks : List A := [.int 0, .int 0, .int 3, .int 3, .int 1, .int 2, .int 5, .int 1, .int 2, .int 4, .int 4, .int 5]
noncomputable def yardH (H : Hp) (c n : Nat) : Hp := updH (updH (updH (updH (updH H c (some (.cells ((tab.zr 26).map A.down)))) (c + 7) (some (.cells yHeat))) (c + 11) (some (.cells yLots))) (c + 17) (some (.cells yWks))) c (some (.cells (yardM c n)))
set_option maxHeartbeats 2000000 in
theorem yard_m3_0 (H : Hp) : SCall Try.prog 48 [.int 3] H 0 fun v H1 c1 => v = .agg (yardM 0 3) ∧ c1 = 20 ∧ H1 = yardH H 0 3 := by
  refine SCall.of_bodyN tab_ok Try.func48 rfl Try.ntmps48 (Nat.le_of_ble_eq_true rfl) (all1 fun _ => rfl) fun E hE => ?_
  refine Aw.sm tab_ok mb0 [] rfl rfl ?zo ?zk
  case zo =>
    repeat' apply AllP.cons
    all_goals first | exact trivial
  case zk =>
  refine Aw.sd tab_ok mixed mb0 [(0, [.agg (Spn.c ⟨5, 6⟩)]), (1, [.agg (Spn.c ⟨5, 8⟩)]), (2, [.agg (Spn.c ⟨6, 10⟩)]), (3, [.agg (Spn.c ⟨6, 10⟩)]), (4, [.agg (Spn.c ⟨4, 8⟩)]), (5, [.agg (Spn.c ⟨3, 6⟩)]), (6, [.ms 0 0 0]), (10, [.ms 0 0 0]), (16, [.ms 0 0 0])] rfl (by kernel_rfl) rfl rfl ?zo ?zk
  case zo =>
    repeat' apply AllP.cons
    all_goals first | exact trivial | exact rfl | exact Nat.le_of_ble_eq_true rfl | exact Int.natCast_nonneg _ | exact to_t _ _
  case zk =>
  exact Aw.ret ⟨_, .cons (resC rfl rfl rfl rfl rfl) .nil, rfl, rfl, rfl⟩
set_option maxHeartbeats 2000000 in
theorem yard_m3_20 (H : Hp) : SCall Try.prog 48 [.int 3] H 20 fun v H1 c1 => v = .agg (yardM 20 3) ∧ c1 = 40 ∧ H1 = yardH H 20 3 := by
  refine SCall.of_bodyN tab_ok Try.func48 rfl Try.ntmps48 (Nat.le_of_ble_eq_true rfl) (all1 fun _ => rfl) fun E hE => ?_
  refine Aw.sm tab_ok mb0 [] rfl rfl ?zo ?zk
  case zo =>
    repeat' apply AllP.cons
    all_goals first | exact trivial
  case zk =>
  refine Aw.sd tab_ok mixed mb0 [(0, [.agg (Spn.c ⟨5, 6⟩)]), (1, [.agg (Spn.c ⟨5, 8⟩)]), (2, [.agg (Spn.c ⟨6, 10⟩)]), (3, [.agg (Spn.c ⟨6, 10⟩)]), (4, [.agg (Spn.c ⟨4, 8⟩)]), (5, [.agg (Spn.c ⟨3, 6⟩)]), (6, [.ms 0 0 0]), (10, [.ms 0 0 0]), (16, [.ms 0 0 0])] rfl (by kernel_rfl) rfl rfl ?zo ?zk
  case zo =>
    repeat' apply AllP.cons
    all_goals first | exact trivial | exact rfl | exact Nat.le_of_ble_eq_true rfl | exact Int.natCast_nonneg _ | exact to_t _ _
  case zk =>
  exact Aw.ret ⟨_, .cons (resC rfl rfl rfl rfl rfl) .nil, rfl, rfl, rfl⟩
set_option maxHeartbeats 2000000 in
theorem yard_m3_40 (H : Hp) : SCall Try.prog 48 [.int 3] H 40 fun v H1 c1 => v = .agg (yardM 40 3) ∧ c1 = 60 ∧ H1 = yardH H 40 3 := by
  refine SCall.of_bodyN tab_ok Try.func48 rfl Try.ntmps48 (Nat.le_of_ble_eq_true rfl) (all1 fun _ => rfl) fun E hE => ?_
  refine Aw.sm tab_ok mb0 [] rfl rfl ?zo ?zk
  case zo =>
    repeat' apply AllP.cons
    all_goals first | exact trivial
  case zk =>
  refine Aw.sd tab_ok mixed mb0 [(0, [.agg (Spn.c ⟨5, 6⟩)]), (1, [.agg (Spn.c ⟨5, 8⟩)]), (2, [.agg (Spn.c ⟨6, 10⟩)]), (3, [.agg (Spn.c ⟨6, 10⟩)]), (4, [.agg (Spn.c ⟨4, 8⟩)]), (5, [.agg (Spn.c ⟨3, 6⟩)]), (6, [.ms 0 0 0]), (10, [.ms 0 0 0]), (16, [.ms 0 0 0])] rfl (by kernel_rfl) rfl rfl ?zo ?zk
  case zo =>
    repeat' apply AllP.cons
    all_goals first | exact trivial | exact rfl | exact Nat.le_of_ble_eq_true rfl | exact Int.natCast_nonneg _ | exact to_t _ _
  case zk =>
  exact Aw.ret ⟨_, .cons (resC rfl rfl rfl rfl rfl) .nil, rfl, rfl, rfl⟩
set_option maxHeartbeats 2000000 in
theorem yard_m3_60 (H : Hp) : SCall Try.prog 48 [.int 3] H 60 fun v H1 c1 => v = .agg (yardM 60 3) ∧ c1 = 80 ∧ H1 = yardH H 60 3 := by
  refine SCall.of_bodyN tab_ok Try.func48 rfl Try.ntmps48 (Nat.le_of_ble_eq_true rfl) (all1 fun _ => rfl) fun E hE => ?_
  refine Aw.sm tab_ok mb0 [] rfl rfl ?zo ?zk
  case zo =>
    repeat' apply AllP.cons
    all_goals first | exact trivial
  case zk =>
  refine Aw.sd tab_ok mixed mb0 [(0, [.agg (Spn.c ⟨5, 6⟩)]), (1, [.agg (Spn.c ⟨5, 8⟩)]), (2, [.agg (Spn.c ⟨6, 10⟩)]), (3, [.agg (Spn.c ⟨6, 10⟩)]), (4, [.agg (Spn.c ⟨4, 8⟩)]), (5, [.agg (Spn.c ⟨3, 6⟩)]), (6, [.ms 0 0 0]), (10, [.ms 0 0 0]), (16, [.ms 0 0 0])] rfl (by kernel_rfl) rfl rfl ?zo ?zk
  case zo =>
    repeat' apply AllP.cons
    all_goals first | exact trivial | exact rfl | exact Nat.le_of_ble_eq_true rfl | exact Int.natCast_nonneg _ | exact to_t _ _
  case zk =>
  exact Aw.ret ⟨_, .cons (resC rfl rfl rfl rfl rfl) .nil, rfl, rfl, rfl⟩
set_option maxHeartbeats 2000000 in
theorem yard_m3_80 (H : Hp) : SCall Try.prog 48 [.int 3] H 80 fun v H1 c1 => v = .agg (yardM 80 3) ∧ c1 = 100 ∧ H1 = yardH H 80 3 := by
  refine SCall.of_bodyN tab_ok Try.func48 rfl Try.ntmps48 (Nat.le_of_ble_eq_true rfl) (all1 fun _ => rfl) fun E hE => ?_
  refine Aw.sm tab_ok mb0 [] rfl rfl ?zo ?zk
  case zo =>
    repeat' apply AllP.cons
    all_goals first | exact trivial
  case zk =>
  refine Aw.sd tab_ok mixed mb0 [(0, [.agg (Spn.c ⟨5, 6⟩)]), (1, [.agg (Spn.c ⟨5, 8⟩)]), (2, [.agg (Spn.c ⟨6, 10⟩)]), (3, [.agg (Spn.c ⟨6, 10⟩)]), (4, [.agg (Spn.c ⟨4, 8⟩)]), (5, [.agg (Spn.c ⟨3, 6⟩)]), (6, [.ms 0 0 0]), (10, [.ms 0 0 0]), (16, [.ms 0 0 0])] rfl (by kernel_rfl) rfl rfl ?zo ?zk
  case zo =>
    repeat' apply AllP.cons
    all_goals first | exact trivial | exact rfl | exact Nat.le_of_ble_eq_true rfl | exact Int.natCast_nonneg _ | exact to_t _ _
  case zk =>
  exact Aw.ret ⟨_, .cons (resC rfl rfl rfl rfl rfl) .nil, rfl, rfl, rfl⟩
set_option maxHeartbeats 2000000 in
theorem yard_m3_100 (H : Hp) : SCall Try.prog 48 [.int 3] H 100 fun v H1 c1 => v = .agg (yardM 100 3) ∧ c1 = 120 ∧ H1 = yardH H 100 3 := by
  refine SCall.of_bodyN tab_ok Try.func48 rfl Try.ntmps48 (Nat.le_of_ble_eq_true rfl) (all1 fun _ => rfl) fun E hE => ?_
  refine Aw.sm tab_ok mb0 [] rfl rfl ?zo ?zk
  case zo =>
    repeat' apply AllP.cons
    all_goals first | exact trivial
  case zk =>
  refine Aw.sd tab_ok mixed mb0 [(0, [.agg (Spn.c ⟨5, 6⟩)]), (1, [.agg (Spn.c ⟨5, 8⟩)]), (2, [.agg (Spn.c ⟨6, 10⟩)]), (3, [.agg (Spn.c ⟨6, 10⟩)]), (4, [.agg (Spn.c ⟨4, 8⟩)]), (5, [.agg (Spn.c ⟨3, 6⟩)]), (6, [.ms 0 0 0]), (10, [.ms 0 0 0]), (16, [.ms 0 0 0])] rfl (by kernel_rfl) rfl rfl ?zo ?zk
  case zo =>
    repeat' apply AllP.cons
    all_goals first | exact trivial | exact rfl | exact Nat.le_of_ble_eq_true rfl | exact Int.natCast_nonneg _ | exact to_t _ _
  case zk =>
  exact Aw.ret ⟨_, .cons (resC rfl rfl rfl rfl rfl) .nil, rfl, rfl, rfl⟩
set_option maxHeartbeats 2000000 in
theorem yard_m3_120 (H : Hp) : SCall Try.prog 48 [.int 3] H 120 fun v H1 c1 => v = .agg (yardM 120 3) ∧ c1 = 140 ∧ H1 = yardH H 120 3 := by
  refine SCall.of_bodyN tab_ok Try.func48 rfl Try.ntmps48 (Nat.le_of_ble_eq_true rfl) (all1 fun _ => rfl) fun E hE => ?_
  refine Aw.sm tab_ok mb0 [] rfl rfl ?zo ?zk
  case zo =>
    repeat' apply AllP.cons
    all_goals first | exact trivial
  case zk =>
  refine Aw.sd tab_ok mixed mb0 [(0, [.agg (Spn.c ⟨5, 6⟩)]), (1, [.agg (Spn.c ⟨5, 8⟩)]), (2, [.agg (Spn.c ⟨6, 10⟩)]), (3, [.agg (Spn.c ⟨6, 10⟩)]), (4, [.agg (Spn.c ⟨4, 8⟩)]), (5, [.agg (Spn.c ⟨3, 6⟩)]), (6, [.ms 0 0 0]), (10, [.ms 0 0 0]), (16, [.ms 0 0 0])] rfl (by kernel_rfl) rfl rfl ?zo ?zk
  case zo =>
    repeat' apply AllP.cons
    all_goals first | exact trivial | exact rfl | exact Nat.le_of_ble_eq_true rfl | exact Int.natCast_nonneg _ | exact to_t _ _
  case zk =>
  exact Aw.ret ⟨_, .cons (resC rfl rfl rfl rfl rfl) .nil, rfl, rfl, rfl⟩
set_option maxHeartbeats 2000000 in
theorem yard_m3_140 (H : Hp) : SCall Try.prog 48 [.int 3] H 140 fun v H1 c1 => v = .agg (yardM 140 3) ∧ c1 = 160 ∧ H1 = yardH H 140 3 := by
  refine SCall.of_bodyN tab_ok Try.func48 rfl Try.ntmps48 (Nat.le_of_ble_eq_true rfl) (all1 fun _ => rfl) fun E hE => ?_
  refine Aw.sm tab_ok mb0 [] rfl rfl ?zo ?zk
  case zo =>
    repeat' apply AllP.cons
    all_goals first | exact trivial
  case zk =>
  refine Aw.sd tab_ok mixed mb0 [(0, [.agg (Spn.c ⟨5, 6⟩)]), (1, [.agg (Spn.c ⟨5, 8⟩)]), (2, [.agg (Spn.c ⟨6, 10⟩)]), (3, [.agg (Spn.c ⟨6, 10⟩)]), (4, [.agg (Spn.c ⟨4, 8⟩)]), (5, [.agg (Spn.c ⟨3, 6⟩)]), (6, [.ms 0 0 0]), (10, [.ms 0 0 0]), (16, [.ms 0 0 0])] rfl (by kernel_rfl) rfl rfl ?zo ?zk
  case zo =>
    repeat' apply AllP.cons
    all_goals first | exact trivial | exact rfl | exact Nat.le_of_ble_eq_true rfl | exact Int.natCast_nonneg _ | exact to_t _ _
  case zk =>
  exact Aw.ret ⟨_, .cons (resC rfl rfl rfl rfl rfl) .nil, rfl, rfl, rfl⟩
set_option maxHeartbeats 2000000 in
theorem yard_m1_0 (H : Hp) : SCall Try.prog 48 [.int 1] H 0 fun v H1 c1 => v = .agg (yardM 0 1) ∧ c1 = 20 ∧ H1 = yardH H 0 1 := by
  refine SCall.of_bodyN tab_ok Try.func48 rfl Try.ntmps48 (Nat.le_of_ble_eq_true rfl) (all1 fun _ => rfl) fun E hE => ?_
  refine Aw.sm tab_ok mb0 [] rfl rfl ?zo ?zk
  case zo =>
    repeat' apply AllP.cons
    all_goals first | exact trivial
  case zk =>
  refine Aw.sd tab_ok mixed mb0 [(0, [.agg (Spn.c ⟨5, 6⟩)]), (1, [.agg (Spn.c ⟨5, 8⟩)]), (2, [.agg (Spn.c ⟨6, 10⟩)]), (3, [.agg (Spn.c ⟨6, 10⟩)]), (4, [.agg (Spn.c ⟨4, 8⟩)]), (5, [.agg (Spn.c ⟨3, 6⟩)]), (6, [.ms 0 0 0]), (10, [.ms 0 0 0]), (16, [.ms 0 0 0])] rfl (by kernel_rfl) rfl rfl ?zo ?zk
  case zo =>
    repeat' apply AllP.cons
    all_goals first | exact trivial | exact rfl | exact Nat.le_of_ble_eq_true rfl | exact Int.natCast_nonneg _ | exact to_t _ _
  case zk =>
  exact Aw.ret ⟨_, .cons (resC rfl rfl rfl rfl rfl) .nil, rfl, rfl, rfl⟩
end Go.Proofs.Ytimikmfkdaoaaaa
namespace Go.Proofs.Ytimikmfkdaoaaaa
open Go Go.AL
set_option maxRecDepth 8000 in
set_option maxHeartbeats 16000000 in
theorem law_known : Ans Try.prog 15 [] (.bool true) := by
  have hfr : Free (.bool true) := .s _
  refine told Try.func15 rfl rfl (Pure.of tab_ok Try.func15 rfl Try.ntmps15 rfl allN allN hfr fun E hE => ?_)
  refine Aw.sm tab_ok mb0 [] rfl rfl ?zo ?zk
  case zo =>
    repeat' apply AllP.cons
    all_goals first | exact trivial
  case zk =>
  refine Aw.ss rfl ?_
  refine RegL.partE tab_ok mb0 false 1 0 [] ?_
  conv => arg 5; whnf
  refine PartK.mk ?zo ?zk
  case zo =>
    repeat' apply AllP.cons
    all_goals first | exact trivial
  case zk =>
  refine Does.raw rfl (DoesR.call rfl rfl (enters_of Try.func48 rfl rfl) (yard_m3_0 _) ?_)
  rintro v H' c' ⟨rfl, rfl, rfl⟩
  refine Does.raw rfl (DoesR.call rfl rfl (enters_of Try.func48 rfl rfl) (yard_m3_20 _) ?_)
  rintro v H' c' ⟨rfl, rfl, rfl⟩
  refine Does.raw rfl (DoesR.call rfl rfl (enters_of Try.func48 rfl rfl) (yard_m3_40 _) ?_)
  rintro v H' c' ⟨rfl, rfl, rfl⟩
  refine Does.raw rfl (DoesR.call rfl rfl (enters_of Try.func48 rfl rfl) (yard_m3_60 _) ?_)
  rintro v H' c' ⟨rfl, rfl, rfl⟩
  refine Does.raw rfl (DoesR.call rfl rfl (enters_of Try.func48 rfl rfl) (yard_m3_80 _) ?_)
  rintro v H' c' ⟨rfl, rfl, rfl⟩
  refine Does.raw rfl (DoesR.call rfl rfl (enters_of Try.func48 rfl rfl) (yard_m3_100 _) ?_)
  rintro v H' c' ⟨rfl, rfl, rfl⟩
  refine Does.raw rfl (DoesR.call rfl rfl (enters_of Try.func48 rfl rfl) (yard_m3_120 _) ?_)
  rintro v H' c' ⟨rfl, rfl, rfl⟩
  refine Does.raw rfl (DoesR.call rfl rfl (enters_of Try.func48 rfl rfl) (yard_m3_140 _) ?_)
  rintro v H' c' ⟨rfl, rfl, rfl⟩
  refine RegL.partE tab_ok mb0 false 9 9 [(9, [.ms 0 0 0])] ?_
  conv => arg 5; whnf
  refine PartK.mk ?zo ?zk
  case zo =>
    repeat' apply AllP.cons
    all_goals first | exact trivial | exact Nat.le_of_ble_eq_true rfl
  case zk =>
  refine Aw.sm tab_ok mb0 [] rfl rfl ?zo ?zk
  case zo =>
    repeat' apply AllP.cons
    all_goals first | exact trivial | exact rfl | exact Nat.le_of_ble_eq_true rfl | exact Int.natCast_nonneg _
  case zk =>
  refine Aw.sd tab_ok mixed mb0 [(4, [.agg (Spn.c ⟨6, 5⟩)])] rfl (by kernel_rfl) rfl rfl ?zo ?zk
  case zo =>
    repeat' apply AllP.cons
    all_goals first | exact trivial | exact rfl | exact Nat.le_of_ble_eq_true rfl | exact Int.natCast_nonneg _ | exact to_t _ _
  case zk =>
  refine Aw.sm tab_ok mb0 [] rfl rfl ?zo ?zk
  case zo =>
    repeat' apply AllP.cons
    all_goals first | exact trivial | exact rfl | exact Nat.le_of_ble_eq_true rfl | exact Int.natCast_nonneg _
  case zk =>
  refine Aw.sm tab_ok mb0 [] rfl rfl ?zo ?zk
  case zo =>
    repeat' apply AllP.cons
    all_goals first | exact trivial | exact rfl | exact Nat.le_of_ble_eq_true rfl | exact Int.natCast_nonneg _
  case zk =>
  refine Aw.sm tab_ok mb0 [] rfl rfl ?zo ?zk
  case zo =>
    repeat' apply AllP.cons
    all_goals first | exact trivial | exact rfl | exact Nat.le_of_ble_eq_true rfl | exact Int.natCast_nonneg _
  case zk =>
  refine Aw.sm tab_ok mb0 [] rfl rfl ?zo ?zk
  case zo =>
    repeat' apply AllP.cons
    all_goals first | exact trivial | exact rfl | exact Nat.le_of_ble_eq_true rfl | exact Int.natCast_nonneg _
  case zk =>
  refine Aw.sm tab_ok mb0 [] rfl rfl ?zo ?zk
  case zo =>
    repeat' apply AllP.cons
    all_goals first | exact trivial | exact rfl | exact Nat.le_of_ble_eq_true rfl | exact Int.natCast_nonneg _
  case zk =>
  refine Aw.sm tab_ok mb0 [] rfl rfl ?zo ?zk
  case zo =>
    repeat' apply AllP.cons
    all_goals first | exact trivial | exact rfl | exact Nat.le_of_ble_eq_true rfl | exact Int.natCast_nonneg _
  case zk =>
  refine Aw.freezeC (id := 7) (id2 := 160) (j := 5) (n := 6) (sz := 2) (cs := (bad1.heat.map Spn.c).flatten) (bad1.heat.map Spn.c) rfl rfl (by decide) (Nat.le_of_ble_eq_true rfl) rfl (rows_all (c := Spn.c) (fun _ => rfl) (fun _ => rfl) _) rfl ?_
  refine Aw.freezeC (id := 11) (id2 := 160) (j := 6) (n := 3) (sz := 4) (cs := (bad1.lots.map Lot.c).flatten) (bad1.lots.map Lot.c) rfl rfl (by decide) (Nat.le_of_ble_eq_true rfl) rfl (rows_all (c := Lot.c) (fun _ => rfl) (fun _ => rfl) _) rfl ?_
  refine Aw.freezeC (id := 17) (id2 := 160) (j := 7) (n := 3) (sz := 4) (cs := (bad1.wks.map Wk.c).flatten) (bad1.wks.map Wk.c) rfl rfl (by decide) (Nat.le_of_ble_eq_true rfl) rfl (rows_all (c := Wk.c) (fun _ => rfl) (fun _ => rfl) _) rfl ?_
  refine Aw.freezeC (id := 27) (id2 := 160) (j := 9) (n := 6) (sz := 2) (cs := (bad2.heat.map Spn.c).flatten) (bad2.heat.map Spn.c) rfl rfl (by decide) (Nat.le_of_ble_eq_true rfl) rfl (rows_all (c := Spn.c) (fun _ => rfl) (fun _ => rfl) _) rfl ?_
  refine Aw.freezeC (id := 31) (id2 := 160) (j := 10) (n := 3) (sz := 4) (cs := (bad2.lots.map Lot.c).flatten) (bad2.lots.map Lot.c) rfl rfl (by decide) (Nat.le_of_ble_eq_true rfl) rfl (rows_all (c := Lot.c) (fun _ => rfl) (fun _ => rfl) _) rfl ?_
  refine Aw.freezeC (id := 37) (id2 := 160) (j := 11) (n := 3) (sz := 4) (cs := (bad2.wks.map Wk.c).flatten) (bad2.wks.map Wk.c) rfl rfl (by decide) (Nat.le_of_ble_eq_true rfl) rfl (rows_all (c := Wk.c) (fun _ => rfl) (fun _ => rfl) _) rfl ?_
  refine Aw.freezeC (id := 47) (id2 := 160) (j := 13) (n := 6) (sz := 2) (cs := (bad3.heat.map Spn.c).flatten) (bad3.heat.map Spn.c) rfl rfl (by decide) (Nat.le_of_ble_eq_true rfl) rfl (rows_all (c := Spn.c) (fun _ => rfl) (fun _ => rfl) _) rfl ?_
  refine Aw.freezeC (id := 51) (id2 := 160) (j := 14) (n := 3) (sz := 4) (cs := (bad3.lots.map Lot.c).flatten) (bad3.lots.map Lot.c) rfl rfl (by decide) (Nat.le_of_ble_eq_true rfl) rfl (rows_all (c := Lot.c) (fun _ => rfl) (fun _ => rfl) _) rfl ?_
  refine Aw.freezeC (id := 57) (id2 := 160) (j := 15) (n := 3) (sz := 4) (cs := (bad3.wks.map Wk.c).flatten) (bad3.wks.map Wk.c) rfl rfl (by decide) (Nat.le_of_ble_eq_true rfl) rfl (rows_all (c := Wk.c) (fun _ => rfl) (fun _ => rfl) _) rfl ?_
  refine Aw.freezeC (id := 67) (id2 := 160) (j := 17) (n := 6) (sz := 2) (cs := (bad4.heat.map Spn.c).flatten) (bad4.heat.map Spn.c) rfl rfl (by decide) (Nat.le_of_ble_eq_true rfl) rfl (rows_all (c := Spn.c) (fun _ => rfl) (fun _ => rfl) _) rfl ?_
  refine Aw.freezeC (id := 71) (id2 := 160) (j := 18) (n := 3) (sz := 4) (cs := (bad4.lots.map Lot.c).flatten) (bad4.lots.map Lot.c) rfl rfl (by decide) (Nat.le_of_ble_eq_true rfl) rfl (rows_all (c := Lot.c) (fun _ => rfl) (fun _ => rfl) _) rfl ?_
  refine Aw.freezeC (id := 77) (id2 := 160) (j := 19) (n := 3) (sz := 4) (cs := (bad4.wks.map Wk.c).flatten) (bad4.wks.map Wk.c) rfl rfl (by decide) (Nat.le_of_ble_eq_true rfl) rfl (rows_all (c := Wk.c) (fun _ => rfl) (fun _ => rfl) _) rfl ?_
  refine Aw.freezeC (id := 87) (id2 := 160) (j := 21) (n := 6) (sz := 2) (cs := (bad5.heat.map Spn.c).flatten) (bad5.heat.map Spn.c) rfl rfl (by decide) (Nat.le_of_ble_eq_true rfl) rfl (rows_all (c := Spn.c) (fun _ => rfl) (fun _ => rfl) _) rfl ?_
  refine Aw.freezeC (id := 91) (id2 := 160) (j := 22) (n := 3) (sz := 4) (cs := (bad5.lots.map Lot.c).flatten) (bad5.lots.map Lot.c) rfl rfl (by decide) (Nat.le_of_ble_eq_true rfl) rfl (rows_all (c := Lot.c) (fun _ => rfl) (fun _ => rfl) _) rfl ?_
  refine Aw.freezeC (id := 97) (id2 := 160) (j := 23) (n := 3) (sz := 4) (cs := (bad5.wks.map Wk.c).flatten) (bad5.wks.map Wk.c) rfl rfl (by decide) (Nat.le_of_ble_eq_true rfl) rfl (rows_all (c := Wk.c) (fun _ => rfl) (fun _ => rfl) _) rfl ?_
  refine Aw.freezeC (id := 107) (id2 := 160) (j := 25) (n := 6) (sz := 2) (cs := (bad6.heat.map Spn.c).flatten) (bad6.heat.map Spn.c) rfl rfl (by decide) (Nat.le_of_ble_eq_true rfl) rfl (rows_all (c := Spn.c) (fun _ => rfl) (fun _ => rfl) _) rfl ?_
  refine Aw.freezeC (id := 111) (id2 := 160) (j := 26) (n := 3) (sz := 4) (cs := (bad6.lots.map Lot.c).flatten) (bad6.lots.map Lot.c) rfl rfl (by decide) (Nat.le_of_ble_eq_true rfl) rfl (rows_all (c := Lot.c) (fun _ => rfl) (fun _ => rfl) _) rfl ?_
  refine Aw.freezeC (id := 117) (id2 := 160) (j := 27) (n := 3) (sz := 4) (cs := (bad6.wks.map Wk.c).flatten) (bad6.wks.map Wk.c) rfl rfl (by decide) (Nat.le_of_ble_eq_true rfl) rfl (rows_all (c := Wk.c) (fun _ => rfl) (fun _ => rfl) _) rfl ?_
  refine Aw.freezeC (id := 127) (id2 := 160) (j := 29) (n := 6) (sz := 2) (cs := (bad7.heat.map Spn.c).flatten) (bad7.heat.map Spn.c) rfl rfl (by decide) (Nat.le_of_ble_eq_true rfl) rfl (rows_all (c := Spn.c) (fun _ => rfl) (fun _ => rfl) _) rfl ?_
  refine Aw.freezeC (id := 131) (id2 := 160) (j := 30) (n := 3) (sz := 4) (cs := (bad7.lots.map Lot.c).flatten) (bad7.lots.map Lot.c) rfl rfl (by decide) (Nat.le_of_ble_eq_true rfl) rfl (rows_all (c := Lot.c) (fun _ => rfl) (fun _ => rfl) _) rfl ?_
  refine Aw.freezeC (id := 137) (id2 := 160) (j := 31) (n := 3) (sz := 4) (cs := (bad7.wks.map Wk.c).flatten) (bad7.wks.map Wk.c) rfl rfl (by decide) (Nat.le_of_ble_eq_true rfl) rfl (rows_all (c := Wk.c) (fun _ => rfl) (fun _ => rfl) _) rfl ?_
  refine Aw.freezeC (id := 147) (id2 := 160) (j := 33) (n := 6) (sz := 2) (cs := (bad8.heat.map Spn.c).flatten) (bad8.heat.map Spn.c) rfl rfl (by decide) (Nat.le_of_ble_eq_true rfl) rfl (rows_all (c := Spn.c) (fun _ => rfl) (fun _ => rfl) _) rfl ?_
  refine Aw.freezeC (id := 151) (id2 := 160) (j := 34) (n := 3) (sz := 4) (cs := (bad8.lots.map Lot.c).flatten) (bad8.lots.map Lot.c) rfl rfl (by decide) (Nat.le_of_ble_eq_true rfl) rfl (rows_all (c := Lot.c) (fun _ => rfl) (fun _ => rfl) _) rfl ?_
  refine Aw.freezeC (id := 157) (id2 := 160) (j := 35) (n := 3) (sz := 4) (cs := (bad8.wks.map Wk.c).flatten) (bad8.wks.map Wk.c) rfl rfl (by decide) (Nat.le_of_ble_eq_true rfl) rfl (rows_all (c := Wk.c) (fun _ => rfl) (fun _ => rfl) _) rfl ?_
  refine Aw.freezeS (id := 160) (t := 1) (n := 9) (sz := 4) (cs := badR.flatten) badR rfl rfl bad_rows rfl ?_
  refine Aw.keep (n := 0) (cst := []) (v := [(1, .sl false .any badR)]) (Hl := []) hE trivial ⟨badR_under, trivial⟩ trivial ⟨trivial, ⟨.refl _, trivial⟩, trivial, Nat.zero_le _⟩ ?_
  refine Aw.seq ?_
  refine Aw.sm tab_ok mb0 [] rfl rfl ?zo ?zk
  case zo =>
    repeat' apply AllP.cons
    all_goals first | exact trivial
  case zk =>
  refine Aw.block (Aw.rounds 0 hE [(1, .sl false .any badR)] (fun i : Nat => [(2, .int i)]) (fun _ => []) (fun i => i ≤ 9) (fun i => 9 - i) 0
    (Nat.zero_le _) ⟨⟨.refl _, trivial⟩, ⟨.refl _, trivial⟩, trivial, Nat.zero_le _⟩ ⟨badR_under, trivial⟩ (fun _ _ => ⟨.s _, trivial⟩) (fun _ _ => trivial) fun i hi => ?_)
  have lb : (badR.length : Int) = 9 := rfl
  refine Aw.seq ?_
  refine Aw.sm tab_ok mb0 [] rfl rfl ?zo ?zk
  case zo =>
    repeat' apply AllP.cons
    all_goals first | exact trivial
  case zk =>
  refine Aw.cond rfl (fun h => Aw.skip ?_) (fun h => ?_)
  · have hlt : i < 9 := by have := of_decide_eq_true h; omega
    obtain ⟨r0, r1, r2, r3, hr, a1, a2, a3, a4, a5, a6, a7, a8⟩ := bad_calls i hlt
    refine Aw.seq (Aw.block ?_)
    refine Aw.sm tab_ok mb0 [(2, [r0, r1, r2, r3]), (4, [.tup [.int 0, .int 0, .int 50]])] rfl rfl ?zo ?zk
    case zo =>
      repeat' apply AllP.cons
      all_goals first | exact trivial | exact rfl | exact Nat.le_of_ble_eq_true rfl | exact Int.natCast_nonneg _ | exact hr | exact a1
    case zk =>
    refine Aw.sm tab_ok mb0 [(2, [r0, r1, r2, r3]), (4, [.tup [.int 0, .bool false, .int 50]])] rfl rfl ?zo ?zk
    case zo =>
      repeat' apply AllP.cons
      all_goals first | exact trivial | exact rfl | exact Nat.le_of_ble_eq_true rfl | exact Int.natCast_nonneg _ | exact hr | exact a2
    case zk =>
    refine Aw.sm tab_ok mb0 [(2, [r0, r1, r2, r3]), (4, [.tup [planA [], .int 0, .int 50]])] rfl rfl ?zo ?zk
    case zo =>
      repeat' apply AllP.cons
      all_goals first | exact trivial | exact rfl | exact Nat.le_of_ble_eq_true rfl | exact Int.natCast_nonneg _ | exact hr | exact a3
    case zk =>
    refine Aw.sm tab_ok mb0 [(2, [r0, r1, r2, r3]), (5, [.tup [.int 0, .int 50]])] rfl rfl ?zo ?zk
    case zo =>
      repeat' apply AllP.cons
      all_goals first | exact trivial | exact rfl | exact Nat.le_of_ble_eq_true rfl | exact Int.natCast_nonneg _ | exact hr | exact a4
    case zk =>
    refine Aw.sm tab_ok mb0 [(2, [r0, r1, r2, r3]), (4, [.tup [outA [], .int 50]])] rfl rfl ?zo ?zk
    case zo =>
      repeat' apply AllP.cons
      all_goals first | exact trivial | exact rfl | exact Nat.le_of_ble_eq_true rfl | exact Int.natCast_nonneg _ | exact hr | exact a5
    case zk =>
    refine Aw.sm tab_ok mb0 [(2, [r0, r1, r2, r3]), (4, [.tup [.agg [.int 0, .int 0], .int 50]])] rfl rfl ?zo ?zk
    case zo =>
      repeat' apply AllP.cons
      all_goals first | exact trivial | exact rfl | exact Nat.le_of_ble_eq_true rfl | exact Int.natCast_nonneg _ | exact hr | exact a6
    case zk =>
    refine Aw.sm tab_ok mb0 [(2, [r0, r1, r2, r3]), (4, [.tup [.int 0, .int 0, .int 50]])] rfl rfl ?zo ?zk
    case zo =>
      repeat' apply AllP.cons
      all_goals first | exact trivial | exact rfl | exact Nat.le_of_ble_eq_true rfl | exact Int.natCast_nonneg _ | exact hr | exact a7
    case zk =>
    refine Aw.sm tab_ok mb0 [(2, [r0, r1, r2, r3]), (4, [.int 50])] rfl rfl ?zo ?zk
    case zo =>
      repeat' apply AllP.cons
      all_goals first | exact trivial | exact id | exact rfl | exact fun _ => rfl | exact Nat.le_of_ble_eq_true rfl | exact Int.natCast_nonneg _ | exact hr | exact a8
    case zk =>
    refine Aw.cond rfl (fun h => by cases h) (fun _ => Aw.skip ?_)
    refine Aw.em tab_ok mb0 [] rfl rfl ?zo ?zk
    case zo =>
      repeat' apply AllP.cons
      all_goals first | exact trivial | exact id | exact rfl | exact fun _ => rfl | exact Nat.le_of_ble_eq_true rfl | exact fun _ => Nat.le_of_ble_eq_true rfl | exact Int.natCast_nonneg _ | exact fun _ => Int.natCast_nonneg _ | exact in_t _ _ _ | exact (in_t _ _ _).un | exact (show inR ((i : Int) + 1) by simp only [inR]; omega)
    case zk =>
    exact ⟨i + 1, hlt, by omega, ⟨.refl _, trivial⟩, ⟨.refl _, trivial⟩, trivial, Nat.zero_le _⟩
  refine Aw.exit2 ?_
  refine Aw.sd tab_ok mixed mb0 [(0, [.agg (Task.c ⟨0, 0, 2, 3⟩)]), (2, [.agg (Task.c ⟨0, 0, 0, 4⟩)]), (4, [.agg (Task.c ⟨1, 2, 4, 1⟩)]), (6, [.agg (Task.c ⟨0, 0, 0, 0⟩)]), (8, [.agg (Task.c ⟨3, 0, 0, 1⟩)]), (10, [.agg (Task.c ⟨0, 3, 0, 1⟩)]), (12, [.agg (Task.c ⟨0, 0, 6, 1⟩)]), (14, [.agg (Task.c ⟨1, 0, 0, 1⟩)]), (16, [.agg (Task.c ⟨0, 0, 1, 2⟩)]), (17, [.agg (Task.c ⟨1, 0, 1, 2⟩)]), (20, [.ms 0 0 0])] rfl (by kernel_rfl) rfl rfl ?zo ?zk
  case zo =>
    repeat' apply AllP.cons
    all_goals first | exact trivial | exact rfl | exact Nat.le_of_ble_eq_true rfl | exact Int.natCast_nonneg _ | exact task_t _ _ _ _
  case zk =>
  refine Aw.freezeC (id := 19) (id2 := 20) (j := 9) (n := 401) (sz := 4) (z401.map Task.c) rfl rfl (by decide) (Nat.le_of_ble_eq_true rfl) rfl (by
    have : z401.map Task.c = List.replicate 401 tz.c := by unfold z401; rw [List.map_replicate]
    rw [this]
    exact zero_rows (sz := 4) (zr := tab.zr 56) 401 tz.c rfl (by decide) fun j hj => match j, hj with | 0, _ => rfl | 1, _ => rfl | 2, _ => rfl | 3, _ => rfl) (by unfold z401; rw [List.length_map, List.length_replicate]) ?_
  refine Aw.freezeS (id := 20) (t := 21) (n := 10) (sz := 1) (cs := plR.flatten) plR rfl rfl plR_rows rfl ?_
  refine Aw.keep (n := 0) (cst := []) (v := [(21, .sl false .any plR)]) (Hl := []) hE trivial ⟨plR_under, trivial⟩ trivial ⟨trivial, ⟨.refl _, trivial⟩, trivial, Nat.zero_le _⟩ ?_
  refine Aw.seq ?_
  refine Aw.sm tab_ok mb0 [] rfl rfl ?zo ?zk
  case zo =>
    repeat' apply AllP.cons
    all_goals first | exact trivial
  case zk =>
  refine Aw.block (Aw.rounds 0 hE [(21, .sl false .any plR)] (fun i : Nat => [(22, .int i)]) (fun _ => []) (fun i => i ≤ 10) (fun i => 10 - i) 0
    (Nat.zero_le _) ⟨⟨.refl _, trivial⟩, ⟨.refl _, trivial⟩, trivial, Nat.zero_le _⟩ ⟨plR_under, trivial⟩ (fun _ _ => ⟨.s _, trivial⟩) (fun _ _ => trivial) fun i hi => ?_)
  have lb : (plR.length : Int) = 10 := rfl
  refine Aw.seq ?_
  refine Aw.sm tab_ok mb0 [] rfl rfl ?zo ?zk
  case zo =>
    repeat' apply AllP.cons
    all_goals first | exact trivial
  case zk =>
  refine Aw.cond rfl (fun h => Aw.skip ?_) (fun h => ?_)
  · have hlt : i < 10 := by have := of_decide_eq_true h; omega
    rcases plan_calls i hlt with ⟨es, hr, a1⟩ | ⟨es, hr, a1⟩
    · refine Aw.seq (Aw.block ?_)
      refine Aw.sd tab_ok mixed mb0 [(0, [.agg (yardC 3)]), (3, [.sl false .exact es]), (4, [.sl false .exact es]), (5, [.tup [.int 0, .bool false, .int 0]])] rfl (by kernel_rfl) rfl rfl ?zo ?zk
      case zo =>
        repeat' apply AllP.cons
        all_goals first | exact trivial | exact rfl | exact Nat.le_of_ble_eq_true rfl | exact Int.natCast_nonneg _ | exact yard_t 3 (by decide) | exact hr | exact a1
      case zk =>
      refine Aw.sm tab_ok mb0 [] rfl rfl ?zo ?zk
      case zo =>
        repeat' apply AllP.cons
        all_goals first | exact trivial | exact id | exact fun _ => rfl
      case zk =>
      refine Aw.cond rfl (fun h => by cases h) (fun _ => Aw.skip ?_)
      refine Aw.em tab_ok mb0 [] rfl rfl ?zo ?zk
      case zo =>
        repeat' apply AllP.cons
        all_goals first | exact trivial | exact id | exact rfl | exact fun _ => rfl | exact Nat.le_of_ble_eq_true rfl | exact fun _ => Nat.le_of_ble_eq_true rfl | exact Int.natCast_nonneg _ | exact fun _ => Int.natCast_nonneg _ | exact in_t _ _ _ | exact (in_t _ _ _).un | exact (show inR ((i : Int) + 1) by simp only [inR]; omega)
      case zk =>
      exact ⟨i + 1, hlt, by omega, ⟨.refl _, trivial⟩, ⟨.refl _, trivial⟩, trivial, Nat.zero_le _⟩
    · refine Aw.seq (Aw.block ?_)
      refine Aw.sd tab_ok mixed mb0 [(0, [.agg (yardC 3)]), (3, [.sl false .any es]), (4, [.sl false .any es]), (5, [.tup [.int 0, .bool false, .int 0]])] rfl (by kernel_rfl) rfl rfl ?zo ?zk
      case zo =>
        repeat' apply AllP.cons
        all_goals first | exact trivial | exact rfl | exact Nat.le_of_ble_eq_true rfl | exact Int.natCast_nonneg _ | exact yard_t 3 (by decide) | exact hr | exact a1
      case zk =>
      refine Aw.sm tab_ok mb0 [] rfl rfl ?zo ?zk
      case zo =>
        repeat' apply AllP.cons
        all_goals first | exact trivial | exact id | exact fun _ => rfl
      case zk =>
      refine Aw.cond rfl (fun h => by cases h) (fun _ => Aw.skip ?_)
      refine Aw.em tab_ok mb0 [] rfl rfl ?zo ?zk
      case zo =>
        repeat' apply AllP.cons
        all_goals first | exact trivial | exact id | exact rfl | exact fun _ => rfl | exact Nat.le_of_ble_eq_true rfl | exact fun _ => Nat.le_of_ble_eq_true rfl | exact Int.natCast_nonneg _ | exact fun _ => Int.natCast_nonneg _ | exact in_t _ _ _ | exact (in_t _ _ _).un | exact (show inR ((i : Int) + 1) by simp only [inR]; omega)
      case zk =>
      exact ⟨i + 1, hlt, by omega, ⟨.refl _, trivial⟩, ⟨.refl _, trivial⟩, trivial, Nat.zero_le _⟩
  refine Aw.exit2 ?_
  refine Aw.sm tab_ok mb0 [(0, [.agg (yardC 3)]), (1, [.tup [.int 0, .int 0, .int 7]])] rfl rfl ?zo ?zk
  case zo =>
    repeat' apply AllP.cons
    all_goals first | exact trivial | exact yard_t 3 (by decide) | exact k_u3
  case zk =>
  refine Aw.sm tab_ok mb0 [(0, [.agg (yardC 3)]), (2, [.tup [.int 0, .int 51]])] rfl rfl ?zo ?zk
  case zo =>
    repeat' apply AllP.cons
    all_goals first | exact trivial | exact Nat.le_of_ble_eq_true rfl | exact yard_t 3 (by decide) | exact k_d2
  case zk =>
  refine Aw.sm tab_ok mb0 [(0, [.agg (yardC 3)]), (2, [.tup [.int 0, .int 51]])] rfl rfl ?zo ?zk
  case zo =>
    repeat' apply AllP.cons
    all_goals first | exact trivial | exact Nat.le_of_ble_eq_true rfl | exact yard_t 3 (by decide) | exact k_d3
  case zk =>
  refine Aw.sm tab_ok mb0 [(0, [.agg (yardC 3)]), (1, [.tup [.int 0, .int 0, .int 52]])] rfl rfl ?zo ?zk
  case zo =>
    repeat' apply AllP.cons
    all_goals first | exact trivial | exact yard_t 3 (by decide) | exact k_h0
  case zk =>
  have hs7 : ∀ (H : Hp) (id : Nat), H id = some (.cells (((List.range (7 * 4)).map fun j => (tab.zr 61).getD (j % 4) .un).map A.down)) → AnsS Try.prog H 32 [.agg (yardC 3), .ms id 0 7] [.agg (yardC 3), .sl false .any ((List.replicate 7 wz).map Wk.c)] (.tup [.int 0, .int 0, .int 52]) := fun H id hH => by
    have z := zero_rows (sz := 4) (zr := tab.zr 61) 7 wz.c rfl (by decide) fun j hj => match j, hj with | 0, _ => rfl | 1, _ => rfl | 2, _ => rfl | 3, _ => rfl
    have e : (List.replicate 7 wz).map Wk.c = List.replicate 7 wz.c := by rw [List.map_replicate]
    refine ⟨k_h7.ent, k_h7.pure, .tup [.int .i64 0, .int .i64 0, .int .i64 52], .cons (.same _) (.cons (.ms (sz := 4) hH rfl ?_ ?_ fun i j hi hj => ?_) .nil)⟩
    · rw [e]; exact z.each
    · simp
    · rw [e, Nat.zero_add]; exact z.is i j (by simpa using hi) hj
  refine Aw.sd tab_ok mixed mb0 [(0, [.agg (yardC 3)]), (2, [.tup [.int 0, .int 0, .int 52], .agg [.agg (yardC 3), .sl false .any ((List.replicate 7 wz).map Wk.c)]])] rfl (by kernel_rfl) rfl rfl ?zo ?zk
  case zo =>
    repeat' apply AllP.cons
    all_goals first | exact trivial | exact rfl | exact Int.natCast_nonneg _ | exact yard_t 3 (by decide) | exact hs7 _ _ rfl
  case zk =>
  refine Aw.sm tab_ok mb0 [(0, [.agg (yardC 3)]), (3, [.tup [.int 0, .int 0, .int 52]])] rfl rfl ?zo ?zk
  case zo =>
    repeat' apply AllP.cons
    all_goals first | exact trivial | exact Nat.le_of_ble_eq_true rfl | exact yard_t 3 (by decide) | exact k_h1
  case zk =>
  refine Aw.seq ?_
  refine Aw.sm tab_ok mb0 [] rfl rfl ?zo ?zk
  case zo =>
    repeat' apply AllP.cons
    all_goals first | exact trivial | exact id | exact fun _ => rfl
  case zk =>
  refine Aw.cond rfl (fun h => by cases h) (fun _ => Aw.skip ?_)
  refine Aw.keep (n := 0) (cst := []) (v := []) (Hl := []) hE trivial trivial trivial ⟨trivial, trivial, trivial, Nat.zero_le _⟩ ?_
  refine Aw.ss rfl ?_
  refine RegL.partE tab_ok mb0 false 1 0 [] ?_
  conv => arg 5; whnf
  refine PartK.mk ?zo ?zk
  case zo =>
    repeat' apply AllP.cons
    all_goals first | exact trivial
  case zk =>
  refine Does.raw rfl (DoesR.call rfl rfl (enters_of Try.func48 rfl rfl) (yard_m1_0 _) ?_)
  rintro v H' c' ⟨rfl, rfl, rfl⟩
  refine RegL.partE tab_ok mb0 false 9 1 [] ?_
  conv => arg 5; whnf
  refine PartK.mk ?zo ?zk
  case zo =>
    repeat' apply AllP.cons
    all_goals first | exact trivial | exact rfl | exact Nat.le_of_ble_eq_true rfl
  case zk =>
  refine Aw.sm tab_ok mb0 [] rfl rfl ?zo ?zk
  case zo =>
    repeat' apply AllP.cons
    all_goals first | exact trivial | exact rfl | exact Nat.le_of_ble_eq_true rfl | exact Int.natCast_nonneg _
  case zk =>
  refine Aw.freezeC (id := 7) (id2 := 20) (j := 1) (n := 6) (sz := 2) (cs := (hotD.heat.map Spn.c).flatten) (hotD.heat.map Spn.c) rfl rfl (by decide) (Nat.le_of_ble_eq_true rfl) rfl (rows_all (c := Spn.c) (fun _ => rfl) (fun _ => rfl) _) rfl ?_
  refine Aw.freezeC (id := 11) (id2 := 20) (j := 2) (n := 1) (sz := 4) (hotD.lots.map Lot.c) rfl rfl (by decide) (Nat.le_of_ble_eq_true rfl) rfl hot_rows rfl ?_
  refine Aw.freezeC (id := 17) (id2 := 20) (j := 3) (n := 3) (sz := 4) (cs := (hotD.wks.map Wk.c).flatten) (hotD.wks.map Wk.c) rfl rfl (by decide) (Nat.le_of_ble_eq_true rfl) rfl (rows_all (c := Wk.c) (fun _ => rfl) (fun _ => rfl) _) rfl ?_
  refine Aw.sm tab_ok mb0 [(0, [.agg hotD.c]), (1, [.tup [.int (-1), .int (-1), .int 0]])] rfl rfl ?zo ?zk
  case zo =>
    repeat' apply AllP.cons
    all_goals first | exact trivial | exact rfl | exact Nat.le_of_ble_eq_true rfl | exact k_hu
  case zk =>
  refine Aw.sm tab_ok mb0 [(0, [.agg hotD.c]), (1, [.tup [planA (planF hotD), .int 10, .int 0]])] rfl rfl ?zo ?zk
  case zo =>
    repeat' apply AllP.cons
    all_goals first | exact trivial | exact rfl | exact Nat.le_of_ble_eq_true rfl | exact k_hb
  case zk =>
  refine Aw.sm tab_ok mb0 [(0, [.agg (yardC 3)]), (1, [.tup [.int 0, .int 0]])] rfl rfl ?zo ?zk
  case zo =>
    repeat' apply AllP.cons
    all_goals first | exact trivial | exact yard_t 3 (by decide) | exact k_dn
  case zk =>
  refine Aw.sm tab_ok mb0 [(0, [.agg (yardC 3)]), (2, [.tup [.int 4, .int 0]])] rfl rfl ?zo ?zk
  case zo =>
    repeat' apply AllP.cons
    all_goals first | exact trivial | exact Nat.le_of_ble_eq_true rfl | exact yard_t 3 (by decide) | exact k_d0
  case zk =>
  refine Aw.sm tab_ok mb0 [(0, [.agg (yardC 1)]), (1, [.tup [planA (planF (yardD 1)), .int 4, .int 0]])] rfl rfl ?zo ?zk
  case zo =>
    repeat' apply AllP.cons
    all_goals first | exact trivial | exact yard_t 1 (by decide) | exact k_b1
  case zk =>
  refine Aw.sm tab_ok mb0 [(0, [.agg (yardC 1)]), (1, [.tup [.sl false .any (ints [0]), .int 0]])] rfl rfl ?zo ?zk
  case zo =>
    repeat' apply AllP.cons
    all_goals first | exact trivial | exact yard_t 1 (by decide) | exact k_p1
  case zk =>
  refine Aw.sm tab_ok mb0 [(0, [.agg (yardC 0)]), (1, [.tup [.sl true .exact [], .int 0]])] rfl rfl ?zo ?zk
  case zo =>
    repeat' apply AllP.cons
    all_goals first | exact trivial | exact yard_t 0 (by decide) | exact k_p0
  case zk =>
  refine Aw.sm tab_ok mb0 [(0, [.agg (yardC 0)]), (1, [.tup [.sl true .exact [], .int 0, .int 0]])] rfl rfl ?zo ?zk
  case zo =>
    repeat' apply AllP.cons
    all_goals first | exact trivial | exact yard_t 0 (by decide) | exact k_b0
  case zk =>
  refine Aw.sm tab_ok mb0 [(0, [.agg (yardC 3)]), (1, [.tup [.int 30, .bool true, .int 0]])] rfl rfl ?zo ?zk
  case zo =>
    repeat' apply AllP.cons
    all_goals first | exact trivial | exact yard_t 3 (by decide) | exact k_pl
  case zk =>
  refine Aw.sm tab_ok mb0 [(49, [.bool true]), (87, [.bool true])] rfl rfl ?zo ?zk
  case zo =>
    repeat' apply AllP.cons
    all_goals first | exact trivial | exact id | exact fun _ => rfl | exact fun _ => Nat.le_of_ble_eq_true rfl | exact fun _ => works_t | exact fun _ => k_sm
  case zk =>
  exact Aw.ret ⟨_, .cons (.tmp _) .nil, rfl⟩
end Go.Proofs.Ytimikmfkdaoaaaa
namespace Go.Proofs.Ytimikmfkdaoaaaa
open Go Go.AL Go.ChangeShapes Go.WideShapes Go.ChangeAt Go.RowKit
set_option maxRecDepth 100000 in
theorem gutKnown_lifted (os : Os) (started : os.Started) (H : Type) (enc : TypeId × Value → H) :
    ReturnsInHanded {} Try.checked os 15 .any (Rows.gutKnownSpec.pre6 enc Try.prog Try.f15 [] false) (Rows.gutKnownSpec.post enc Try.prog Try.f15 false true false false) := by
  refine lifted (tb := 4) (C := Try.checked) own started (by kernel_rfl) Try.func15
    (ChangeSpec.witness6 (enc := enc) (C := Try.checked) false ⟨#[], #[], []⟩ 8 (by kernel_rfl) (by kernel_rfl) (by kernel_rfl) (by kernel_rfl))
    laidOut ?_ rfl (by kernel_rfl) uBool ?_ ?_
  · rw [Try.params15]; intro t ht; cases ht
  · intro ds hd
    rw [Try.params15] at hd
    match ds, hd with
    | [], _ => rfl
  · intro W base args ds p hval hA
    rw [Try.params15] at hA hval
    obtain ⟨h1, _, _⟩ := trodAll_nil hA
    have e : args = #[] := by cases args; simp_all
    subst e
    exact ⟨fun _ => none, [], VRs.nil _ _ _, law_known⟩
theorem gutKnown_holds : Rows.GutKnownSaid :=
  OpenClaim.holds_of_wide 15 Try.f15 rfl rfl rfl rfl rfl rfl rfl ⟨rfl, rfl, rfl, rfl, rfl⟩ rfl rfl rfl rfl rfl (by kernel_rfl) Try.func15 (by kernel_rfl)
    (of_decide_eq_true (by kernel_rfl)) (by unfold Func.isWrapper; first | (rw [if_pos (by decide +kernel)]; kernel_rfl) | (rw [if_neg (by decide +kernel)]; exact ⟨rfl, rfl⟩))
    (fun os started H enc _ => gutKnown_lifted os started H enc)
end Go.Proofs.Ytimikmfkdaoaaaa
