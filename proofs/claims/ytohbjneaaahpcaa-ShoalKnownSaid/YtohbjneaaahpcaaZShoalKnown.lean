/- ShoalKnown holds: What is said of single seas, reports and casts holds. No condition. -/
import Derived.Test.YtohbjneaaahpcaaK7
set_option linter.all false
namespace Go.Proofs.Ytohbjneaaahpcaa
open Go Go.AL Go.AL.Q Go.AL.Sh
theorem Trk.hours {s : Sea} (ho : s.Ok) {T : List Nat} (h : Trk s T) : (T.length : Int) = s.hours := by have := hrs_pos ho; have := h.len; omega
end Go.Proofs.Ytohbjneaaahpcaa

namespace Go.Proofs.Ytohbjneaaahpcaa
open Go Go.AL Go.AL.Q Go.AL.Sh
structure NextIs (w : Int) (G : List Int) (casts : List Sp) (k : Nat) (p : Int × Int) : Prop where
  i : ∃ i : Nat, p.1 = i ∧ i < k ∧ p.2 = worstF w G (casts.getD i ⟨0, 0⟩)
  ge : ∀ j : Nat, j < k → p.2 ≤ worstF w G (casts.getD j ⟨0, 0⟩) ∧ ((j : Int) < p.1 → p.2 < worstF w G (casts.getD j ⟨0, 0⟩))
def lastI (l : List Int) : Int := l.getLast?.getD (-1)
structure Rd (n f : Nat) (last : Int) (m : List Int) : Prop where
  len : m.length = f
  ri : risingF n last m = true
structure ChT (fd : List Int → Bool) (n f : Nat) (l : List Int) (r : Cst) : Prop where
  t : r.1 = true → ∃ m, Rd n f (lastI l) m ∧ r.2 = l ++ m ∧ fd (l ++ m) = true ∧ ∀ m', Rd n f (lastI l) m' → fd (l ++ m') = true → Q.befF m' m = false
  f : r.1 = false → ∀ m', Rd n f (lastI l) m' → fd (l ++ m') = false
structure GoT (fd : List Int → Bool) (n f : Nat) (l : List Int) (is : List Nat) (r : Cst) : Prop where
  t : r.1 = true → ∃ i ∈ is, ∃ m, Rd n f i m ∧ r.2 = l ++ (i : Int) :: m ∧ fd (l ++ (i : Int) :: m) = true ∧ ∀ i' ∈ is, ∀ m', Rd n f i' m' → fd (l ++ (i' : Int) :: m') = true → Q.befF ((i' : Int) :: m') ((i : Int) :: m) = false
  f : r.1 = false → ∀ i' ∈ is, ∀ m', Rd n f i' m' → fd (l ++ (i' : Int) :: m') = false
structure SureIs (fd : List Int → Bool) (n : Nat) (o : List Int) : Prop where
  ri : risingF n (-1) o = true
  ok : fd o = true
  pos : 1 ≤ o.length
  first : ∀ o', o' ≠ [] → risingF n (-1) o' = true → fd o' = true → o.length < o'.length ∨ o'.length = o.length ∧ Q.befF o' o = false
end Go.Proofs.Ytohbjneaaahpcaa

namespace Go.Proofs.Ytohbjneaaahpcaa
open Go Go.AL Go.AL.Q Go.AL.Sh
end Go.Proofs.Ytohbjneaaahpcaa

namespace Go.Proofs.Ytohbjneaaahpcaa
open Go Go.AL Go.AL.Q Go.AL.Sh
end Go.Proofs.Ytohbjneaaahpcaa

namespace Go.Proofs.Ytohbjneaaahpcaa
open Go Go.AL Go.AL.Q Go.AL.Sh
end Go.Proofs.Ytohbjneaaahpcaa

namespace Go.Proofs.Ytohbjneaaahpcaa
open Go Go.AL Go.AL.Q Go.AL.Sh
end Go.Proofs.Ytohbjneaaahpcaa

namespace Go.Proofs.Ytohbjneaaahpcaa
open Go Go.AL Go.AL.Q Go.AL.Sh
end Go.Proofs.Ytohbjneaaahpcaa

namespace Go.Proofs.Ytohbjneaaahpcaa
open Go Go.AL Go.AL.Q Go.AL.Sh
structure MoreIs (G A B C : List Int) (e f g h : Int) : Prop where
  e : e = canE G
  a : ∀ c ∈ A, c ∈ G
  b : ∀ c ∈ B, c ∈ G
  c : ∀ c ∈ C, c ∈ G
  f : (f = 11 ∧ A = []) ∨ f = canE A
  g : g = canE B
  h : h = canE C
  la : A.length ≤ 80
  lb : B.length ≤ 80
  lc : C.length ≤ 80
  lG : G.length ≤ 80
end Go.Proofs.Ytohbjneaaahpcaa

namespace Go.Proofs.Ytohbjneaaahpcaa
open Go Go.AL Go.AL.Q Go.AL.Sh
structure TrkIs (s : Sea) (l : List Rep) (NM : List Int) (fw : Int) (T : List Nat) (n : Int) (is : Bool) : Prop where
  r : TrackR s l (tI T) = (n, is, 0)
  c : ∀ c ∈ tI T, 0 ≤ c ∧ c ≤ 1000
  len : T.length ≤ 12
  h : is = true → n = fw → (T.length : Int) = s.hours ∧ ∀ i ∈ NM, ∃ k : Nat, i = k ∧ ∃ hk : k < l.length, lieB s.wide T l[k] = true
end Go.Proofs.Ytohbjneaaahpcaa

namespace Go.Proofs.Ytohbjneaaahpcaa
open Go Go.AL Go.AL.Q Go.AL.Sh
theorem zero_rows {sz : Nat} {zr : List A} (n : Nat) (z : List A) (hz : z.length = sz) (h0 : 0 < sz) (h : ∀ j, j < sz → z.getD j .un = (zr.getD j .un).down) :
    RowsAre (((List.range (n * sz)).map fun j => zr.getD (j % sz) .un).map A.down) (List.replicate n z) sz := by
  refine ⟨fun e he => by rw [List.mem_replicate] at he; rw [he.2]; exact hz, by simp, fun i j hi hj => ?_⟩
  have hi : i < n := by simpa using hi
  have hlt : i * sz + j < n * sz := by
    have : (i + 1) * sz ≤ n * sz := Nat.mul_le_mul_right _ hi
    rw [Nat.succ_mul] at this; omega
  have e1 : (List.replicate n z).getD i [] = z := by simp [List.getD_eq_getElem?_getD, hi]
  have e2 : (i * sz + j) % sz = j := by rw [Nat.add_comm, Nat.add_mul_mod_self_right]; exact Nat.mod_eq_of_lt hj
  rw [e1, h j hj]
  have e3 : (((List.range (n * sz)).map fun j => zr.getD (j % sz) .un).map A.down).getD (i * sz + j) .un = (zr.getD ((i * sz + j) % sz) .un).down := by
    simp [List.getD_eq_getElem?_getD, hlt]
  rw [e3, e2]
  have dd : ∀ a : A, a.down.down = a.down := fun a => by unfold A.down; split <;> split <;> simp_all
  rw [dd]
theorem each_len {l : List (List A)} {n : Nat} (h : l.all (fun z => z.length == n) = true) : ∀ z ∈ l, z.length = n := fun z hz => eq_of_beq (List.all_eq_true.1 h z hz)
def dr2 : List Sp := [⟨1, 0⟩, ⟨0, 0⟩]
def badL : List Sea := [⟨0, 0, true, [], 0, true, [], 0⟩, ⟨11, 1, true, [], 3, false, dr2, 1⟩, ⟨4, 0, true, [], 3, false, dr2, 1⟩, ⟨4, 1, true, [], 13, false, dr2, 1⟩, ⟨4, 1, true, [], 3, false, [⟨1, 0⟩], 1⟩, ⟨4, 1, true, [], 3, false, [⟨3, 0⟩, ⟨0, 0⟩], 1⟩, ⟨4, 1, false, [4], 3, false, dr2, 1⟩, ⟨4, 1, false, [1, 1], 3, false, dr2, 1⟩]
def nilA : A := .sl true .any []
def drA (l : List Sp) : A := .sl false .any (l.map Sp.c)
def badR : List (List A) := [[.int 0, .int 0, .sl true .exact [], .int 0, .sl true .exact [], .int 0], [.int 11, .int 1, nilA, .int 3, drA dr2, .int 1], [.int 4, .int 0, nilA, .int 3, drA dr2, .int 1], [.int 4, .int 1, nilA, .int 13, drA dr2, .int 1], [.int 4, .int 1, nilA, .int 3, drA [⟨1, 0⟩], .int 1], [.int 4, .int 1, .sl true .exact [], .int 3, drA [⟨3, 0⟩, ⟨0, 0⟩], .int 1], [.int 4, .int 1, .sl false .exact (ints [4]), .int 3, drA dr2, .int 1], [.int 4, .int 1, .sl false .exact (ints [1, 1]), .int 3, drA dr2, .int 1]]
theorem le6 {a b c d e f c' e' : A} (h : A.Le c c') (k : A.Le e e') : LeL [a, b, c, d, e, f] [a, b, c', d, e', f] := .cons (.refl _) (.cons (.refl _) (.cons h (.cons (.refl _) (.cons k (.cons (.refl _) .nil)))))
theorem bad_le : A.Le (.sl false .any (badL.map Sea.c)) (.sl false .any badR) := .rows
  (.cons (le6 (.any _ _ _) (.any _ _ _)) (.cons (le6 (.refl _) (.refl _)) (.cons (le6 (.refl _) (.refl _)) (.cons (le6 (.refl _) (.refl _)) (.cons (le6 (.refl _) (.refl _)) (.cons (le6 (.any _ _ _) (.refl _)) (.cons (le6 (.any _ _ _) (.refl _)) (.cons (le6 (.any _ _ _) (.refl _)) .nil))))))))
theorem bad_no : ∀ b ∈ badL, b.ok = false := by decide +kernel
theorem bad_fit : ∀ b ∈ badL, b.land.length ≤ 2 ∧ b.drift.length ≤ 2 := by decide +kernel
def zrep : Rep := ⟨0, 0, 0, false⟩
def z25 : List Rep := List.replicate 25 zrep
theorem z25_c : z25.map Rep.c = List.replicate 25 zrep.c := by unfold z25; rw [List.map_replicate]
structure BadIs (b : Sea) : Prop where
  t : Ans Try.prog 16 [.agg b.c, .sl false .any (z25.map Rep.c), .sl true .exact []] (.tup [.int 0, .bool false, .int 10])
  l : Ans Try.prog 20 [.agg b.c, .sl true .exact []] (.tup [.int 0, outW [], .int 10])
  c : Ans Try.prog 24 [.agg b.c, .sl true .exact [], .int (-1), .int 0] (.tup [outW [], .int 10])
  i : Ans Try.prog 26 [.agg b.c, .sl true .exact []] (.tup [outW [], .int 10])
  n : Ans Try.prog 28 [.agg b.c, .sl true .exact [], .int (-1), .int 0, .sl true .exact []] (.tup [.int 0, .int 0, .int 10])
  s : Ans Try.prog 30 [.agg b.c, .sl true .exact [], .int (-1), .int 0, .sl true .exact []] (.tup [outW [], .int 10])
  k : Ans Try.prog 18 [.agg b.c] (.int 10)
theorem cst0 : CstFit [] := ⟨by decide, fun _ h => nomatch h⟩
theorem bad_is {b : Sea} (h : b.ok = false) (hf : SeaFit b) : BadIs b := by
  have hx : SrFit ⟨b, true, []⟩ := ⟨hf, by show ((0 : Nat) : Int) ≤ _; decide⟩
  have hx2 : SrFit ⟨b, false, z25⟩ := ⟨hf, by show ((25 : Nat) : Int) ≤ _; decide⟩
  have e1 : TrackR b z25 [] = (0, false, 10) := by unfold TrackR; rw [h]; rfl
  have e2 : LeastR b [] = (0, [], 10) := by unfold LeastR; rw [h]; rfl
  have e3 : CanR b [] (-1) 0 = ([], 10) := by unfold CanR; rw [h]; rfl
  have e4 : LiarsR b [] = ([], 10) := by unfold LiarsR; rw [h]; rfl
  have e0 : AskE b [] (-1) 0 [] = 10 := by unfold AskE; rw [h]; rfl
  have e5 : NextR b [] (-1) 0 [] = (0, 0, 10) := by unfold NextR; rw [e0]; rfl
  have e6 : SureR b [] (-1) 0 [] = ([], 10) := by unfold SureR; rw [e0]; rfl
  have e7 : b.chk = 10 := by unfold Sea.chk; rw [h]; rfl
  have c1 := IsTrack_w _ hx2 true [] (by decide)
  have c2 := Least_w _ hx
  have c3 := Can_w _ hx (-1) 0
  have c4 := Liars_w _ hx
  have c5 := Next_w _ hx (-1) 0 true [] cst0
  have c6 := Sure_w _ hx (-1) 0 true [] cst0
  have c7 := check_t b hf
  simp only at c1 c2 c3 c4 c5 c6
  rw [e1] at c1; rw [e2] at c2; rw [e3] at c3; rw [e4] at c4; rw [e5] at c5; rw [e6] at c6; rw [e7] at c7
  exact ⟨AnsL c1 (.cons (.refl _) (.cons (.refl _) (.cons (.any _ _ _) .nil))), AnsL c2 (.cons (.refl _) (.cons (.any _ _ _) .nil)), AnsL c3 (.cons (.refl _) (.cons (.any _ _ _) (.cons (.refl _) (.cons (.refl _) .nil)))), AnsL c4 (.cons (.refl _) (.cons (.any _ _ _) .nil)),
    AnsL c5 (.cons (.refl _) (.cons (.any _ _ _) (.cons (.refl _) (.cons (.refl _) (.cons (.any _ _ _) .nil))))), AnsL c6 (.cons (.refl _) (.cons (.any _ _ _) (.cons (.refl _) (.cons (.refl _) (.cons (.any _ _ _) .nil))))), c7⟩
theorem zz_snap (H : Hp) (id : Nat) (hH : H id = some (.cells (((List.range (25 * 4)).map fun j => (tab.zr 52).getD (j % 4) .un).map A.down))) : Snap H (.ms id 0 25) (.sl false .any (z25.map Rep.c)) := by
  have z := zero_rows (sz := 4) (zr := tab.zr 52) 25 zrep.c rfl (by decide) fun j hj => match j, hj with | 0, _ => rfl | 1, _ => rfl | 2, _ => rfl | 3, _ => rfl
  refine .ms (sz := 4) hH (by rw [z25_c]; simp) ?_ ?_ fun i j hi hj => ?_
  · rw [z25_c]; exact z.each
  · simp
  · rw [z25_c, Nat.zero_add]; exact z.is i j (by simpa using hi) hj
theorem bad_s {b : Sea} (h : BadIs b) (H : Hp) (id : Nat) (hH : H id = some (.cells (((List.range (25 * 4)).map fun j => (tab.zr 52).getD (j % 4) .un).map A.down))) :
    AnsS Try.prog H 16 [.agg b.c, .ms id 0 25, .sl true .exact []] [.agg b.c, .sl false .any (z25.map Rep.c), .sl true .exact []] (.tup [.int 0, .bool false, .int 10]) :=
  ⟨h.t.ent, h.t.pure, .tup [.int .i64 0, .bool false, .int .i64 10], .cons (.same _) (.cons (zz_snap H id hH) (.cons (.same _) .nil))⟩
def wrL : List (List Rep) := [[⟨3, 0, 0, false⟩], [⟨-1, 0, 0, false⟩], [⟨0, 4, 0, false⟩], [⟨0, -1, 0, false⟩], [⟨0, 0, 10, false⟩], [⟨0, 0, -1, false⟩], z25]
def wrR : List (List A) := [[.sl false .exact [[.int 3, .int 0, .int 0, .bool false]]], [.sl false .exact [[.int (-1), .int 0, .int 0, .bool false]]], [.sl false .exact [[.int 0, .int 4, .int 0, .bool false]]], [.sl false .exact [[.int 0, .int (-1), .int 0, .bool false]]], [.sl false .exact [[.int 0, .int 0, .int 10, .bool false]]], [.sl false .exact [[.int 0, .int 0, .int (-1), .bool false]]], [.sl false .any (z25.map Rep.c)]]
def wrC (l : List Rep) : List A := [.sl false .any (l.map Rep.c)]
theorem wr_le : A.Le (.sl false .any (wrL.map wrC)) (.sl false .any wrR) := .rows
  (.cons (.cons (.any _ _ _) .nil) (.cons (.cons (.any _ _ _) .nil) (.cons (.cons (.any _ _ _) .nil) (.cons (.cons (.any _ _ _) .nil) (.cons (.cons (.any _ _ _) .nil) (.cons (.cons (.any _ _ _) .nil) (.cons (.cons (.refl _) .nil) .nil)))))))
theorem wr_no : ∀ l ∈ wrL, rowS.repsOk l = false := by decide +kernel
theorem wr_len : ∀ l ∈ wrL, l.length ≤ 25 := by decide +kernel
theorem row_okk : rowS.ok = true := by decide +kernel
structure WrIs (l : List Rep) : Prop where
  t : Ans Try.prog 16 [.agg rowS.c, .sl false .any (l.map Rep.c), .sl true .exact []] (.tup [.int 0, .bool false, .int 11])
  le : Ans Try.prog 20 [.agg rowS.c, .sl false .any (l.map Rep.c)] (.tup [.int 0, outW [], .int 11])
  c : Ans Try.prog 24 [.agg rowS.c, .sl false .any (l.map Rep.c), .int (-1), .int 0] (.tup [outW [], .int 11])
  i : Ans Try.prog 26 [.agg rowS.c, .sl false .any (l.map Rep.c)] (.tup [outW [], .int 11])
  n : Ans Try.prog 28 [.agg rowS.c, .sl false .any (l.map Rep.c), .int (-1), .int 0, .sl true .exact []] (.tup [.int 0, .int 0, .int 11])
theorem row_fit : SeaFit rowS := ⟨show ((0 : Nat) : Int) ≤ 9223372036854775806 by decide, show ((2 : Nat) : Int) ≤ 9223372036854775806 by decide⟩
theorem wr_is {l : List Rep} (h : rowS.repsOk l = false) (hl : l.length ≤ 25) : WrIs l := by
  have hx : SrFit ⟨rowS, false, l⟩ := ⟨row_fit, by show (l.length : Int) ≤ _; omega⟩
  have ho := row_okk
  have e1 : TrackR rowS l [] = (0, false, 11) := by unfold TrackR; rw [ho, h]; rfl
  have e2 : LeastR rowS l = (0, [], 11) := by unfold LeastR; rw [ho, h]; rfl
  have e3 : CanR rowS l (-1) 0 = ([], 11) := by unfold CanR; rw [ho, h]; rfl
  have e4 : LiarsR rowS l = ([], 11) := by unfold LiarsR; rw [ho, h]; rfl
  have e0 : AskE rowS l (-1) 0 [] = 11 := by unfold AskE; rw [ho, h]; rfl
  have e5 : NextR rowS l (-1) 0 [] = (0, 0, 11) := by unfold NextR; rw [e0]; rfl
  have c1 := IsTrack_w _ hx true [] (by decide)
  have c2 := Least_w _ hx
  have c3 := Can_w _ hx (-1) 0
  have c4 := Liars_w _ hx
  have c5 := Next_w _ hx (-1) 0 true [] cst0
  simp only at c1 c2 c3 c4 c5
  rw [e1] at c1; rw [e2] at c2; rw [e3] at c3; rw [e4] at c4; rw [e5] at c5
  exact ⟨AnsL c1 (.cons (.refl _) (.cons (.refl _) (.cons (.any _ _ _) .nil))), c2, c3, c4, AnsL c5 (.cons (.refl _) (.cons (.refl _) (.cons (.refl _) (.cons (.refl _) (.cons (.any _ _ _) .nil)))))⟩
def landS : Sea := ⟨4, 1, false, [0, 1, 2, 3], 3, false, dr2, 1⟩
def landA : List A := [.int 4, .int 1, .sl false .exact (ints [0, 1, 2, 3]), .int 3, drA dr2, .int 1]
theorem land_le : A.Le (.agg landS.c) (.agg landA) := .agg (le6 (.any _ _ _) (.refl _))
theorem landFit : SrFit ⟨landS, true, []⟩ := ⟨⟨show ((4 : Nat) : Int) ≤ 9223372036854775806 by decide, show ((2 : Nat) : Int) ≤ 9223372036854775806 by decide⟩, show ((0 : Nat) : Int) ≤ 9223372036854775806 by decide⟩
theorem rowFit0 : SrFit ⟨rowS, true, []⟩ := ⟨row_fit, show ((0 : Nat) : Int) ≤ 9223372036854775806 by decide⟩
def z9 : List Sp := List.replicate 9 ⟨0, 0⟩
theorem z9_c : z9.map Sp.c = List.replicate 9 (Sp.c ⟨0, 0⟩) := by unfold z9; rw [List.map_replicate]
def c1L : List Sp := [⟨0, 0⟩]
def c2L : List Sp := [⟨4, 0⟩]
def c4L : List Sp := [⟨0, 0⟩, ⟨2, 0⟩, ⟨1, 0⟩, ⟨1, 1⟩]
theorem va : CanR rowS (rep5.take 3) 25 0 = ([], 7) := by decide +kernel
theorem vb : CanR rowS (rep5.take 3) 0 3 = ([], 7) := by decide +kernel
theorem vc : CanR rowS (rep5.take 3) 0 1 = ([], 12) := by decide +kernel
theorem vd : NextR rowS (rep5.take 3) 0 3 [] = (0, 0, 7) := by decide +kernel
theorem ve : NextR rowS (rep5.take 3) 0 1 [] = (0, 0, 13) := by decide +kernel
theorem vf : NextR rowS (rep5.take 3) 0 1 c1L = (0, 0, 12) := by decide +kernel
theorem vg : SureR rowS (rep5.take 3) 0 1 c2L = ([], 13) := by decide +kernel
theorem vh : SureR rowS (rep5.take 3) 1 1 c1L = ([], 4) := by decide +kernel
theorem vi : LeastR landS [] = (0, [], 4) := by decide +kernel
theorem vj : LiarsR landS [] = ([], 4) := by decide +kernel
theorem vk : CanR landS [] 24 0 = ([], 12) := by decide +kernel
theorem vm : NextR rowS [] 0 0 z9 = (0, 0, 13) := by decide +kernel
theorem vn : TrackR rowS (rep5.take 2) [0, 0, 3] = (0, false, 0) := by decide +kernel
theorem vo : TrackR rowS (rep5.take 2) [1, 1, 0] = (2, true, 0) := by decide +kernel
theorem vp : TrackR rowS [] [0, 0] = (0, false, 0) := by decide +kernel
theorem vq : CanR rowS (rep5.take 2) 0 1 = ([2], 0) := by decide +kernel
theorem vr : CanR rowS (rep5.take 3) 2 1 = ([0, 1, 2, 3], 0) := by decide +kernel
theorem vs : LiarsR rowS (rep5.take 3) = ([], 0) := by decide +kernel
theorem vt : SureR rowS (rep5.take 3) 1 1 c4L = ([3], 0) := by decide +kernel
theorem vu : CanR rowS [] 0 0 = ([0, 1, 2, 3], 0) := by decide +kernel
theorem cf (l : List Sp) (h : l.length ≤ 100) (hr : ∀ c ∈ l, (-1000 ≤ c.lo ∧ c.lo ≤ 1000) ∧ -1000 ≤ c.hi ∧ c.hi ≤ 1000) : CstFit l := cfit h hr
theorem ka : Ans Try.prog 24 [.agg rowS.c, (exS 3).rA, .int 25, .int 0] (.tup [outW [], .int 7]) := by
  have h := Can_w (exS 3) (exFit 3) 25 0
  simp only [exS] at h
  rw [va] at h
  exact h
theorem kb : Ans Try.prog 24 [.agg rowS.c, (exS 3).rA, .int 0, .int 3] (.tup [outW [], .int 7]) := by
  have h := Can_w (exS 3) (exFit 3) 0 3
  simp only [exS] at h
  rw [vb] at h
  exact h
theorem kc : Ans Try.prog 24 [.agg rowS.c, (exS 3).rA, .int 0, .int 1] (.tup [outW [], .int 12]) := by
  have h := Can_w (exS 3) (exFit 3) 0 1
  simp only [exS] at h
  rw [vc] at h
  exact h
theorem kd : Ans Try.prog 28 [.agg rowS.c, (exS 3).rA, .int 0, .int 3, .sl true .exact []] (.tup [.int 0, .int 0, .int 7]) := by
  have h := Next_w (exS 3) (exFit 3) 0 3 true [] cst0
  simp only [exS] at h
  rw [vd] at h
  exact AnsL h (.cons (.refl _) (.cons (.refl _) (.cons (.refl _) (.cons (.refl _) (.cons (.any _ _ _) .nil)))))
theorem ke : Ans Try.prog 28 [.agg rowS.c, (exS 3).rA, .int 0, .int 1, .sl true .exact []] (.tup [.int 0, .int 0, .int 13]) := by
  have h := Next_w (exS 3) (exFit 3) 0 1 true [] cst0
  simp only [exS] at h
  rw [ve] at h
  exact AnsL h (.cons (.refl _) (.cons (.refl _) (.cons (.refl _) (.cons (.refl _) (.cons (.any _ _ _) .nil)))))
theorem kf : Ans Try.prog 28 [.agg rowS.c, (exS 3).rA, .int 0, .int 1, .sl false .exact [[.int 0, .int 0]]] (.tup [.int 0, .int 0, .int 12]) := by
  have h := Next_w (exS 3) (exFit 3) 0 1 false c1L (cf _ (by decide) (by decide))
  simp only [exS] at h
  rw [vf] at h
  exact AnsL h (.cons (.refl _) (.cons (.refl _) (.cons (.refl _) (.cons (.refl _) (.cons (.any _ _ _) .nil)))))
theorem kg : Ans Try.prog 30 [.agg rowS.c, (exS 3).rA, .int 0, .int 1, .sl false .exact [[.int 4, .int 0]]] (.tup [outW [], .int 13]) := by
  have h := Sure_w (exS 3) (exFit 3) 0 1 false c2L (cf _ (by decide) (by decide))
  simp only [exS] at h
  rw [vg] at h
  exact AnsL h (.cons (.refl _) (.cons (.refl _) (.cons (.refl _) (.cons (.refl _) (.cons (.any _ _ _) .nil)))))
theorem kh : Ans Try.prog 30 [.agg rowS.c, (exS 3).rA, .int 1, .int 1, .sl false .exact [[.int 0, .int 0]]] (.tup [outW [], .int 4]) := by
  have h := Sure_w (exS 3) (exFit 3) 1 1 false c1L (cf _ (by decide) (by decide))
  simp only [exS] at h
  rw [vh] at h
  exact AnsL h (.cons (.refl _) (.cons (.refl _) (.cons (.refl _) (.cons (.refl _) (.cons (.any _ _ _) .nil)))))
theorem ki : Ans Try.prog 20 [.agg landA, .sl true .exact []] (.tup [.int 0, outW [], .int 4]) := by
  have h := Least_w _ landFit
  simp only [exS] at h
  rw [vi] at h
  exact AnsL h (.cons land_le (.cons (.any _ _ _) .nil))
theorem kj : Ans Try.prog 26 [.agg landA, .sl true .exact []] (.tup [outW [], .int 4]) := by
  have h := Liars_w _ landFit
  simp only [exS] at h
  rw [vj] at h
  exact AnsL h (.cons land_le (.cons (.any _ _ _) .nil))
theorem kk : Ans Try.prog 24 [.agg landA, .sl true .exact [], .int 24, .int 0] (.tup [outW [], .int 12]) := by
  have h := Can_w _ landFit 24 0
  simp only [exS] at h
  rw [vk] at h
  exact AnsL h (.cons land_le (.cons (.any _ _ _) (.cons (.refl _) (.cons (.refl _) .nil))))
theorem km : Ans Try.prog 28 [.agg rowS.c, .sl true .exact [], .int 0, .int 0, .sl false .any (z9.map Sp.c)] (.tup [.int 0, .int 0, .int 13]) := by
  have h := Next_w _ rowFit0 0 0 false z9 (cf _ (by decide) (by decide +kernel))
  simp only [exS] at h
  rw [vm] at h
  exact AnsL h (.cons (.refl _) (.cons (.any _ _ _) (.cons (.refl _) (.cons (.refl _) (.cons (.refl _) .nil)))))
theorem kn : Ans Try.prog 16 [.agg rowS.c, (exS 2).rA, .sl false .exact (ints [0, 0, 3])] (.tup [.int 0, .bool false, .int 0]) := by
  have h := IsTrack_w (exS 2) (exFit 2) false [0, 0, 3] (by decide)
  simp only [exS] at h
  rw [vn] at h
  exact AnsL h (.cons (.refl _) (.cons (.refl _) (.cons (.any _ _ _) .nil)))
theorem ko : Ans Try.prog 16 [.agg rowS.c, (exS 2).rA, .sl false .exact (ints [1, 1, 0])] (.tup [.int 2, .bool true, .int 0]) := by
  have h := IsTrack_w (exS 2) (exFit 2) false [1, 1, 0] (by decide)
  simp only [exS] at h
  rw [vo] at h
  exact AnsL h (.cons (.refl _) (.cons (.refl _) (.cons (.any _ _ _) .nil)))
theorem kp : Ans Try.prog 16 [.agg rowS.c, .sl true .exact [], .sl false .exact (ints [0, 0])] (.tup [.int 0, .bool false, .int 0]) := by
  have h := IsTrack_w _ rowFit0 false [0, 0] (by decide)
  simp only [exS] at h
  rw [vp] at h
  exact AnsL h (.cons (.refl _) (.cons (.any _ _ _) (.cons (.any _ _ _) .nil)))
theorem kq : Ans Try.prog 24 [.agg rowS.c, (exS 2).rA, .int 0, .int 1] (.tup [outW [2], .int 0]) := by
  have h := Can_w (exS 2) (exFit 2) 0 1
  simp only [exS] at h
  rw [vq] at h
  exact h
theorem kr : Ans Try.prog 24 [.agg rowS.c, (exS 3).rA, .int 2, .int 1] (.tup [outW [0, 1, 2, 3], .int 0]) := by
  have h := Can_w (exS 3) (exFit 3) 2 1
  simp only [exS] at h
  rw [vr] at h
  exact h
theorem ks : Ans Try.prog 26 [.agg rowS.c, (exS 3).rA] (.tup [outW [], .int 0]) := by
  have h := Liars_w (exS 3) (exFit 3)
  simp only [exS] at h
  rw [vs] at h
  exact h
theorem kt : Ans Try.prog 30 [.agg rowS.c, (exS 3).rA, .int 1, .int 1, .sl false .exact (c4L.map Sp.c)] (.tup [outW [3], .int 0]) := by
  have h := Sure_w (exS 3) (exFit 3) 1 1 false c4L (cf _ (by decide) (by decide +kernel))
  simp only [exS] at h
  rw [vt] at h
  exact AnsL h (.cons (.refl _) (.cons (.refl _) (.cons (.refl _) (.cons (.refl _) (.cons (.any _ _ _) .nil)))))
theorem ku : Ans Try.prog 24 [.agg rowS.c, .sl true .exact [], .int 0, .int 0] (.tup [outW [0, 1, 2, 3], .int 0]) := by
  have h := Can_w _ rowFit0 0 0
  simp only [exS] at h
  rw [vu] at h
  exact AnsL h (.cons (.refl _) (.cons (.any _ _ _) (.cons (.refl _) (.cons (.refl _) .nil))))
theorem km_s (H : Hp) (id : Nat) (hH : H id = some (.cells (((List.range (9 * 2)).map fun j => (tab.zr 64).getD (j % 2) .un).map A.down))) :
    AnsS Try.prog H 28 [.agg rowS.c, .sl true .exact [], .int 0, .int 0, .ms id 0 9] [.agg rowS.c, .sl true .exact [], .int 0, .int 0, .sl false .any (z9.map Sp.c)] (.tup [.int 0, .int 0, .int 13]) := by
  have z := zero_rows (sz := 2) (zr := tab.zr 64) 9 (Sp.c ⟨0, 0⟩) rfl (by decide) fun j hj => match j, hj with | 0, _ => rfl | 1, _ => rfl
  refine ⟨km.ent, km.pure, .tup [.int .i64 0, .int .i64 0, .int .i64 13], .cons (.same _) (.cons (.same _) (.cons (.same _) (.cons (.same _) (.cons (.ms (sz := 2) hH (by rw [z9_c]; simp) ?_ ?_ fun i j hi hj => ?_) .nil))))⟩
  · rw [z9_c]; exact z.each
  · simp
  · rw [z9_c, Nat.zero_add]; exact z.is i j (by simpa using hi) hj
theorem row_m (H : Hp) : SCall Try.prog 45 [] H 0 fun v H1 c1 => v = .agg [.int 4, .int 1, .sl true .exact [], .int 3, .ms 1 0 2, .int 1] ∧ c1 = 2 ∧ H1 = updH (updH (updH H 0 (some (.cells ((tab.zr 25).map A.down)))) 1 (some (.cells [.int 1, .int 0, .int 0, .int 0]))) 0 (some (.cells [.int 4, .int 1, .sl true .exact [], .int 3, .ms 1 0 2, .int 1])) := by
  refine SCall.of_bodyN tab_ok Try.func45 rfl Try.ntmps45 (Nat.le_of_ble_eq_true rfl) allN fun E hE => ?_
  refine Aw.sm tab_ok mb0 [] rfl rfl ?zo ?zk
  case zo =>
    repeat' apply AllP.cons
    all_goals first | exact trivial | exact id | exact rfl | exact fun _ => rfl | exact Nat.le_of_ble_eq_true rfl | exact fun _ => Nat.le_of_ble_eq_true rfl | exact Int.natCast_nonneg _ | exact fun _ => Int.natCast_nonneg _ | exact within_t _ _ _ | exact (within_t _ _ _).un | exact in_t _ _ _ | exact (in_t _ _ _).un | exact gq_f | exact gq_t | exact gq_c | exact fun _ _ => rfl | exact works_t | exact fun _ => works_t | exact row_t
  case zk =>
  refine Aw.sm tab_ok mb0 [(2, [.ms 0 0 0])] rfl rfl ?zo ?zk
  case zo =>
    repeat' apply AllP.cons
    all_goals first | exact trivial | exact id | exact rfl | exact fun _ => rfl | exact Nat.le_of_ble_eq_true rfl | exact fun _ => Nat.le_of_ble_eq_true rfl | exact Int.natCast_nonneg _ | exact fun _ => Int.natCast_nonneg _ | exact within_t _ _ _ | exact (within_t _ _ _).un | exact in_t _ _ _ | exact (in_t _ _ _).un | exact gq_f | exact gq_t | exact gq_c | exact fun _ _ => rfl | exact works_t | exact fun _ => works_t | exact row_t
  case zk =>
  exact Aw.ret ⟨_, .cons (resC rfl rfl rfl rfl rfl) .nil, rfl, rfl, rfl⟩
set_option maxRecDepth 20000 in
set_option maxHeartbeats 16000000 in
theorem known_t : Ans Try.prog 15 [] (.bool true) := by
  have hfr : Free (.bool true) := .s _
  refine told Try.func15 rfl rfl (Pure.of tab_ok Try.func15 rfl Try.ntmps15 rfl allN allN hfr fun E hE => ?_)
  have h1E : ∀ id, 1 ≤ id → E.φ0 id = none := fun id h => hE id (by omega)
  refine Aw.sm tab_ok mb0 [] rfl rfl ?zo ?zk
  case zo =>
    repeat' apply AllP.cons
    all_goals first | exact trivial | exact id | exact rfl | exact fun _ => rfl | exact Nat.le_of_ble_eq_true rfl | exact fun _ => Nat.le_of_ble_eq_true rfl | exact Int.natCast_nonneg _ | exact fun _ => Int.natCast_nonneg _ | exact within_t _ _ _ | exact (within_t _ _ _).un | exact in_t _ _ _ | exact (in_t _ _ _).un | exact gq_f | exact gq_t | exact gq_c | exact fun _ _ => rfl | exact works_t | exact fun _ => works_t | exact row_t
  case zk =>
  refine Aw.ss rfl ?_
  refine RegL.partE tab_ok mb0 false 5 0 [(1, [.agg rowS.c]), (2, [.agg rowS.c]), (3, [.agg rowS.c]), (4, [.agg rowS.c])] ?_
  conv => arg 5; whnf
  refine PartK.mk ?zo ?zk
  case zo =>
    repeat' apply AllP.cons
    all_goals first | exact trivial | exact id | exact rfl | exact fun _ => rfl | exact Nat.le_of_ble_eq_true rfl | exact fun _ => Nat.le_of_ble_eq_true rfl | exact Int.natCast_nonneg _ | exact fun _ => Int.natCast_nonneg _ | exact within_t _ _ _ | exact (within_t _ _ _).un | exact in_t _ _ _ | exact (in_t _ _ _).un | exact gq_f | exact gq_t | exact gq_c | exact fun _ _ => rfl | exact works_t | exact fun _ => works_t | exact row_t
  case zk =>
  refine Does.raw rfl (DoesR.call rfl rfl (enters_of Try.func45 rfl rfl) (row_m _) ?_)
  rintro v H' c' ⟨rfl, rfl, rfl⟩
  refine RegL.partE tab_ok mb0 false 4 6 [(6, [.agg rowS.c]), (7, [.agg rowS.c]), (8, [.ms 0 0 0])] ?_
  conv => arg 5; whnf
  refine PartK.mk ?zo ?zk
  case zo =>
    repeat' apply AllP.cons
    all_goals first | exact trivial | exact id | exact rfl | exact fun _ => rfl | exact Nat.le_of_ble_eq_true rfl | exact fun _ => Nat.le_of_ble_eq_true rfl | exact Int.natCast_nonneg _ | exact fun _ => Int.natCast_nonneg _ | exact within_t _ _ _ | exact (within_t _ _ _).un | exact in_t _ _ _ | exact (in_t _ _ _).un | exact gq_f | exact gq_t | exact gq_c | exact fun _ _ => rfl | exact works_t | exact fun _ => works_t | exact row_t
  case zk =>
  refine Aw.sm tab_ok mb0 [] rfl rfl ?zo ?zk
  case zo =>
    repeat' apply AllP.cons
    all_goals first | exact trivial | exact id | exact rfl | exact fun _ => rfl | exact Nat.le_of_ble_eq_true rfl | exact fun _ => Nat.le_of_ble_eq_true rfl | exact Int.natCast_nonneg _ | exact fun _ => Int.natCast_nonneg _ | exact within_t _ _ _ | exact (within_t _ _ _).un | exact in_t _ _ _ | exact (in_t _ _ _).un | exact gq_f | exact gq_t | exact gq_c | exact fun _ _ => rfl | exact works_t | exact fun _ => works_t | exact row_t
  case zk =>
  refine Aw.sm tab_ok mb0 [] rfl rfl ?zo ?zk
  case zo =>
    repeat' apply AllP.cons
    all_goals first | exact trivial | exact id | exact rfl | exact fun _ => rfl | exact Nat.le_of_ble_eq_true rfl | exact fun _ => Nat.le_of_ble_eq_true rfl | exact Int.natCast_nonneg _ | exact fun _ => Int.natCast_nonneg _ | exact within_t _ _ _ | exact (within_t _ _ _).un | exact in_t _ _ _ | exact (in_t _ _ _).un | exact gq_f | exact gq_t | exact gq_c | exact fun _ _ => rfl | exact works_t | exact fun _ => works_t | exact row_t
  case zk =>
  refine Aw.sm tab_ok mb0 [] rfl rfl ?zo ?zk
  case zo =>
    repeat' apply AllP.cons
    all_goals first | exact trivial | exact id | exact rfl | exact fun _ => rfl | exact Nat.le_of_ble_eq_true rfl | exact fun _ => Nat.le_of_ble_eq_true rfl | exact Int.natCast_nonneg _ | exact fun _ => Int.natCast_nonneg _ | exact within_t _ _ _ | exact (within_t _ _ _).un | exact in_t _ _ _ | exact (in_t _ _ _).un | exact gq_f | exact gq_t | exact gq_c | exact fun _ _ => rfl | exact works_t | exact fun _ => works_t | exact row_t
  case zk =>
  refine Aw.sm tab_ok mb0 [] rfl rfl ?zo ?zk
  case zo =>
    repeat' apply AllP.cons
    all_goals first | exact trivial | exact id | exact rfl | exact fun _ => rfl | exact Nat.le_of_ble_eq_true rfl | exact fun _ => Nat.le_of_ble_eq_true rfl | exact Int.natCast_nonneg _ | exact fun _ => Int.natCast_nonneg _ | exact within_t _ _ _ | exact (within_t _ _ _).un | exact in_t _ _ _ | exact (in_t _ _ _).un | exact gq_f | exact gq_t | exact gq_c | exact fun _ _ => rfl | exact works_t | exact fun _ => works_t | exact row_t
  case zk =>
  refine Aw.sm tab_ok mb0 [] rfl rfl ?zo ?zk
  case zo =>
    repeat' apply AllP.cons
    all_goals first | exact trivial | exact id | exact rfl | exact fun _ => rfl | exact Nat.le_of_ble_eq_true rfl | exact fun _ => Nat.le_of_ble_eq_true rfl | exact Int.natCast_nonneg _ | exact fun _ => Int.natCast_nonneg _ | exact within_t _ _ _ | exact (within_t _ _ _).un | exact in_t _ _ _ | exact (in_t _ _ _).un | exact gq_f | exact gq_t | exact gq_c | exact fun _ _ => rfl | exact works_t | exact fun _ => works_t | exact row_t
  case zk =>
  refine Aw.sm tab_ok mb0 [] rfl rfl ?zo ?zk
  case zo =>
    repeat' apply AllP.cons
    all_goals first | exact trivial | exact id | exact rfl | exact fun _ => rfl | exact Nat.le_of_ble_eq_true rfl | exact fun _ => Nat.le_of_ble_eq_true rfl | exact Int.natCast_nonneg _ | exact fun _ => Int.natCast_nonneg _ | exact within_t _ _ _ | exact (within_t _ _ _).un | exact in_t _ _ _ | exact (in_t _ _ _).un | exact gq_f | exact gq_t | exact gq_c | exact fun _ _ => rfl | exact works_t | exact fun _ => works_t | exact row_t
  case zk =>
  refine Aw.sm tab_ok mb0 [] rfl rfl ?zo ?zk
  case zo =>
    repeat' apply AllP.cons
    all_goals first | exact trivial | exact id | exact rfl | exact fun _ => rfl | exact Nat.le_of_ble_eq_true rfl | exact fun _ => Nat.le_of_ble_eq_true rfl | exact Int.natCast_nonneg _ | exact fun _ => Int.natCast_nonneg _ | exact within_t _ _ _ | exact (within_t _ _ _).un | exact in_t _ _ _ | exact (in_t _ _ _).un | exact gq_f | exact gq_t | exact gq_c | exact fun _ _ => rfl | exact works_t | exact fun _ => works_t | exact row_t
  case zk =>
  refine Aw.freezeC (id := 1) (id2 := 2) (j := 34) (n := 2) (sz := 2) (cs := [[A.int 3, A.int 0], [A.int 0, A.int 0]].flatten) [[A.int 3, A.int 0], [A.int 0, A.int 0]] rfl rfl (by decide) (Nat.le_of_ble_eq_true rfl) rfl (rows_of (each_len rfl) rfl) rfl ?_
  refine Aw.freezeS (id := 2) (t := 1) (n := 8) (sz := 6) (cs := badR.flatten) badR rfl rfl (rows_of (each_len rfl) rfl) rfl ?_
  have uB : ∀ {m : Nat}, Under m (.sl false .any (badL.map Sea.c)) := (free_map Sea.free _ _ _).under
  refine Aw.keep (n := 0) (cst := []) (v := [(1, .sl false .any (badL.map Sea.c))]) (Hl := []) hE ?zu ?zw ?zx ⟨?zc, ?zv, ?zh, Nat.le_of_ble_eq_true rfl⟩ ?zr
  case zu =>
    (repeat' (first | exact trivial | exact Under.s _ | exact Under.un | assumption | exact (free_ints _ _ _).under | exact Under.ref _ _ (by decide) | exact Under.ms _ _ _ (by decide) | exact Under.mp _ (by decide) | exact (Free.agg _ (by assumption)).under | exact (Free.pt _ (by assumption)).under | exact grL_under _ | exact outA_under _ | exact Nat.le_of_ble_eq_true rfl | exact (fun _ _ => rfl) | exact uB | exact bad_le | (refine And.intro ?_ ?_)))
  case zw =>
    (repeat' (first | exact trivial | exact Under.s _ | exact Under.un | assumption | exact (free_ints _ _ _).under | exact Under.ref _ _ (by decide) | exact Under.ms _ _ _ (by decide) | exact Under.mp _ (by decide) | exact (Free.agg _ (by assumption)).under | exact (Free.pt _ (by assumption)).under | exact grL_under _ | exact outA_under _ | exact Nat.le_of_ble_eq_true rfl | exact (fun _ _ => rfl) | exact uB | exact bad_le | (refine And.intro ?_ ?_)))
  case zx =>
    (repeat' (first | exact trivial | exact Under.s _ | exact Under.un | assumption | exact (free_ints _ _ _).under | exact Under.ref _ _ (by decide) | exact Under.ms _ _ _ (by decide) | exact Under.mp _ (by decide) | exact (Free.agg _ (by assumption)).under | exact (Free.pt _ (by assumption)).under | exact grL_under _ | exact outA_under _ | exact Nat.le_of_ble_eq_true rfl | exact (fun _ _ => rfl) | exact uB | exact bad_le | (refine And.intro ?_ ?_)))
  case zc =>
    (repeat' (first | (refine And.intro ?_ ?_) | exact trivial | exact A.Le.refl _ | exact rfl | exact uB | exact bad_le))
  case zv =>
    (repeat' (first | (refine And.intro ?_ ?_) | exact trivial | exact A.Le.refl _ | exact rfl | exact uB | exact bad_le))
  case zh =>
    (repeat' (first | (refine And.intro ?_ ?_) | exact trivial | exact A.Le.refl _ | exact rfl | exact uB | exact bad_le))
  case zr =>
  refine Aw.seq ?_
  refine Aw.sm tab_ok mb0 [] rfl rfl ?zo ?zk
  case zo =>
    repeat' apply AllP.cons
    all_goals first | exact trivial | exact id | exact rfl | exact fun _ => rfl | exact Nat.le_of_ble_eq_true rfl | exact fun _ => Nat.le_of_ble_eq_true rfl | exact Int.natCast_nonneg _ | exact fun _ => Int.natCast_nonneg _ | exact within_t _ _ _ | exact (within_t _ _ _).un | exact in_t _ _ _ | exact (in_t _ _ _).un | exact gq_f | exact gq_t | exact gq_c | exact fun _ _ => rfl | exact works_t | exact fun _ => works_t | exact row_t
  case zk =>
  refine Aw.block (Aw.rounds 0 hE [(1, .sl false .any (badL.map Sea.c))] (fun i : Nat => [(2, .int i)]) (fun i => []) (fun i => i ≤ 8) (fun i => 8 - i) 0 ?zg ⟨?zc, ?zv, ?zh, Nat.le_of_ble_eq_true rfl⟩ ?zu (fun i zhk => ?zw) (fun i zhk => ?zx) fun i hk => ?zr)
  case zg =>
    (repeat' (first | exact Nat.zero_le _ | exact Nat.le_refl _ | exact trivial | exact uB | exact (by decide) | (refine And.intro ?_ ?_)))
  case zc =>
    (repeat' (first | (refine And.intro ?_ ?_) | exact trivial | exact A.Le.refl _ | exact rfl | exact uB | exact (by decide)))
  case zv =>
    (repeat' (first | (refine And.intro ?_ ?_) | exact trivial | exact A.Le.refl _ | exact rfl | exact uB | exact (by decide)))
  case zh =>
    (repeat' (first | (refine And.intro ?_ ?_) | exact trivial | exact A.Le.refl _ | exact rfl | exact uB | exact (by decide)))
  case zu =>
    (repeat' (first | exact trivial | exact Under.s _ | exact Under.un | assumption | exact (free_ints _ _ _).under | exact Under.ref _ _ (by decide) | exact Under.ms _ _ _ (by decide) | exact Under.mp _ (by decide) | exact (Free.agg _ (by assumption)).under | exact (Free.pt _ (by assumption)).under | exact grL_under _ | exact outA_under _ | exact Nat.le_of_ble_eq_true rfl | exact (fun _ _ => rfl) | exact uB | exact (by decide) | (refine And.intro ?_ ?_)))
  case zw =>
    (repeat' (first | exact trivial | exact Under.s _ | exact Under.un | assumption | exact (free_ints _ _ _).under | exact Under.ref _ _ (by decide) | exact Under.ms _ _ _ (by decide) | exact Under.mp _ (by decide) | exact (Free.agg _ (by assumption)).under | exact (Free.pt _ (by assumption)).under | exact grL_under _ | exact outA_under _ | exact Nat.le_of_ble_eq_true rfl | exact (fun _ _ => rfl) | exact uB | exact (by decide) | (refine And.intro ?_ ?_)))
  case zx =>
    (repeat' (first | exact trivial | exact Under.s _ | exact Under.un | assumption | exact (free_ints _ _ _).under | exact Under.ref _ _ (by decide) | exact Under.ms _ _ _ (by decide) | exact Under.mp _ (by decide) | exact (Free.agg _ (by assumption)).under | exact (Free.pt _ (by assumption)).under | exact grL_under _ | exact outA_under _ | exact Nat.le_of_ble_eq_true rfl | exact (fun _ _ => rfl) | exact uB | exact (by decide) | (refine And.intro ?_ ?_)))
  case zr =>
  have lb : ((badL.map Sea.c).length : Int) = 8 := rfl
  refine Aw.seq ?_
  refine Aw.sm tab_ok mb0 [] rfl rfl ?zo ?zk
  case zo =>
    repeat' apply AllP.cons
    all_goals first | exact trivial | exact id | exact rfl | exact fun _ => rfl | exact Nat.le_of_ble_eq_true rfl | exact fun _ => Nat.le_of_ble_eq_true rfl | exact Int.natCast_nonneg _ | exact fun _ => Int.natCast_nonneg _ | exact within_t _ _ _ | exact (within_t _ _ _).un | exact in_t _ _ _ | exact (in_t _ _ _).un | exact gq_f | exact gq_t | exact gq_c | exact fun _ _ => rfl | exact works_t | exact fun _ => works_t | exact row_t
  case zk =>
  refine Aw.cond rfl (fun h => Aw.skip ?_) (fun h => ?_)
  · have hlt : i < 8 := by have := of_decide_eq_true (show decide ((i : Int) < ((badL.map Sea.c).length : Int)) = true from h); omega
    have hlb : i < badL.length := hlt
    have hr := get_map (f := Sea.c) hlb
    have hm := List.getElem_mem hlb
    have hBI := bad_is (bad_no _ hm) ⟨by have := (bad_fit _ hm).1; omega, by have := (bad_fit _ hm).2; omega⟩
    generalize badL[i] = b at *
    refine Aw.seq (Aw.block ?_)
    refine Aw.sd tab_ok mixed mb0 [(2, b.c), (5, [.tup [.int 0, .bool false, .int 10], .agg [.agg b.c, .sl false .any (z25.map Rep.c), .sl true .exact []]])] rfl (by kernel_rfl) rfl rfl ?zo ?zk
    case zo =>
      repeat' apply AllP.cons
      all_goals first | exact trivial | exact id | exact rfl | exact fun _ => rfl | exact Nat.le_of_ble_eq_true rfl | exact fun _ => Nat.le_of_ble_eq_true rfl | exact Int.natCast_nonneg _ | exact fun _ => Int.natCast_nonneg _ | exact within_t _ _ _ | exact (within_t _ _ _).un | exact in_t _ _ _ | exact (in_t _ _ _).un | exact gq_f | exact gq_t | exact gq_c | exact fun _ _ => rfl | exact works_t | exact fun _ => works_t | exact row_t | exact hr | exact bad_s hBI _ _ rfl | exact (by simp only [Ob.of]; decide)
    case zk =>
    refine Aw.keep (n := 0) (cst := [(1, .sl false .any (badL.map Sea.c)), (2, .int i)]) (v := [(5, .int 10)]) (Hl := []) hE ?zu ?zw ?zx ⟨?zc, ?zv, ?zh, Nat.le_of_ble_eq_true rfl⟩ ?zr
    case zu =>
      (repeat' (first | exact trivial | exact Under.s _ | exact Under.un | assumption | exact (free_ints _ _ _).under | exact Under.ref _ _ (by decide) | exact Under.ms _ _ _ (by decide) | exact Under.mp _ (by decide) | exact (Free.agg _ (by assumption)).under | exact (Free.pt _ (by assumption)).under | exact grL_under _ | exact outA_under _ | exact Nat.le_of_ble_eq_true rfl | exact (fun _ _ => rfl) | exact uB | (refine And.intro ?_ ?_)))
    case zw =>
      (repeat' (first | exact trivial | exact Under.s _ | exact Under.un | assumption | exact (free_ints _ _ _).under | exact Under.ref _ _ (by decide) | exact Under.ms _ _ _ (by decide) | exact Under.mp _ (by decide) | exact (Free.agg _ (by assumption)).under | exact (Free.pt _ (by assumption)).under | exact grL_under _ | exact outA_under _ | exact Nat.le_of_ble_eq_true rfl | exact (fun _ _ => rfl) | exact uB | (refine And.intro ?_ ?_)))
    case zx =>
      (repeat' (first | exact trivial | exact Under.s _ | exact Under.un | assumption | exact (free_ints _ _ _).under | exact Under.ref _ _ (by decide) | exact Under.ms _ _ _ (by decide) | exact Under.mp _ (by decide) | exact (Free.agg _ (by assumption)).under | exact (Free.pt _ (by assumption)).under | exact grL_under _ | exact outA_under _ | exact Nat.le_of_ble_eq_true rfl | exact (fun _ _ => rfl) | exact uB | (refine And.intro ?_ ?_)))
    case zc =>
      (repeat' (first | (refine And.intro ?_ ?_) | exact trivial | exact A.Le.refl _ | exact rfl | exact uB))
    case zv =>
      (repeat' (first | (refine And.intro ?_ ?_) | exact trivial | exact A.Le.refl _ | exact rfl | exact uB))
    case zh =>
      (repeat' (first | (refine And.intro ?_ ?_) | exact trivial | exact A.Le.refl _ | exact rfl | exact uB))
    case zr =>
    refine Aw.sm tab_ok mb0 [(2, b.c), (4, [.tup [.int 0, outW [], .int 10]])] rfl rfl ?zo ?zk
    case zo =>
      repeat' apply AllP.cons
      all_goals first | exact trivial | exact id | exact rfl | exact fun _ => rfl | exact Nat.le_of_ble_eq_true rfl | exact fun _ => Nat.le_of_ble_eq_true rfl | exact Int.natCast_nonneg _ | exact fun _ => Int.natCast_nonneg _ | exact within_t _ _ _ | exact (within_t _ _ _).un | exact in_t _ _ _ | exact (in_t _ _ _).un | exact gq_f | exact gq_t | exact gq_c | exact fun _ _ => rfl | exact works_t | exact fun _ => works_t | exact row_t | exact hr | exact hBI.l
    case zk =>
    refine Aw.sm tab_ok mb0 [(2, b.c), (4, [.tup [outW [], .int 10]])] rfl rfl ?zo ?zk
    case zo =>
      repeat' apply AllP.cons
      all_goals first | exact trivial | exact id | exact rfl | exact fun _ => rfl | exact Nat.le_of_ble_eq_true rfl | exact fun _ => Nat.le_of_ble_eq_true rfl | exact Int.natCast_nonneg _ | exact fun _ => Int.natCast_nonneg _ | exact within_t _ _ _ | exact (within_t _ _ _).un | exact in_t _ _ _ | exact (in_t _ _ _).un | exact gq_f | exact gq_t | exact gq_c | exact fun _ _ => rfl | exact works_t | exact fun _ => works_t | exact row_t | exact hr | exact hBI.c
    case zk =>
    refine Aw.sm tab_ok mb0 [(2, b.c), (4, [.tup [outW [], .int 10]])] rfl rfl ?zo ?zk
    case zo =>
      repeat' apply AllP.cons
      all_goals first | exact trivial | exact id | exact rfl | exact fun _ => rfl | exact Nat.le_of_ble_eq_true rfl | exact fun _ => Nat.le_of_ble_eq_true rfl | exact Int.natCast_nonneg _ | exact fun _ => Int.natCast_nonneg _ | exact within_t _ _ _ | exact (within_t _ _ _).un | exact in_t _ _ _ | exact (in_t _ _ _).un | exact gq_f | exact gq_t | exact gq_c | exact fun _ _ => rfl | exact works_t | exact fun _ => works_t | exact row_t | exact hr | exact hBI.i
    case zk =>
    refine Aw.sm tab_ok mb0 [(2, b.c), (4, [.tup [.int 0, .int 0, .int 10]])] rfl rfl ?zo ?zk
    case zo =>
      repeat' apply AllP.cons
      all_goals first | exact trivial | exact id | exact rfl | exact fun _ => rfl | exact Nat.le_of_ble_eq_true rfl | exact fun _ => Nat.le_of_ble_eq_true rfl | exact Int.natCast_nonneg _ | exact fun _ => Int.natCast_nonneg _ | exact within_t _ _ _ | exact (within_t _ _ _).un | exact in_t _ _ _ | exact (in_t _ _ _).un | exact gq_f | exact gq_t | exact gq_c | exact fun _ _ => rfl | exact works_t | exact fun _ => works_t | exact row_t | exact hr | exact hBI.n
    case zk =>
    refine Aw.sm tab_ok mb0 [(2, b.c), (4, [.tup [outW [], .int 10]])] rfl rfl ?zo ?zk
    case zo =>
      repeat' apply AllP.cons
      all_goals first | exact trivial | exact id | exact rfl | exact fun _ => rfl | exact Nat.le_of_ble_eq_true rfl | exact fun _ => Nat.le_of_ble_eq_true rfl | exact Int.natCast_nonneg _ | exact fun _ => Int.natCast_nonneg _ | exact within_t _ _ _ | exact (within_t _ _ _).un | exact in_t _ _ _ | exact (in_t _ _ _).un | exact gq_f | exact gq_t | exact gq_c | exact fun _ _ => rfl | exact works_t | exact fun _ => works_t | exact row_t | exact hr | exact hBI.s
    case zk =>
    refine Aw.sm tab_ok mb0 [(2, b.c), (4, [.int 10])] rfl rfl ?zo ?zk
    case zo =>
      repeat' apply AllP.cons
      all_goals first | exact trivial | exact id | exact rfl | exact fun _ => rfl | exact Nat.le_of_ble_eq_true rfl | exact fun _ => Nat.le_of_ble_eq_true rfl | exact Int.natCast_nonneg _ | exact fun _ => Int.natCast_nonneg _ | exact within_t _ _ _ | exact (within_t _ _ _).un | exact in_t _ _ _ | exact (in_t _ _ _).un | exact gq_f | exact gq_t | exact gq_c | exact fun _ _ => rfl | exact works_t | exact fun _ => works_t | exact row_t | exact hr | exact hBI.k
    case zk =>
    refine Aw.cond rfl (fun h => by cases h) (fun _ => Aw.skip ?_)
    refine Aw.em tab_ok mb0 [] rfl rfl ?zo ?zk
    case zo =>
      repeat' apply AllP.cons
      all_goals first | exact trivial | exact id | exact rfl | exact fun _ => rfl | exact Nat.le_of_ble_eq_true rfl | exact fun _ => Nat.le_of_ble_eq_true rfl | exact Int.natCast_nonneg _ | exact fun _ => Int.natCast_nonneg _ | exact within_t _ _ _ | exact (within_t _ _ _).un | exact in_t _ _ _ | exact (in_t _ _ _).un | exact gq_f | exact gq_t | exact gq_c | exact fun _ _ => rfl | exact works_t | exact fun _ => works_t | exact row_t | exact (show inR ((i : Int) + 1) by simp only [inR]; omega)
    case zk =>
    refine ⟨i + 1, ?zg, ?zm, ⟨?zc, ?zv, ?zh, Nat.le_of_ble_eq_true rfl⟩⟩
    case zg =>
      (repeat' (first | assumption | omega | (refine And.intro ?_ ?_)))
    case zm =>
      (repeat' (first | omega | (refine And.intro ?_ ?_)))
    case zc =>
      (repeat' (first | (refine And.intro ?_ ?_) | exact trivial | exact A.Le.refl _ | exact rfl))
    case zv =>
      (repeat' (first | (refine And.intro ?_ ?_) | exact trivial | exact A.Le.refl _ | exact rfl))
    case zh =>
      (repeat' (first | (refine And.intro ?_ ?_) | exact trivial | exact A.Le.refl _ | exact rfl))
  refine Aw.exit2 ?_
  refine Aw.keep (n := 0) (cst := []) (v := []) (Hl := []) hE ?zu ?zw ?zx ⟨?zc, ?zv, ?zh, Nat.le_of_ble_eq_true rfl⟩ ?zr
  case zu =>
    (repeat' (first | exact trivial | exact Under.s _ | exact Under.un | assumption | exact (free_ints _ _ _).under | exact Under.ref _ _ (by decide) | exact Under.ms _ _ _ (by decide) | exact Under.mp _ (by decide) | exact (Free.agg _ (by assumption)).under | exact (Free.pt _ (by assumption)).under | exact grL_under _ | exact outA_under _ | exact Nat.le_of_ble_eq_true rfl | exact (fun _ _ => rfl) | (refine And.intro ?_ ?_)))
  case zw =>
    (repeat' (first | exact trivial | exact Under.s _ | exact Under.un | assumption | exact (free_ints _ _ _).under | exact Under.ref _ _ (by decide) | exact Under.ms _ _ _ (by decide) | exact Under.mp _ (by decide) | exact (Free.agg _ (by assumption)).under | exact (Free.pt _ (by assumption)).under | exact grL_under _ | exact outA_under _ | exact Nat.le_of_ble_eq_true rfl | exact (fun _ _ => rfl) | (refine And.intro ?_ ?_)))
  case zx =>
    (repeat' (first | exact trivial | exact Under.s _ | exact Under.un | assumption | exact (free_ints _ _ _).under | exact Under.ref _ _ (by decide) | exact Under.ms _ _ _ (by decide) | exact Under.mp _ (by decide) | exact (Free.agg _ (by assumption)).under | exact (Free.pt _ (by assumption)).under | exact grL_under _ | exact outA_under _ | exact Nat.le_of_ble_eq_true rfl | exact (fun _ _ => rfl) | (refine And.intro ?_ ?_)))
  case zc =>
    (repeat' (first | (refine And.intro ?_ ?_) | exact trivial | exact A.Le.refl _ | exact rfl))
  case zv =>
    (repeat' (first | (refine And.intro ?_ ?_) | exact trivial | exact A.Le.refl _ | exact rfl))
  case zh =>
    (repeat' (first | (refine And.intro ?_ ?_) | exact trivial | exact A.Le.refl _ | exact rfl))
  case zr =>
  refine Aw.sm tab_ok mb0 [(13, [.ms 0 0 0])] rfl rfl ?zo ?zk
  case zo =>
    repeat' apply AllP.cons
    all_goals first | exact trivial | exact id | exact rfl | exact fun _ => rfl | exact Nat.le_of_ble_eq_true rfl | exact fun _ => Nat.le_of_ble_eq_true rfl | exact Int.natCast_nonneg _ | exact fun _ => Int.natCast_nonneg _ | exact within_t _ _ _ | exact (within_t _ _ _).un | exact in_t _ _ _ | exact (in_t _ _ _).un | exact gq_f | exact gq_t | exact gq_c | exact fun _ _ => rfl | exact works_t | exact fun _ => works_t | exact row_t | exact (by simp only [Ob.of]; decide)
  case zk =>
  refine Aw.freezeC (id := 0) (id2 := 1) (j := 6) (n := 25) (sz := 4) (z25.map Rep.c) rfl rfl (by decide) (Nat.le_of_ble_eq_true rfl) rfl (by
    rw [z25_c]
    exact zero_rows (sz := 4) (zr := tab.zr 52) 25 zrep.c rfl (by decide) fun j hj => match j, hj with | 0, _ => rfl | 1, _ => rfl | 2, _ => rfl | 3, _ => rfl) (by rw [z25_c]; simp) ?_
  refine Aw.freezeS (id := 1) (t := 18) (n := 7) (sz := 1) (cs := wrR.flatten) wrR rfl rfl (rows_of (each_len rfl) rfl) rfl ?_
  have uW : ∀ {m : Nat}, Under m (.sl false .any (wrL.map wrC)) := (Free.sl _ _ _ fun e he x hx => by
    obtain ⟨l, _, rfl⟩ := List.mem_map.1 he
    rw [List.mem_singleton.1 hx]; exact free_map Rep.free _ _ _).under
  refine Aw.keep (n := 0) (cst := []) (v := [(18, .sl false .any (wrL.map wrC))]) (Hl := []) hE ?zu ?zw ?zx ⟨?zc, ?zv, ?zh, Nat.le_of_ble_eq_true rfl⟩ ?zr
  case zu =>
    (repeat' (first | exact trivial | exact Under.s _ | exact Under.un | assumption | exact (free_ints _ _ _).under | exact Under.ref _ _ (by decide) | exact Under.ms _ _ _ (by decide) | exact Under.mp _ (by decide) | exact (Free.agg _ (by assumption)).under | exact (Free.pt _ (by assumption)).under | exact grL_under _ | exact outA_under _ | exact Nat.le_of_ble_eq_true rfl | exact (fun _ _ => rfl) | exact uW | exact wr_le | (refine And.intro ?_ ?_)))
  case zw =>
    (repeat' (first | exact trivial | exact Under.s _ | exact Under.un | assumption | exact (free_ints _ _ _).under | exact Under.ref _ _ (by decide) | exact Under.ms _ _ _ (by decide) | exact Under.mp _ (by decide) | exact (Free.agg _ (by assumption)).under | exact (Free.pt _ (by assumption)).under | exact grL_under _ | exact outA_under _ | exact Nat.le_of_ble_eq_true rfl | exact (fun _ _ => rfl) | exact uW | exact wr_le | (refine And.intro ?_ ?_)))
  case zx =>
    (repeat' (first | exact trivial | exact Under.s _ | exact Under.un | assumption | exact (free_ints _ _ _).under | exact Under.ref _ _ (by decide) | exact Under.ms _ _ _ (by decide) | exact Under.mp _ (by decide) | exact (Free.agg _ (by assumption)).under | exact (Free.pt _ (by assumption)).under | exact grL_under _ | exact outA_under _ | exact Nat.le_of_ble_eq_true rfl | exact (fun _ _ => rfl) | exact uW | exact wr_le | (refine And.intro ?_ ?_)))
  case zc =>
    (repeat' (first | (refine And.intro ?_ ?_) | exact trivial | exact A.Le.refl _ | exact rfl | exact uW | exact wr_le))
  case zv =>
    (repeat' (first | (refine And.intro ?_ ?_) | exact trivial | exact A.Le.refl _ | exact rfl | exact uW | exact wr_le))
  case zh =>
    (repeat' (first | (refine And.intro ?_ ?_) | exact trivial | exact A.Le.refl _ | exact rfl | exact uW | exact wr_le))
  case zr =>
  refine Aw.seq ?_
  refine Aw.sm tab_ok mb0 [] rfl rfl ?zo ?zk
  case zo =>
    repeat' apply AllP.cons
    all_goals first | exact trivial | exact id | exact rfl | exact fun _ => rfl | exact Nat.le_of_ble_eq_true rfl | exact fun _ => Nat.le_of_ble_eq_true rfl | exact Int.natCast_nonneg _ | exact fun _ => Int.natCast_nonneg _ | exact within_t _ _ _ | exact (within_t _ _ _).un | exact in_t _ _ _ | exact (in_t _ _ _).un | exact gq_f | exact gq_t | exact gq_c | exact fun _ _ => rfl | exact works_t | exact fun _ => works_t | exact row_t
  case zk =>
  refine Aw.block (Aw.rounds 0 hE [(18, .sl false .any (wrL.map wrC))] (fun i : Nat => [(19, .int i)]) (fun i => []) (fun i => i ≤ 7) (fun i => 7 - i) 0 ?zg ⟨?zc, ?zv, ?zh, Nat.le_of_ble_eq_true rfl⟩ ?zu (fun i zhk => ?zw) (fun i zhk => ?zx) fun i hk => ?zr)
  case zg =>
    (repeat' (first | exact Nat.zero_le _ | exact Nat.le_refl _ | exact trivial | exact uW | exact (by decide) | (refine And.intro ?_ ?_)))
  case zc =>
    (repeat' (first | (refine And.intro ?_ ?_) | exact trivial | exact A.Le.refl _ | exact rfl | exact uW | exact (by decide)))
  case zv =>
    (repeat' (first | (refine And.intro ?_ ?_) | exact trivial | exact A.Le.refl _ | exact rfl | exact uW | exact (by decide)))
  case zh =>
    (repeat' (first | (refine And.intro ?_ ?_) | exact trivial | exact A.Le.refl _ | exact rfl | exact uW | exact (by decide)))
  case zu =>
    (repeat' (first | exact trivial | exact Under.s _ | exact Under.un | assumption | exact (free_ints _ _ _).under | exact Under.ref _ _ (by decide) | exact Under.ms _ _ _ (by decide) | exact Under.mp _ (by decide) | exact (Free.agg _ (by assumption)).under | exact (Free.pt _ (by assumption)).under | exact grL_under _ | exact outA_under _ | exact Nat.le_of_ble_eq_true rfl | exact (fun _ _ => rfl) | exact uW | exact (by decide) | (refine And.intro ?_ ?_)))
  case zw =>
    (repeat' (first | exact trivial | exact Under.s _ | exact Under.un | assumption | exact (free_ints _ _ _).under | exact Under.ref _ _ (by decide) | exact Under.ms _ _ _ (by decide) | exact Under.mp _ (by decide) | exact (Free.agg _ (by assumption)).under | exact (Free.pt _ (by assumption)).under | exact grL_under _ | exact outA_under _ | exact Nat.le_of_ble_eq_true rfl | exact (fun _ _ => rfl) | exact uW | exact (by decide) | (refine And.intro ?_ ?_)))
  case zx =>
    (repeat' (first | exact trivial | exact Under.s _ | exact Under.un | assumption | exact (free_ints _ _ _).under | exact Under.ref _ _ (by decide) | exact Under.ms _ _ _ (by decide) | exact Under.mp _ (by decide) | exact (Free.agg _ (by assumption)).under | exact (Free.pt _ (by assumption)).under | exact grL_under _ | exact outA_under _ | exact Nat.le_of_ble_eq_true rfl | exact (fun _ _ => rfl) | exact uW | exact (by decide) | (refine And.intro ?_ ?_)))
  case zr =>
  have lw : ((wrL.map wrC).length : Int) = 7 := rfl
  refine Aw.seq ?_
  refine Aw.sm tab_ok mb0 [] rfl rfl ?zo ?zk
  case zo =>
    repeat' apply AllP.cons
    all_goals first | exact trivial | exact id | exact rfl | exact fun _ => rfl | exact Nat.le_of_ble_eq_true rfl | exact fun _ => Nat.le_of_ble_eq_true rfl | exact Int.natCast_nonneg _ | exact fun _ => Int.natCast_nonneg _ | exact within_t _ _ _ | exact (within_t _ _ _).un | exact in_t _ _ _ | exact (in_t _ _ _).un | exact gq_f | exact gq_t | exact gq_c | exact fun _ _ => rfl | exact works_t | exact fun _ => works_t | exact row_t
  case zk =>
  refine Aw.cond rfl (fun h => Aw.skip ?_) (fun h => ?_)
  · have hlt : i < 7 := by have := of_decide_eq_true (show decide ((i : Int) < ((wrL.map wrC).length : Int)) = true from h); omega
    have hlb : i < wrL.length := hlt
    have hr := get_map (f := wrC) hlb
    have hm := List.getElem_mem hlb
    have hWI := wr_is (wr_no _ hm) (wr_len _ hm)
    generalize wrL[i] = l at *
    refine Aw.seq (Aw.block ?_)
    refine Aw.sd tab_ok mixed mb0 [(0, [.agg rowS.c]), (3, [.sl false .any (l.map Rep.c)]), (5, [.tup [.int 0, .bool false, .int 11]])] rfl (by kernel_rfl) rfl rfl ?zo ?zk
    case zo =>
      repeat' apply AllP.cons
      all_goals first | exact trivial | exact id | exact rfl | exact fun _ => rfl | exact Nat.le_of_ble_eq_true rfl | exact fun _ => Nat.le_of_ble_eq_true rfl | exact Int.natCast_nonneg _ | exact fun _ => Int.natCast_nonneg _ | exact within_t _ _ _ | exact (within_t _ _ _).un | exact in_t _ _ _ | exact (in_t _ _ _).un | exact gq_f | exact gq_t | exact gq_c | exact fun _ _ => rfl | exact works_t | exact fun _ => works_t | exact row_t | exact hr | exact hWI.t
    case zk =>
    refine Aw.sd tab_ok mixed mb0 [(0, [.agg rowS.c]), (3, [.sl false .any (l.map Rep.c)]), (5, [.tup [.int 0, outW [], .int 11]])] rfl (by kernel_rfl) rfl rfl ?zo ?zk
    case zo =>
      repeat' apply AllP.cons
      all_goals first | exact trivial | exact id | exact rfl | exact fun _ => rfl | exact Nat.le_of_ble_eq_true rfl | exact fun _ => Nat.le_of_ble_eq_true rfl | exact Int.natCast_nonneg _ | exact fun _ => Int.natCast_nonneg _ | exact within_t _ _ _ | exact (within_t _ _ _).un | exact in_t _ _ _ | exact (in_t _ _ _).un | exact gq_f | exact gq_t | exact gq_c | exact fun _ _ => rfl | exact works_t | exact fun _ => works_t | exact row_t | exact hr | exact hWI.le
    case zk =>
    refine Aw.sd tab_ok mixed mb0 [(0, [.agg rowS.c]), (3, [.sl false .any (l.map Rep.c)]), (5, [.tup [outW [], .int 11]])] rfl (by kernel_rfl) rfl rfl ?zo ?zk
    case zo =>
      repeat' apply AllP.cons
      all_goals first | exact trivial | exact id | exact rfl | exact fun _ => rfl | exact Nat.le_of_ble_eq_true rfl | exact fun _ => Nat.le_of_ble_eq_true rfl | exact Int.natCast_nonneg _ | exact fun _ => Int.natCast_nonneg _ | exact within_t _ _ _ | exact (within_t _ _ _).un | exact in_t _ _ _ | exact (in_t _ _ _).un | exact gq_f | exact gq_t | exact gq_c | exact fun _ _ => rfl | exact works_t | exact fun _ => works_t | exact row_t | exact hr | exact hWI.c
    case zk =>
    refine Aw.sd tab_ok mixed mb0 [(0, [.agg rowS.c]), (3, [.sl false .any (l.map Rep.c)]), (5, [.tup [outW [], .int 11]])] rfl (by kernel_rfl) rfl rfl ?zo ?zk
    case zo =>
      repeat' apply AllP.cons
      all_goals first | exact trivial | exact id | exact rfl | exact fun _ => rfl | exact Nat.le_of_ble_eq_true rfl | exact fun _ => Nat.le_of_ble_eq_true rfl | exact Int.natCast_nonneg _ | exact fun _ => Int.natCast_nonneg _ | exact within_t _ _ _ | exact (within_t _ _ _).un | exact in_t _ _ _ | exact (in_t _ _ _).un | exact gq_f | exact gq_t | exact gq_c | exact fun _ _ => rfl | exact works_t | exact fun _ => works_t | exact row_t | exact hr | exact hWI.i
    case zk =>
    refine Aw.sd tab_ok mixed mb0 [(0, [.agg rowS.c]), (3, [.sl false .any (l.map Rep.c)]), (5, [.tup [.int 0, .int 0, .int 11]])] rfl (by kernel_rfl) rfl rfl ?zo ?zk
    case zo =>
      repeat' apply AllP.cons
      all_goals first | exact trivial | exact id | exact rfl | exact fun _ => rfl | exact Nat.le_of_ble_eq_true rfl | exact fun _ => Nat.le_of_ble_eq_true rfl | exact Int.natCast_nonneg _ | exact fun _ => Int.natCast_nonneg _ | exact within_t _ _ _ | exact (within_t _ _ _).un | exact in_t _ _ _ | exact (in_t _ _ _).un | exact gq_f | exact gq_t | exact gq_c | exact fun _ _ => rfl | exact works_t | exact fun _ => works_t | exact row_t | exact hr | exact hWI.n
    case zk =>
    refine Aw.sm tab_ok mb0 [] rfl rfl ?zo ?zk
    case zo =>
      repeat' apply AllP.cons
      all_goals first | exact trivial | exact id | exact rfl | exact fun _ => rfl | exact Nat.le_of_ble_eq_true rfl | exact fun _ => Nat.le_of_ble_eq_true rfl | exact Int.natCast_nonneg _ | exact fun _ => Int.natCast_nonneg _ | exact within_t _ _ _ | exact (within_t _ _ _).un | exact in_t _ _ _ | exact (in_t _ _ _).un | exact gq_f | exact gq_t | exact gq_c | exact fun _ _ => rfl | exact works_t | exact fun _ => works_t | exact row_t
    case zk =>
    refine Aw.cond rfl (fun h => by cases h) (fun _ => Aw.skip ?_)
    refine Aw.em tab_ok mb0 [] rfl rfl ?zo ?zk
    case zo =>
      repeat' apply AllP.cons
      all_goals first | exact trivial | exact id | exact rfl | exact fun _ => rfl | exact Nat.le_of_ble_eq_true rfl | exact fun _ => Nat.le_of_ble_eq_true rfl | exact Int.natCast_nonneg _ | exact fun _ => Int.natCast_nonneg _ | exact within_t _ _ _ | exact (within_t _ _ _).un | exact in_t _ _ _ | exact (in_t _ _ _).un | exact gq_f | exact gq_t | exact gq_c | exact fun _ _ => rfl | exact works_t | exact fun _ => works_t | exact row_t | exact (show inR ((i : Int) + 1) by simp only [inR]; omega)
    case zk =>
    refine ⟨i + 1, ?zg, ?zm, ⟨?zc, ?zv, ?zh, Nat.le_of_ble_eq_true rfl⟩⟩
    case zg =>
      (repeat' (first | assumption | omega | (refine And.intro ?_ ?_)))
    case zm =>
      (repeat' (first | omega | (refine And.intro ?_ ?_)))
    case zc =>
      (repeat' (first | (refine And.intro ?_ ?_) | exact trivial | exact A.Le.refl _ | exact rfl))
    case zv =>
      (repeat' (first | (refine And.intro ?_ ?_) | exact trivial | exact A.Le.refl _ | exact rfl))
    case zh =>
      (repeat' (first | (refine And.intro ?_ ?_) | exact trivial | exact A.Le.refl _ | exact rfl))
  refine Aw.exit2 ?_
  refine Aw.keep (n := 0) (cst := []) (v := []) (Hl := []) hE ?zu ?zw ?zx ⟨?zc, ?zv, ?zh, Nat.le_of_ble_eq_true rfl⟩ ?zr
  case zu =>
    (repeat' (first | exact trivial | exact Under.s _ | exact Under.un | assumption | exact (free_ints _ _ _).under | exact Under.ref _ _ (by decide) | exact Under.ms _ _ _ (by decide) | exact Under.mp _ (by decide) | exact (Free.agg _ (by assumption)).under | exact (Free.pt _ (by assumption)).under | exact grL_under _ | exact outA_under _ | exact Nat.le_of_ble_eq_true rfl | exact (fun _ _ => rfl) | (refine And.intro ?_ ?_)))
  case zw =>
    (repeat' (first | exact trivial | exact Under.s _ | exact Under.un | assumption | exact (free_ints _ _ _).under | exact Under.ref _ _ (by decide) | exact Under.ms _ _ _ (by decide) | exact Under.mp _ (by decide) | exact (Free.agg _ (by assumption)).under | exact (Free.pt _ (by assumption)).under | exact grL_under _ | exact outA_under _ | exact Nat.le_of_ble_eq_true rfl | exact (fun _ _ => rfl) | (refine And.intro ?_ ?_)))
  case zx =>
    (repeat' (first | exact trivial | exact Under.s _ | exact Under.un | assumption | exact (free_ints _ _ _).under | exact Under.ref _ _ (by decide) | exact Under.ms _ _ _ (by decide) | exact Under.mp _ (by decide) | exact (Free.agg _ (by assumption)).under | exact (Free.pt _ (by assumption)).under | exact grL_under _ | exact outA_under _ | exact Nat.le_of_ble_eq_true rfl | exact (fun _ _ => rfl) | (refine And.intro ?_ ?_)))
  case zc =>
    (repeat' (first | (refine And.intro ?_ ?_) | exact trivial | exact A.Le.refl _ | exact rfl))
  case zv =>
    (repeat' (first | (refine And.intro ?_ ?_) | exact trivial | exact A.Le.refl _ | exact rfl))
  case zh =>
    (repeat' (first | (refine And.intro ?_ ?_) | exact trivial | exact A.Le.refl _ | exact rfl))
  case zr =>
  refine Aw.sm tab_ok mb0 [(0, [.agg rowS.c])] rfl rfl ?zo ?zk
  case zo =>
    repeat' apply AllP.cons
    all_goals first | exact trivial | exact id | exact rfl | exact fun _ => rfl | exact Nat.le_of_ble_eq_true rfl | exact fun _ => Nat.le_of_ble_eq_true rfl | exact Int.natCast_nonneg _ | exact fun _ => Int.natCast_nonneg _ | exact within_t _ _ _ | exact (within_t _ _ _).un | exact in_t _ _ _ | exact (in_t _ _ _).un | exact gq_f | exact gq_t | exact gq_c | exact fun _ _ => rfl | exact works_t | exact fun _ => works_t | exact row_t
  case zk =>
  refine Aw.sm tab_ok mb0 [] rfl rfl ?zo ?zk
  case zo =>
    repeat' apply AllP.cons
    all_goals first | exact trivial | exact id | exact rfl | exact fun _ => rfl | exact Nat.le_of_ble_eq_true rfl | exact fun _ => Nat.le_of_ble_eq_true rfl | exact Int.natCast_nonneg _ | exact fun _ => Int.natCast_nonneg _ | exact within_t _ _ _ | exact (within_t _ _ _).un | exact in_t _ _ _ | exact (in_t _ _ _).un | exact gq_f | exact gq_t | exact gq_c | exact fun _ _ => rfl | exact works_t | exact fun _ => works_t | exact row_t
  case zk =>
  have uL : ∀ {m : Nat}, UnderB m (.cells landA) := .cells _ (allC (.s _) (allC (.s _) (allC (.sl _ _ _ fun e he x hx => by obtain ⟨i, _, rfl⟩ := List.mem_map.1 he; rw [List.mem_singleton.1 hx]; exact .s _) (allC (.s _) (allC (free_map Sp.free _ _ _).under (all1 (.s _)))))))
  refine Aw.keep (n := 1) (cst := [(33, .ref 0 0)]) (v := []) (Hl := [(0, .cells landA)]) h1E ?zu ?zw ?zx ⟨?zc, ?zv, ?zh, Nat.le_of_ble_eq_true rfl⟩ ?zr
  case zu =>
    (repeat' (first | exact trivial | exact Under.s _ | exact Under.un | assumption | exact (free_ints _ _ _).under | exact Under.ref _ _ (by decide) | exact Under.ms _ _ _ (by decide) | exact Under.mp _ (by decide) | exact (Free.agg _ (by assumption)).under | exact (Free.pt _ (by assumption)).under | exact grL_under _ | exact outA_under _ | exact Nat.le_of_ble_eq_true rfl | exact (fun _ _ => rfl) | exact uL | (refine And.intro ?_ ?_)))
  case zw =>
    (repeat' (first | exact trivial | exact Under.s _ | exact Under.un | assumption | exact (free_ints _ _ _).under | exact Under.ref _ _ (by decide) | exact Under.ms _ _ _ (by decide) | exact Under.mp _ (by decide) | exact (Free.agg _ (by assumption)).under | exact (Free.pt _ (by assumption)).under | exact grL_under _ | exact outA_under _ | exact Nat.le_of_ble_eq_true rfl | exact (fun _ _ => rfl) | exact uL | (refine And.intro ?_ ?_)))
  case zx =>
    (repeat' (first | exact trivial | exact Under.s _ | exact Under.un | assumption | exact (free_ints _ _ _).under | exact Under.ref _ _ (by decide) | exact Under.ms _ _ _ (by decide) | exact Under.mp _ (by decide) | exact (Free.agg _ (by assumption)).under | exact (Free.pt _ (by assumption)).under | exact grL_under _ | exact outA_under _ | exact Nat.le_of_ble_eq_true rfl | exact (fun _ _ => rfl) | exact uL | (refine And.intro ?_ ?_)))
  case zc =>
    (repeat' (first | (refine And.intro ?_ ?_) | exact trivial | exact A.Le.refl _ | exact rfl | exact uL))
  case zv =>
    (repeat' (first | (refine And.intro ?_ ?_) | exact trivial | exact A.Le.refl _ | exact rfl | exact uL))
  case zh =>
    (repeat' (first | (refine And.intro ?_ ?_) | exact trivial | exact A.Le.refl _ | exact rfl | exact uL))
  case zr =>
  refine Aw.sm tab_ok mb0 [(0, [.agg rowS.c]), (1, [(exS 3).rA]), (2, [.tup [outW [], .int 7]])] rfl rfl ?zo ?zk
  case zo =>
    repeat' apply AllP.cons
    all_goals first | exact trivial | exact id | exact rfl | exact fun _ => rfl | exact Nat.le_of_ble_eq_true rfl | exact fun _ => Nat.le_of_ble_eq_true rfl | exact Int.natCast_nonneg _ | exact fun _ => Int.natCast_nonneg _ | exact within_t _ _ _ | exact (within_t _ _ _).un | exact in_t _ _ _ | exact (in_t _ _ _).un | exact gq_f | exact gq_t | exact gq_c | exact fun _ _ => rfl | exact works_t | exact fun _ => works_t | exact row_t | exact rep_t 3 (by decide) | exact ka
  case zk =>
  refine Aw.sm tab_ok mb0 [(0, [.agg rowS.c]), (1, [(exS 3).rA]), (2, [.tup [outW [], .int 7]])] rfl rfl ?zo ?zk
  case zo =>
    repeat' apply AllP.cons
    all_goals first | exact trivial | exact id | exact rfl | exact fun _ => rfl | exact Nat.le_of_ble_eq_true rfl | exact fun _ => Nat.le_of_ble_eq_true rfl | exact Int.natCast_nonneg _ | exact fun _ => Int.natCast_nonneg _ | exact within_t _ _ _ | exact (within_t _ _ _).un | exact in_t _ _ _ | exact (in_t _ _ _).un | exact gq_f | exact gq_t | exact gq_c | exact fun _ _ => rfl | exact works_t | exact fun _ => works_t | exact row_t | exact rep_t 3 (by decide) | exact kb
  case zk =>
  refine Aw.sm tab_ok mb0 [(0, [.agg rowS.c]), (1, [(exS 3).rA]), (2, [.tup [outW [], .int 12]])] rfl rfl ?zo ?zk
  case zo =>
    repeat' apply AllP.cons
    all_goals first | exact trivial | exact id | exact rfl | exact fun _ => rfl | exact Nat.le_of_ble_eq_true rfl | exact fun _ => Nat.le_of_ble_eq_true rfl | exact Int.natCast_nonneg _ | exact fun _ => Int.natCast_nonneg _ | exact within_t _ _ _ | exact (within_t _ _ _).un | exact in_t _ _ _ | exact (in_t _ _ _).un | exact gq_f | exact gq_t | exact gq_c | exact fun _ _ => rfl | exact works_t | exact fun _ => works_t | exact row_t | exact rep_t 3 (by decide) | exact kc
  case zk =>
  refine Aw.sm tab_ok mb0 [(0, [.agg rowS.c]), (1, [(exS 3).rA]), (2, [.tup [.int 0, .int 0, .int 7]])] rfl rfl ?zo ?zk
  case zo =>
    repeat' apply AllP.cons
    all_goals first | exact trivial | exact id | exact rfl | exact fun _ => rfl | exact Nat.le_of_ble_eq_true rfl | exact fun _ => Nat.le_of_ble_eq_true rfl | exact Int.natCast_nonneg _ | exact fun _ => Int.natCast_nonneg _ | exact within_t _ _ _ | exact (within_t _ _ _).un | exact in_t _ _ _ | exact (in_t _ _ _).un | exact gq_f | exact gq_t | exact gq_c | exact fun _ _ => rfl | exact works_t | exact fun _ => works_t | exact row_t | exact rep_t 3 (by decide) | exact kd
  case zk =>
  refine Aw.sm tab_ok mb0 [(0, [.agg rowS.c]), (1, [(exS 3).rA]), (2, [.tup [.int 0, .int 0, .int 13]])] rfl rfl ?zo ?zk
  case zo =>
    repeat' apply AllP.cons
    all_goals first | exact trivial | exact id | exact rfl | exact fun _ => rfl | exact Nat.le_of_ble_eq_true rfl | exact fun _ => Nat.le_of_ble_eq_true rfl | exact Int.natCast_nonneg _ | exact fun _ => Int.natCast_nonneg _ | exact within_t _ _ _ | exact (within_t _ _ _).un | exact in_t _ _ _ | exact (in_t _ _ _).un | exact gq_f | exact gq_t | exact gq_c | exact fun _ _ => rfl | exact works_t | exact fun _ => works_t | exact row_t | exact rep_t 3 (by decide) | exact ke
  case zk =>
  refine Aw.sm tab_ok mb0 [(0, [.agg rowS.c]), (1, [(exS 3).rA]), (4, [.tup [.int 0, .int 0, .int 12]])] rfl rfl ?zo ?zk
  case zo =>
    repeat' apply AllP.cons
    all_goals first | exact trivial | exact id | exact rfl | exact fun _ => rfl | exact Nat.le_of_ble_eq_true rfl | exact fun _ => Nat.le_of_ble_eq_true rfl | exact Int.natCast_nonneg _ | exact fun _ => Int.natCast_nonneg _ | exact within_t _ _ _ | exact (within_t _ _ _).un | exact in_t _ _ _ | exact (in_t _ _ _).un | exact gq_f | exact gq_t | exact gq_c | exact fun _ _ => rfl | exact works_t | exact fun _ => works_t | exact row_t | exact rep_t 3 (by decide) | exact kf
  case zk =>
  refine Aw.sm tab_ok mb0 [(0, [.agg rowS.c]), (1, [(exS 3).rA]), (4, [.tup [outW [], .int 13]])] rfl rfl ?zo ?zk
  case zo =>
    repeat' apply AllP.cons
    all_goals first | exact trivial | exact id | exact rfl | exact fun _ => rfl | exact Nat.le_of_ble_eq_true rfl | exact fun _ => Nat.le_of_ble_eq_true rfl | exact Int.natCast_nonneg _ | exact fun _ => Int.natCast_nonneg _ | exact within_t _ _ _ | exact (within_t _ _ _).un | exact in_t _ _ _ | exact (in_t _ _ _).un | exact gq_f | exact gq_t | exact gq_c | exact fun _ _ => rfl | exact works_t | exact fun _ => works_t | exact row_t | exact rep_t 3 (by decide) | exact kg
  case zk =>
  refine Aw.sm tab_ok mb0 [(0, [.agg rowS.c]), (1, [(exS 3).rA]), (4, [.tup [outW [], .int 4]])] rfl rfl ?zo ?zk
  case zo =>
    repeat' apply AllP.cons
    all_goals first | exact trivial | exact id | exact rfl | exact fun _ => rfl | exact Nat.le_of_ble_eq_true rfl | exact fun _ => Nat.le_of_ble_eq_true rfl | exact Int.natCast_nonneg _ | exact fun _ => Int.natCast_nonneg _ | exact within_t _ _ _ | exact (within_t _ _ _).un | exact in_t _ _ _ | exact (in_t _ _ _).un | exact gq_f | exact gq_t | exact gq_c | exact fun _ _ => rfl | exact works_t | exact fun _ => works_t | exact row_t | exact rep_t 3 (by decide) | exact kh
  case zk =>
  refine Aw.sm tab_ok mb0 [(1, [.tup [.int 0, outW [], .int 4]])] rfl rfl ?zo ?zk
  case zo =>
    repeat' apply AllP.cons
    all_goals first | exact trivial | exact id | exact rfl | exact fun _ => rfl | exact Nat.le_of_ble_eq_true rfl | exact fun _ => Nat.le_of_ble_eq_true rfl | exact Int.natCast_nonneg _ | exact fun _ => Int.natCast_nonneg _ | exact within_t _ _ _ | exact (within_t _ _ _).un | exact in_t _ _ _ | exact (in_t _ _ _).un | exact gq_f | exact gq_t | exact gq_c | exact fun _ _ => rfl | exact works_t | exact fun _ => works_t | exact row_t | exact ki
  case zk =>
  refine Aw.sm tab_ok mb0 [(1, [.tup [outW [], .int 4]])] rfl rfl ?zo ?zk
  case zo =>
    repeat' apply AllP.cons
    all_goals first | exact trivial | exact id | exact rfl | exact fun _ => rfl | exact Nat.le_of_ble_eq_true rfl | exact fun _ => Nat.le_of_ble_eq_true rfl | exact Int.natCast_nonneg _ | exact fun _ => Int.natCast_nonneg _ | exact within_t _ _ _ | exact (within_t _ _ _).un | exact in_t _ _ _ | exact (in_t _ _ _).un | exact gq_f | exact gq_t | exact gq_c | exact fun _ _ => rfl | exact works_t | exact fun _ => works_t | exact row_t | exact kj
  case zk =>
  refine Aw.sm tab_ok mb0 [(1, [.tup [outW [], .int 12]])] rfl rfl ?zo ?zk
  case zo =>
    repeat' apply AllP.cons
    all_goals first | exact trivial | exact id | exact rfl | exact fun _ => rfl | exact Nat.le_of_ble_eq_true rfl | exact fun _ => Nat.le_of_ble_eq_true rfl | exact Int.natCast_nonneg _ | exact fun _ => Int.natCast_nonneg _ | exact within_t _ _ _ | exact (within_t _ _ _).un | exact in_t _ _ _ | exact (in_t _ _ _).un | exact gq_f | exact gq_t | exact gq_c | exact fun _ _ => rfl | exact works_t | exact fun _ => works_t | exact row_t | exact kk
  case zk =>
  refine Aw.sd tab_ok mixed mb0 [(0, [.agg rowS.c]), (2, [.tup [.int 0, .int 0, .int 13], .agg [.agg rowS.c, .sl true .exact [], .int 0, .int 0, .sl false .any (z9.map Sp.c)]])] rfl (by kernel_rfl) rfl rfl ?zo ?zk
  case zo =>
    repeat' apply AllP.cons
    all_goals first | exact trivial | exact id | exact rfl | exact fun _ => rfl | exact Nat.le_of_ble_eq_true rfl | exact fun _ => Nat.le_of_ble_eq_true rfl | exact Int.natCast_nonneg _ | exact fun _ => Int.natCast_nonneg _ | exact within_t _ _ _ | exact (within_t _ _ _).un | exact in_t _ _ _ | exact (in_t _ _ _).un | exact gq_f | exact gq_t | exact gq_c | exact fun _ _ => rfl | exact works_t | exact fun _ => works_t | exact row_t | exact km_s _ _ rfl | exact (by simp only [Ob.of]; decide)
  case zk =>
  refine Aw.seq ?_
  refine Aw.sm tab_ok mb0 [] rfl rfl ?zo ?zk
  case zo =>
    repeat' apply AllP.cons
    all_goals first | exact trivial | exact id | exact rfl | exact fun _ => rfl | exact Nat.le_of_ble_eq_true rfl | exact fun _ => Nat.le_of_ble_eq_true rfl | exact Int.natCast_nonneg _ | exact fun _ => Int.natCast_nonneg _ | exact within_t _ _ _ | exact (within_t _ _ _).un | exact in_t _ _ _ | exact (in_t _ _ _).un | exact gq_f | exact gq_t | exact gq_c | exact fun _ _ => rfl | exact works_t | exact fun _ => works_t | exact row_t
  case zk =>
  refine Aw.cond rfl (fun h => by cases h) (fun _ => Aw.skip ?_)
  refine Aw.keep (n := 0) (cst := []) (v := []) (Hl := []) hE ?zu ?zw ?zx ⟨?zc, ?zv, ?zh, Nat.le_of_ble_eq_true rfl⟩ ?zr
  case zu =>
    (repeat' (first | exact trivial | exact Under.s _ | exact Under.un | assumption | exact (free_ints _ _ _).under | exact Under.ref _ _ (by decide) | exact Under.ms _ _ _ (by decide) | exact Under.mp _ (by decide) | exact (Free.agg _ (by assumption)).under | exact (Free.pt _ (by assumption)).under | exact grL_under _ | exact outA_under _ | exact Nat.le_of_ble_eq_true rfl | exact (fun _ _ => rfl) | (refine And.intro ?_ ?_)))
  case zw =>
    (repeat' (first | exact trivial | exact Under.s _ | exact Under.un | assumption | exact (free_ints _ _ _).under | exact Under.ref _ _ (by decide) | exact Under.ms _ _ _ (by decide) | exact Under.mp _ (by decide) | exact (Free.agg _ (by assumption)).under | exact (Free.pt _ (by assumption)).under | exact grL_under _ | exact outA_under _ | exact Nat.le_of_ble_eq_true rfl | exact (fun _ _ => rfl) | (refine And.intro ?_ ?_)))
  case zx =>
    (repeat' (first | exact trivial | exact Under.s _ | exact Under.un | assumption | exact (free_ints _ _ _).under | exact Under.ref _ _ (by decide) | exact Under.ms _ _ _ (by decide) | exact Under.mp _ (by decide) | exact (Free.agg _ (by assumption)).under | exact (Free.pt _ (by assumption)).under | exact grL_under _ | exact outA_under _ | exact Nat.le_of_ble_eq_true rfl | exact (fun _ _ => rfl) | (refine And.intro ?_ ?_)))
  case zc =>
    (repeat' (first | (refine And.intro ?_ ?_) | exact trivial | exact A.Le.refl _ | exact rfl))
  case zv =>
    (repeat' (first | (refine And.intro ?_ ?_) | exact trivial | exact A.Le.refl _ | exact rfl))
  case zh =>
    (repeat' (first | (refine And.intro ?_ ?_) | exact trivial | exact A.Le.refl _ | exact rfl))
  case zr =>
  refine Aw.sm tab_ok mb0 [(0, [.agg rowS.c]), (1, [(exS 2).rA]), (3, [.tup [.int 0, .bool false, .int 0]])] rfl rfl ?zo ?zk
  case zo =>
    repeat' apply AllP.cons
    all_goals first | exact trivial | exact id | exact rfl | exact fun _ => rfl | exact Nat.le_of_ble_eq_true rfl | exact fun _ => Nat.le_of_ble_eq_true rfl | exact Int.natCast_nonneg _ | exact fun _ => Int.natCast_nonneg _ | exact within_t _ _ _ | exact (within_t _ _ _).un | exact in_t _ _ _ | exact (in_t _ _ _).un | exact gq_f | exact gq_t | exact gq_c | exact fun _ _ => rfl | exact works_t | exact fun _ => works_t | exact row_t | exact rep_t 2 (by decide) | exact kn
  case zk =>
  refine Aw.sm tab_ok mb0 [(0, [.agg rowS.c]), (1, [(exS 2).rA]), (3, [.tup [.int 2, .bool true, .int 0]])] rfl rfl ?zo ?zk
  case zo =>
    repeat' apply AllP.cons
    all_goals first | exact trivial | exact id | exact rfl | exact fun _ => rfl | exact Nat.le_of_ble_eq_true rfl | exact fun _ => Nat.le_of_ble_eq_true rfl | exact Int.natCast_nonneg _ | exact fun _ => Int.natCast_nonneg _ | exact within_t _ _ _ | exact (within_t _ _ _).un | exact in_t _ _ _ | exact (in_t _ _ _).un | exact gq_f | exact gq_t | exact gq_c | exact fun _ _ => rfl | exact works_t | exact fun _ => works_t | exact row_t | exact rep_t 2 (by decide) | exact ko
  case zk =>
  refine Aw.sm tab_ok mb0 [(0, [.agg rowS.c]), (2, [.tup [.int 0, .bool false, .int 0]])] rfl rfl ?zo ?zk
  case zo =>
    repeat' apply AllP.cons
    all_goals first | exact trivial | exact id | exact rfl | exact fun _ => rfl | exact Nat.le_of_ble_eq_true rfl | exact fun _ => Nat.le_of_ble_eq_true rfl | exact Int.natCast_nonneg _ | exact fun _ => Int.natCast_nonneg _ | exact within_t _ _ _ | exact (within_t _ _ _).un | exact in_t _ _ _ | exact (in_t _ _ _).un | exact gq_f | exact gq_t | exact gq_c | exact fun _ _ => rfl | exact works_t | exact fun _ => works_t | exact row_t | exact kp
  case zk =>
  refine Aw.sm tab_ok mb0 [(0, [.agg rowS.c]), (1, [(exS 2).rA]), (2, [.tup [outW [2], .int 0]])] rfl rfl ?zo ?zk
  case zo =>
    repeat' apply AllP.cons
    all_goals first | exact trivial | exact id | exact rfl | exact fun _ => rfl | exact Nat.le_of_ble_eq_true rfl | exact fun _ => Nat.le_of_ble_eq_true rfl | exact Int.natCast_nonneg _ | exact fun _ => Int.natCast_nonneg _ | exact within_t _ _ _ | exact (within_t _ _ _).un | exact in_t _ _ _ | exact (in_t _ _ _).un | exact gq_f | exact gq_t | exact gq_c | exact fun _ _ => rfl | exact works_t | exact fun _ => works_t | exact row_t | exact rep_t 2 (by decide) | exact kq
  case zk =>
  refine Aw.sm tab_ok mb0 [(0, [.agg rowS.c]), (1, [(exS 3).rA]), (2, [.tup [outW [0, 1, 2, 3], .int 0]])] rfl rfl ?zo ?zk
  case zo =>
    repeat' apply AllP.cons
    all_goals first | exact trivial | exact id | exact rfl | exact fun _ => rfl | exact Nat.le_of_ble_eq_true rfl | exact fun _ => Nat.le_of_ble_eq_true rfl | exact Int.natCast_nonneg _ | exact fun _ => Int.natCast_nonneg _ | exact within_t _ _ _ | exact (within_t _ _ _).un | exact in_t _ _ _ | exact (in_t _ _ _).un | exact gq_f | exact gq_t | exact gq_c | exact fun _ _ => rfl | exact works_t | exact fun _ => works_t | exact row_t | exact rep_t 3 (by decide) | exact kr
  case zk =>
  refine Aw.sm tab_ok mb0 [(0, [.agg rowS.c]), (1, [(exS 3).rA]), (2, [.tup [outW [], .int 0]])] rfl rfl ?zo ?zk
  case zo =>
    repeat' apply AllP.cons
    all_goals first | exact trivial | exact id | exact rfl | exact fun _ => rfl | exact Nat.le_of_ble_eq_true rfl | exact fun _ => Nat.le_of_ble_eq_true rfl | exact Int.natCast_nonneg _ | exact fun _ => Int.natCast_nonneg _ | exact within_t _ _ _ | exact (within_t _ _ _).un | exact in_t _ _ _ | exact (in_t _ _ _).un | exact gq_f | exact gq_t | exact gq_c | exact fun _ _ => rfl | exact works_t | exact fun _ => works_t | exact row_t | exact rep_t 3 (by decide) | exact ks
  case zk =>
  refine Aw.sm tab_ok mb0 [(0, [.agg rowS.c]), (1, [(exS 3).rA]), (7, [.tup [outW [3], .int 0]])] rfl rfl ?zo ?zk
  case zo =>
    repeat' apply AllP.cons
    all_goals first | exact trivial | exact id | exact rfl | exact fun _ => rfl | exact Nat.le_of_ble_eq_true rfl | exact fun _ => Nat.le_of_ble_eq_true rfl | exact Int.natCast_nonneg _ | exact fun _ => Int.natCast_nonneg _ | exact within_t _ _ _ | exact (within_t _ _ _).un | exact in_t _ _ _ | exact (in_t _ _ _).un | exact gq_f | exact gq_t | exact gq_c | exact fun _ _ => rfl | exact works_t | exact fun _ => works_t | exact row_t | exact rep_t 3 (by decide) | exact kt
  case zk =>
  refine Aw.sm tab_ok mb0 [(0, [.agg rowS.c]), (1, [.tup [outW [0, 1, 2, 3], .int 0]])] rfl rfl ?zo ?zk
  case zo =>
    repeat' apply AllP.cons
    all_goals first | exact trivial | exact id | exact rfl | exact fun _ => rfl | exact Nat.le_of_ble_eq_true rfl | exact fun _ => Nat.le_of_ble_eq_true rfl | exact Int.natCast_nonneg _ | exact fun _ => Int.natCast_nonneg _ | exact within_t _ _ _ | exact (within_t _ _ _).un | exact in_t _ _ _ | exact (in_t _ _ _).un | exact gq_f | exact gq_t | exact gq_c | exact fun _ _ => rfl | exact works_t | exact fun _ => works_t | exact row_t | exact ku
  case zk =>
  refine Aw.sm tab_ok mb0 [(32, [.bool true]), (41, [.bool true]), (59, [.bool true]), (68, [.bool true]), (73, [.bool true])] rfl rfl ?zo ?zk
  case zo =>
    repeat' apply AllP.cons
    all_goals first | exact trivial | exact id | exact rfl | exact fun _ => rfl | exact Nat.le_of_ble_eq_true rfl | exact fun _ => Nat.le_of_ble_eq_true rfl | exact Int.natCast_nonneg _ | exact fun _ => Int.natCast_nonneg _ | exact within_t _ _ _ | exact (within_t _ _ _).un | exact in_t _ _ _ | exact (in_t _ _ _).un | exact gq_f | exact gq_t | exact gq_c | exact fun _ _ => rfl | exact works_t | exact fun _ => works_t | exact row_t | exact fun _ => same_e [2] [2] _ (by decide) | exact fun _ => same_e [0, 1, 2, 3] [0, 1, 2, 3] _ (by decide) | exact fun _ => same_e [3] [3] _ (by decide)
  case zk =>
  exact Aw.ret ⟨_, .cons (.tmp _) .nil, rfl⟩
end Go.Proofs.Ytohbjneaaahpcaa

namespace Go.Proofs.Ytohbjneaaahpcaa
open Go Go.AL Go.ChangeShapes Go.WideShapes Go.ChangeAt Go.RowKit
set_option maxRecDepth 100000 in
theorem shoalKnown_lifted (os : Os) (started : os.Started) (H : Type) (enc : TypeId × Value → H) :
    ReturnsInHanded {} Try.checked os 15 .any (Rows.shoalKnownSpec.pre6 enc Try.prog Try.f15 [] false) (Rows.shoalKnownSpec.post enc Try.prog Try.f15 false true false false) := by
  refine lifted2 (tb := 4) (C := Try.checked) own started (by kernel_rfl) Try.func15
    (ChangeSpec.witness6 (enc := enc) (C := Try.checked) false ⟨#[], #[], []⟩ 8 (by kernel_rfl) (by kernel_rfl) (by kernel_rfl) (by kernel_rfl))
    laidOut ?_ rfl rfl (by kernel_rfl) uBool ?_ ?_
  · rw [Try.params15]; intro t ht; cases ht
  · intro ds hd
    rw [Try.params15] at hd
    match ds, hd with
    | [], _ => rfl
  · intro W base args ds p hval hA hwt
    rw [Try.params15] at hA hval
    obtain ⟨h1, _, _⟩ := trodAll_nil hA
    have e : args = #[] := by cases args; simp_all
    subst e
    exact ⟨fun _ => none, [], VRs.nil _ _ _, known_t⟩
theorem shoalKnown_holds : Rows.ShoalKnownSaid :=
  OpenClaim.holds_of_wide 15 Try.f15 rfl rfl rfl rfl rfl rfl rfl ⟨rfl, rfl, rfl, rfl, rfl⟩ rfl rfl rfl rfl rfl (by kernel_rfl) Try.func15 (by kernel_rfl)
    (of_decide_eq_true (by kernel_rfl)) (by unfold Func.isWrapper; first | (rw [if_pos (by decide +kernel)]; kernel_rfl) | (rw [if_neg (by decide +kernel)]; exact ⟨rfl, rfl⟩))
    (fun os started H enc _ => shoalKnown_lifted os started H enc)
end Go.Proofs.Ytohbjneaaahpcaa

