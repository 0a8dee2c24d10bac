/- What the proof leans on, part 9: P6 X7. -/
import Derived.Test.YtimikmfkdaoaaaaK8
set_option linter.all false
namespace Go.Proofs.Ytimikmfkdaoaaaa
open Go Go.AL
theorem slotsOf_is {d : Day} (f : Spn → Int) (i : Nat) : slotsOf (opened d f) i = match d.lots[i]? with | some l => slotL d l (untilF d f l) | none => [] := by
  unfold slotsOf
  have e : (opened d f).g = d := rfl
  rw [e]
  cases h : d.lots[i]? with
  | none => rfl
  | some l => rw [openU_get (f := f) h]
theorem lost_all {d : Day} (hd : DayOk d) (f : Spn → Int) : (∃ U, lostE d f = defi (opened d f) U) ∧ ∀ L, defi (opened d f) L ≤ lostE d f :=
  lost_is (cd := opened d f) hd.nl (rate_ge hd) (rate_le hd) (fun l hl => by have := (lotOk_iff (hd.lots l hl)).1; omega)
theorem lost_le {d d' : Day} (hd : DayOk d) (hd' : DayOk d') {f f' : Spn → Int} {a : Int} (h : ∀ L, ∃ K, defi (opened d' f') L ≤ defi (opened d f) K + a) : lostE d' f' ≤ lostE d f + a := by
  obtain ⟨U, hU⟩ := (lost_all hd' f').1
  obtain ⟨K, hK⟩ := h U
  have := (lost_all hd f).2 K
  omega
theorem lost_pos {d : Day} (hd : DayOk d) (f : Spn → Int) : 0 ≤ lostE d f := by
  rw [lost_gre hd]; exact (gre_inv d f d.wks _).pos
theorem defi_nil (cd : CDay) : defi cd (fun _ => false) = 0 := by
  unfold defi crs capa
  rw [sumN_zero' (fun i _ => by simp), sumN_zero' (fun p _ => by
    have : reach cd (fun _ => false) p = false := by
      cases e : reach cd (fun _ => false) p with
      | false => rfl
      | true => obtain ⟨i, _, h, _⟩ := reach_iff.1 e; cases h
    simp [this])]
  rfl
theorem lost_crans {d : Day} (hd : DayOk d) (f : Spn → Int) : lostE d f ≤ cransOf d := by
  obtain ⟨U, hU⟩ := (lost_all hd f).1
  rw [hU]
  unfold defi
  have h1 : crs (opened d f) U ≤ cransOf d := by
    rw [cransOf_sumN d (opened d f).u]
    unfold crs
    refine sumN_le fun i hi => ?_
    have h2 : 0 ≤ crN (opened d f) i := by
      unfold crN
      have e : (opened d f).g = d := rfl
      rw [e]
      cases h : d.lots[i]? with
      | none => exact Int.le_refl _
      | some l => have := (lotOk_iff (hd.lots l (List.mem_of_getElem? h))).1; show 0 ≤ l.crans; omega
    split
    · exact Int.le_refl _
    · exact h2
  have h3 : 0 ≤ capa (opened d f) U := sumN_pos fun p _ => by
    have := rate_ge hd p
    split
    · exact this
    · exact Int.le_refl _
  omega
def addLot (d : Day) (l : Lot) : Day := { d with ln := false, lots := d.lots ++ [l] }
section
variable {d : Day} {l : Lot} {f : Spn → Int}
theorem add_slots {i : Nat} (h : i < d.lots.length) : slotsOf (opened (addLot d l) f) i = slotsOf (opened d f) i := by
  rw [slotsOf_is, slotsOf_is]
  have e : (addLot d l).lots[i]? = d.lots[i]? := by show (d.lots ++ [l])[i]? = _; rw [List.getElem?_append_left h]
  rw [e]; rfl
theorem add_cr {i : Nat} (h : i < d.lots.length) : crN (opened (addLot d l) f) i = crN (opened d f) i := by
  unfold crN
  have e : (opened (addLot d l) f).g.lots[i]? = (opened d f).g.lots[i]? := by show (d.lots ++ [l])[i]? = _; rw [List.getElem?_append_left h]; rfl
  rw [e]
theorem add_last : crN (opened (addLot d l) f) d.lots.length = l.crans := by
  unfold crN
  have e : (opened (addLot d l) f).g.lots[d.lots.length]? = some l := by show (d.lots ++ [l])[_]? = _; simp
  rw [e]
theorem add_len : (opened (addLot d l) f).g.lots.length = d.lots.length + 1 := by show (d.lots ++ [l]).length = _; simp
theorem add_crs (L : Nat → Bool) : crs (opened (addLot d l) f) L = crs (opened d f) L + if L d.lots.length then l.crans else 0 := by
  unfold crs
  rw [add_len, sumN, add_last]
  congr 1
  exact sumN_congr fun i hi => by rw [add_cr hi]
theorem add_reach {L : Nat → Bool} {p : Nat} (h : reach (opened d f) L p = true) : reach (opened (addLot d l) f) L p = true := by
  obtain ⟨i, hi, hl, hp⟩ := reach_iff.1 h
  have hi : i < d.lots.length := hi
  exact reach_iff.2 ⟨i, by rw [add_len]; omega, hl, by rw [add_slots hi]; exact hp⟩
theorem add_capa (hd : DayOk d) (L : Nat → Bool) : capa (opened d f) L ≤ capa (opened (addLot d l) f) L := by
  unfold capa
  refine sumN_le (n := nP (opened d f)) fun p _ => ?_
  have h0 := rate_ge hd p
  have e : rateAt (opened (addLot d l) f).g p = rateAt d p := rfl
  have e2 : rateAt (opened d f).g p = rateAt d p := rfl
  rw [e, e2]
  by_cases h : reach (opened d f) L p = true
  · rw [if_pos h, if_pos (add_reach h)]; exact Int.le_refl _
  · rw [if_neg h]; split <;> omega
theorem add_capa_eq {L : Nat → Bool} (h : L d.lots.length = false ∨ slotsOf (opened (addLot d l) f) d.lots.length = []) : capa (opened (addLot d l) f) L = capa (opened d f) L := by
  unfold capa
  refine sumN_congr (n := nP (opened d f)) fun p _ => ?_
  have e : reach (opened (addLot d l) f) L p = reach (opened d f) L p := by
    rw [Bool.eq_iff_iff]
    refine ⟨fun h1 => ?_, add_reach⟩
    obtain ⟨i, hi, hl, hp⟩ := reach_iff.1 h1
    rw [add_len] at hi
    by_cases e : i = d.lots.length
    · subst e
      rcases h with h | h
      · rw [h] at hl; cases hl
      · rw [h] at hp; cases hp
    · exact reach_iff.2 ⟨i, by show i < d.lots.length; omega, hl, by rw [← add_slots (l := l) (show i < d.lots.length by omega)]; exact hp⟩
  rw [e]; rfl
theorem more_ge (hd : DayOk d) (hx : DayOk (addLot d l)) : lostE d f ≤ lostE (addLot d l) f := by
  have := lost_le (a := 0) hx hd (f := f) (f' := f) fun L => ⟨fun i => L i && decide (i < d.lots.length), by
    unfold defi
    rw [add_crs, add_capa_eq (.inl (by simp))]
    have e1 : crs (opened d f) (fun i => L i && decide (i < d.lots.length)) = crs (opened d f) L := sumN_congr fun i hi => by
      have hi : i < d.lots.length := hi
      simp [hi]
    have e2 : capa (opened d f) (fun i => L i && decide (i < d.lots.length)) = capa (opened d f) L := sumN_congr fun p _ => by
      have : reach (opened d f) (fun i => L i && decide (i < d.lots.length)) p = reach (opened d f) L p := by
        rw [Bool.eq_iff_iff, reach_iff, reach_iff]
        exact ⟨fun ⟨i, hi, hl, hp⟩ => ⟨i, hi, by simp at hl; exact hl.1, hp⟩, fun ⟨i, hi, hl, hp⟩ => ⟨i, hi, by have hi : i < d.lots.length := hi; simp [hl, hi], hp⟩⟩
      rw [this]
    rw [e1, e2]; simp⟩
  omega
theorem more_le (hd : DayOk d) (hx : DayOk (addLot d l)) : lostE (addLot d l) f ≤ lostE d f + l.crans := by
  have hlc : 0 ≤ l.crans := by have := (lotOk_iff (hx.lots l (by show l ∈ d.lots ++ [l]; simp))).1; omega
  refine lost_le hd hx fun L => ⟨L, ?_⟩
  unfold defi
  have := add_capa (l := l) (f := f) hd L
  rw [add_crs]
  split <;> omega
theorem no_fit {d : Day} {l : Lot} {u : Int} (h : l.fit = 0) : slotL d l u = [] := by
  unfold slotL
  rw [List.filter_eq_nil_iff]
  intro p _
  unfold canP canF
  rw [h, Int.zero_fdiv]
  have : (iand 0 1 == 1) = false := by decide
  rw [this]; simp
theorem more_all (hd : DayOk d) (hx : DayOk (addLot d l)) (h0 : l.fit = 0) : lostE (addLot d l) f = lostE d f + l.crans := by
  have hsl : slotsOf (opened (addLot d l) f) d.lots.length = [] := by
    rw [slotsOf_is]
    have e : (addLot d l).lots[d.lots.length]? = some l := by show (d.lots ++ [l])[_]? = _; simp
    rw [e]; exact no_fit h0
  refine Int.le_antisymm (more_le hd hx) ?_
  have := lost_le (a := -l.crans) hx hd (f := f) (f' := f) fun L => ⟨fun i => L i || decide (i = d.lots.length), by
    unfold defi
    rw [add_crs, add_capa_eq (.inr hsl)]
    have e1 : crs (opened d f) (fun i => L i || decide (i = d.lots.length)) = crs (opened d f) L := sumN_congr fun i hi => by
      have hi : i < d.lots.length := hi
      simp [show i ≠ d.lots.length by omega]
    have e2 : capa (opened d f) (fun i => L i || decide (i = d.lots.length)) = capa (opened d f) L := sumN_congr fun p _ => by
      have : reach (opened d f) (fun i => L i || decide (i = d.lots.length)) p = reach (opened d f) L p := by
        rw [Bool.eq_iff_iff, reach_iff, reach_iff]
        exact ⟨fun ⟨i, hi, hl, hp⟩ => ⟨i, hi, by have hi : i < d.lots.length := hi; simp [show i ≠ d.lots.length by omega] at hl; exact hl, hp⟩, fun ⟨i, hi, hl, hp⟩ => ⟨i, hi, by simp [hl], hp⟩⟩
      rw [this]
    rw [e1, e2]; simp; omega⟩
  omega
end
theorem lost_mono {d d' : Day} (hd : DayOk d) (hd' : DayOk d') {f f' : Spn → Int} (hl : d'.lots.length = d.lots.length) (hc : ∀ i, i < d.lots.length → crN (opened d' f') i ≤ crN (opened d f) i)
    (hP : nP (opened d f) ≤ nP (opened d' f')) (hr : ∀ p, p < nP (opened d f) → rateAt d p ≤ rateAt d' p) (hs : ∀ i p, p ∈ slotsOf (opened d f) i → p ∈ slotsOf (opened d' f') i) : lostE d' f' ≤ lostE d f := by
  have := lost_le (a := 0) hd hd' (f := f) (f' := f') fun L => ⟨L, by
    unfold defi
    have h1 : crs (opened d' f') L ≤ crs (opened d f) L := by
      unfold crs
      have e : (opened d' f').g.lots.length = (opened d f).g.lots.length := hl
      rw [e]
      refine sumN_le fun i hi => ?_
      have := hc i hi
      split <;> omega
    have h2 : capa (opened d f) L ≤ capa (opened d' f') L := by
      unfold capa
      have e : sumN (nP (opened d f)) (fun p => if reach (opened d' f') L p then rateAt (opened d' f').g p else 0) ≤ sumN (nP (opened d' f')) (fun p => if reach (opened d' f') L p then rateAt (opened d' f').g p else 0) := by
        have key : ∀ (a k : Nat) (g : Nat → Int), (∀ p, 0 ≤ g p) → sumN a g ≤ sumN (a + k) g := fun a k g hg => by
          induction k with
          | zero => exact Int.le_refl _
          | succ k ih => rw [Nat.add_succ, sumN]; have := hg (a + k); omega
        have := key (nP (opened d f)) (nP (opened d' f') - nP (opened d f)) (fun p => if reach (opened d' f') L p then rateAt (opened d' f').g p else 0) fun p => by
          have := rate_ge hd' p
          show 0 ≤ (if reach (opened d' f') L p then rateAt d' p else 0)
          split <;> omega
        rw [Nat.add_sub_cancel' hP] at this
        exact this
      refine Int.le_trans (sumN_le fun p hp => ?_) e
      have h3 := hr p hp
      have h4 := rate_ge hd' p
      have e1 : rateAt (opened d f).g p = rateAt d p := rfl
      have e2 : rateAt (opened d' f').g p = rateAt d' p := rfl
      rw [e1, e2]
      by_cases h : reach (opened d f) L p = true
      · obtain ⟨i, hi, hl', hp'⟩ := reach_iff.1 h
        rw [if_pos h, if_pos (reach_iff.2 ⟨i, by show i < d'.lots.length; rw [hl]; exact hi, hl', hs i p hp'⟩)]
        exact h3
      · rw [if_neg h]; split <;> omega
    omega⟩
  omega
theorem hire_le {d : Day} {w : Wk} (hd : DayOk d) (hx : DayOk (hire d w)) (f : Spn → Int) : lostE (hire d w) f ≤ lostE d f := by
  have hh := hd.hours
  have hget : ∀ p, p < nP (opened d f) → (hire d w).wks.getD (p / (hire d w).hours.toNat) wkD = d.wks.getD (p / d.hours.toNat) wkD := fun p hp => by
    have hp : p < d.wks.length * d.hours.toNat := hp
    show (d.wks ++ [w]).getD (p / d.hours.toNat) wkD = _
    have : p / d.hours.toNat < d.wks.length := Nat.div_lt_of_lt_mul (by rw [Nat.mul_comm]; exact hp)
    rw [List.getD_eq_getElem?_getD, List.getElem?_append_left this, List.getD_eq_getElem?_getD]
  have hP : nP (opened d f) ≤ nP (opened (hire d w) f) := by
    show d.wks.length * d.hours.toNat ≤ (d.wks ++ [w]).length * d.hours.toNat
    exact Nat.mul_le_mul_right _ (by simp)
  refine lost_mono hd hx rfl (fun i _ => Int.le_refl _) hP (fun p hp => ?_) fun i p hp => ?_
  · unfold rateAt
    rw [hget p hp]; exact Int.le_refl _
  · have hlt := (slotsOf_lt _ hp).1
    rw [slotsOf_is] at hp ⊢
    have e : (hire d w).lots[i]? = d.lots[i]? := rfl
    rw [e]
    cases h : d.lots[i]? with
    | none => rw [h] at hp; cases hp
    | some l =>
      rw [h] at hp
      simp only at hp ⊢
      unfold slotL at hp ⊢
      obtain ⟨h1, h2⟩ := List.mem_filter.1 hp
      refine List.mem_filter.2 ⟨List.mem_range.2 (Nat.lt_of_lt_of_le hlt hP), ?_⟩
      unfold canP at h2 ⊢
      rw [hget p hlt]
      exact h2
theorem runU_ge {f : Nat → Int} {landed : Int} : ∀ (m k : Nat) (n u : Int), u < k → u ≤ runU f landed m k n u
  | 0, k, n, u, _ => Int.le_refl _
  | m + 1, k, n, u, h => by
    rw [runU]
    split
    · exact runU_ge m (k + 1) n u (by omega)
    · split
      · exact Int.le_refl _
      · exact Int.le_trans (by omega) (runU_ge m (k + 1) _ (k : Int) (by omega))
theorem runU_mono {f g : Nat → Int} {landed : Int} (hfg : ∀ k, g k ≤ f k) : ∀ (m k : Nat) (n n' u : Int), u < k → n ≤ n' → runU f landed m k n u ≤ runU g landed m k n' u
  | 0, k, n, n', u, _, _ => Int.le_refl _
  | m + 1, k, n, n', u, h, hn => by
    have h1 := hfg k
    rw [runU, runU]
    split
    · exact runU_mono hfg m (k + 1) n n' u (by omega) hn
    · by_cases h2 : n - f k < 0
      · rw [if_pos h2]
        split
        · exact Int.le_refl _
        · exact Int.le_trans (by omega) (runU_ge m (k + 1) _ (k : Int) (by omega))
      · rw [if_neg h2, if_neg (by omega)]
        exact runU_mono hfg m (k + 1) _ _ _ (by omega) (by omega)
theorem until_mono {d d' : Day} {f f' : Spn → Int} {l l' : Lot} (hh : d'.hours = d.hours) (hf : ∀ k, f' (d'.heat.getD k ⟨0, 0⟩) ≤ f (d.heat.getD k ⟨0, 0⟩)) (hl : l'.landed = l.landed) (h0 : 0 ≤ l.landed) (hk : l.keep ≤ l'.keep) : untilF d f l ≤ untilF d' f' l' := by
  unfold untilF
  rw [hh, hl]
  by_cases h1 : l.landed - 1 < 0
  · exact runU_mono hf _ _ _ _ _ (by omega) hk
  ·
    by_cases h2 : l.landed.toNat ≤ d.hours.toNat
    · rw [show d.hours.toNat = l.landed.toNat + (d.hours.toNat - l.landed.toNat) by omega, runU_skip _ _ 0 (by omega), runU_skip _ _ 0 (by omega)]
      exact runU_mono hf _ _ _ _ _ (by omega) hk
    · have key : ∀ (f : Nat → Int) (m k : Nat) (n u : Int), (k : Int) + m ≤ l.landed → runU f l.landed m k n u = u := fun f m => by
        induction m with
        | zero => intro k n u _; rfl
        | succ m ih =>
          intro k n u h
          rw [runU, if_pos (by omega)]
          exact ih _ _ _ (by omega)
      rw [key _ _ _ _ _ (by omega), key _ _ _ _ _ (by omega)]
      exact Int.le_refl _
theorem cool_le {d d' : Day} (hd : DayOk d) (hd' : DayOk d') {f f' : Spn → Int} (hl : d'.lots = d.lots) (hw : d'.wks = d.wks) (hh : d'.hours = d.hours) (hf : ∀ k, f' (d'.heat.getD k ⟨0, 0⟩) ≤ f (d.heat.getD k ⟨0, 0⟩)) : lostE d' f' ≤ lostE d f := by
  refine lost_mono hd hd' (by rw [hl]) (fun i _ => ?_) (Nat.le_of_eq (show d.wks.length * d.hours.toNat = d'.wks.length * d'.hours.toNat by rw [hw, hh])) (fun p _ => by unfold rateAt; rw [hw, hh]; exact Int.le_refl _) fun i p hp => ?_
  · unfold crN
    have e : (opened d' f').g.lots = (opened d f).g.lots := hl
    rw [e]; exact Int.le_refl _
  · rw [slotsOf_is] at hp ⊢
    rw [hl]
    cases h : d.lots[i]? with
    | none => rw [h] at hp; cases hp
    | some l =>
      rw [h] at hp
      simp only at hp ⊢
      have lo := lotOk_iff (hd.lots l (List.mem_of_getElem? h))
      have hu := until_mono (l := l) (l' := l) hh hf rfl lo.2.1.1 (Int.le_refl _)
      unfold slotL at hp ⊢
      obtain ⟨h1, h2⟩ := List.mem_filter.1 hp
      refine List.mem_filter.2 ⟨by rw [hw, hh]; exact h1, ?_⟩
      unfold canP canF at h2 ⊢
      rw [hw, hh]
      rw [c_and, Bool.and_eq_true] at h2 ⊢
      refine ⟨h2.1, wi_iff.2 ?_⟩
      have := wi_iff.1 h2.2
      omega
end Go.Proofs.Ytimikmfkdaoaaaa
namespace Go.AL
open Go Go.RowKit Go.ChangeShapes Go.WideShapes
section
variable {H : Type} {enc : TypeId × Value → H} {P : Program} {w : World} {base : Nat} {spare : Nat → Bool} {held : Bool} {φ : Names}
theorem slice_len {t e fuel : Nat} {v : Value} {x : DataW H × List MemPlace} {Z : Still} {nil : Bool} {c : Cap} {es : List (List A)} (ht : P.underlying t = some (.slice e)) (h : DataW.trod enc P w base spare held fuel t [v] = some x)
    (hv : VR φ Z w (.sl nil c es) v) (hw : ∀ k ∈ x.1.weights P t, k ≤ reachBytes) : es.length * P.bytesOf e ≤ reachBytes := by
  rcases DataW.trod_slice ht h with ⟨h0, _⟩ | ⟨a, len, cap, elems, rest, n, _, hcs, hx, _, _, _, hlen, _, _, _⟩
  · simp only [List.cons.injEq, and_true] at h0
    subst h0
    rcases inv_sl hv with ⟨_, rfl, _⟩ | ⟨_, b, off, sz, c, val, h1, _⟩
    · simp
    · cases h1
  · simp only [List.cons.injEq, and_true] at hcs
    subst hcs
    rcases inv_sl hv with ⟨_, _, h1⟩ | ⟨_, b, off, sz, c, val, h1, _⟩
    · cases h1
    · have e1 : len = es.length := by cases h1; rfl
      have h2 := hw ((elems.length + rest.length) * P.bytesOf e) (by
        rw [hx]; simp only [DataW.weights, ht, List.length_map]; exact List.mem_cons_self ..)
      have h3 : es.length ≤ elems.length + rest.length := by omega
      exact Nat.le_trans (Nat.mul_le_mul_right _ h3) h2
theorem lifted2 {C : Checked} {os : Os} {f : FuncId} {fn : Func} {s : ChangeSpec} {apart fresh handsOn again : Bool} {tb : TypeId}
    (own : ownKnob C.prog.godebug = none) (started : os.Started) (noInit : C.prog.inits.idxOf? f = none) (hfn : C.prog.funcs[f]? = some fn)
    (witness : ∃ (w : World) (tape : Tape) (i : Input), w.os = os ∧ (w.forCall tape i).Shaped C.prog ∧ i.vars = [] ∧ Input.okWide C.prog (w.forCall tape i) .any w.heap.size f i ∧
      s.pre6 enc C.prog fn [] apart (w.forCall tape i).memory i.args ∧ ({} : Assume).holds C.prog (lone (Frame.enter C.prog f i.args .normal) [] (w.forCall tape i)))
    (hl : laidOutB C.prog = true) (hts : ∀ t ∈ fn.params.toList, C.prog.readableRec t = true ∧ t < C.prog.types.size) (hv : s.vars = []) (hvt : s.plain.varTypes C.prog = [])
    (hr : fn.resultTypes = #[tb]) (htb : C.prog.underlying tb = some .bool)
    (hs : ∀ ds : List (DataW H), ds.length = fn.params.size → s.fn H ds = { results := [.lit (.bool true)], args := ds })
    (key : ∀ (W : World) (base : Nat) (args : Array Value) (ds : List (DataW H)) (p : List MemPlace),
      (∀ (j : Nat) t v, fn.params[j]? = some t → args[j]? = some v → Value.okWide C.prog W .any base t v) →
      DataW.TrodAll enc C.prog W 0 (fun _ => true) true fn.params.toList args.toList ds p → (∀ k ∈ DataW.weightsEach C.prog fn.params.toList ds, k ≤ reachBytes) → ∃ (φ : Names) (az : List A), VRs φ (allZ W) W az args ∧ Ans C.prog f az (.bool true)) :
    ReturnsInHanded {} C os f .any (s.pre6 enc C.prog fn [] apart) (s.post enc C.prog fn apart fresh handsOn again) := by
  refine returnsInHanded_of_calls own started noInit witness ?_
  intro w tape i _ _ _ hok hpre hholds
  obtain ⟨_, _, _, fn', hfn', _, _, _, _, hval⟩ := hok
  have e : fn' = fn := Option.some.inj (hfn'.symm.trans hfn)
  subst e
  obtain ⟨⟨ds, gs, before, hw, hc⟩, hz⟩ := hpre
  have hzw := hz.weights hw
  have hW := DataW.Whole.of_heap (w' := w.forCall tape i) (by rfl) hw
  have hW2 := hW
  obtain ⟨p, q, hA, hV, hpq, hz, hn⟩ := hW2
  rw [hv] at hV
  have hg : gs = [] := by
    cases gs with
    | nil => rfl
    | cons a b => exact hV.elim
  subst hg
  have hlen : ∀ {ts : List TypeId} {vs : List Value} {ds : List (DataW H)} {p : List MemPlace}, DataW.TrodAll enc C.prog (w.forCall tape i) 0 (fun _ => true) true ts vs ds p → ds.length = ts.length := fun {ts} => by
    induction ts with
    | nil => intro vs ds p h; obtain ⟨_, rfl, _⟩ := trodAll_nil h; rfl
    | cons t ts ih => intro vs ds p h; obtain ⟨v, vs1, d, ds1, a, b, _, rfl, _, _, h2⟩ := trodAll_cons h; simp [ih h2]
  have hd : ds.length = fn'.params.size := by rw [hlen hA]; simp
  have hzw : ∀ k ∈ DataW.weightsEach C.prog fn'.params.toList ds, k ≤ reachBytes := fun k hk => by
    have e : (OpenSpec.ofChange s).bare.plain.varTypes C.prog = [] := hvt
    rw [e, List.append_nil, List.append_nil] at hzw
    exact of_decide_eq_true (List.all_eq_true.1 hzw k hk)
  obtain ⟨φ, az, hvs, ha⟩ := key (w.forCall tape i) w.heap.size i.args ds p hval hA hzw
  have e := hs (ds ++ []) (by simpa using hd)
  refine (law_row (apart := apart) (fresh := fresh) (handsOn := handsOn) (again := again) hl hts hv hW (by rw [e]; simp) (by rw [e]) (by rw [e]) hr htb hvs ha).mono fun e W' ⟨v, he, hp⟩ => ?_
  subst he
  exact ChangeSpec.post_blind hp
end
end Go.AL
namespace Go.Proofs.Ytimikmfkdaoaaaa
open Go Go.AL Go.ChangeShapes Go.WideShapes Go.ChangeAt Go.RowKit
structure Sized (d : Day) : Prop where
  h : d.heat.length * 16 ≤ reachBytes
  l : d.lots.length * 32 ≤ reachBytes
  w : d.wks.length * 32 ≤ reachBytes
theorem by47 : Try.prog.bytesOf 47 = 16 := by kernel_rfl
theorem by59 : Try.prog.bytesOf 59 = 32 := by kernel_rfl
theorem by61 : Try.prog.bytesOf 61 = 32 := by kernel_rfl
section
variable {H : Type} {enc : TypeId × Value → H} {w : World} {base : Nat} {spare : Nat → Bool} {held : Bool} {φ : Names}
set_option maxRecDepth 100000 in
theorem day_sized {d : Day} {cs : Array Value} {fuel : Nat} {x : DataW H × List MemPlace} {Z : Still} (h : DataW.trod enc Try.prog w base spare held fuel 26 cs.toList = some x) (hv : VR φ Z w (.agg d.c) (.agg cs))
    (hw : ∀ k ∈ x.1.weights Try.prog 26, k ≤ reachBytes) : Sized d := by
  obtain ⟨y0, y1, y2, y3, n, hx, hl, h0, h1, h2, h3⟩ := Go.Joins.trod_struct4 u26 h
  rw [c26] at hl
  obtain ⟨vs, e0, e1, e2, e3⟩ := inv_agg hv
  cases e0
  obtain ⟨l⟩ := cs
  have hl : l.length = 4 := hl
  match l, hl with
  | [v0, v1, v2, v3], _ =>
  have s22 : Try.prog.cellsOf 22 = 1 := by kernel_rfl
  have s23 : Try.prog.cellsOf 23 = 1 := by kernel_rfl
  have s24 : Try.prog.cellsOf 24 = 1 := by kernel_rfl
  have h1 : DataW.trod enc Try.prog w base spare held n 22 (([v0, v1, v2, v3].drop 1).take (Try.prog.cellsOf 22)) = some y1 := h1
  have h2 : DataW.trod enc Try.prog w base spare held n 23 (([v0, v1, v2, v3].drop 2).take (Try.prog.cellsOf 23)) = some y2 := h2
  have h3 : DataW.trod enc Try.prog w base spare held n 24 (([v0, v1, v2, v3].drop 3).take (Try.prog.cellsOf 24)) = some y3 := h3
  rw [s22] at h1; rw [s23] at h2; rw [s24] at h3
  have h1 : DataW.trod enc Try.prog w base spare held n 22 [v1] = some y1 := h1
  have h2 : DataW.trod enc Try.prog w base spare held n 23 [v2] = some y2 := h2
  have h3 : DataW.trod enc Try.prog w base spare held n 24 [v3] = some y3 := h3
  have q1 : VR φ Z w (.sl d.hn .any (d.heat.map Spn.c)) v1 := e3 1 (by show 1 < 4; omega)
  have q2 : VR φ Z w (.sl d.ln .any (d.lots.map Lot.c)) v2 := e3 2 (by show 2 < 4; omega)
  have q3 : VR φ Z w (.sl d.wn .any (d.wks.map Wk.c)) v3 := e3 3 (by show 3 < 4; omega)
  have hxw : ∀ k, k ∈ y1.1.weights Try.prog 22 ∨ k ∈ y2.1.weights Try.prog 23 ∨ k ∈ y3.1.weights Try.prog 24 → k ≤ reachBytes := fun k hk => by
    refine hw k ?_
    rw [hx]
    simp only [DataW.weights, u26]
    have e : DataW.weightsEach Try.prog ((#[fld "Hours" 3 0 0, fld "Heat" 22 1 8, fld "Lots" 23 2 32, fld "Workers" 24 3 56] : Array Field).toList.map (·.type)) [y0.1, y1.1, y2.1, y3.1] = y0.1.weights Try.prog 3 ++ (y1.1.weights Try.prog 22 ++ (y2.1.weights Try.prog 23 ++ (y3.1.weights Try.prog 24 ++ []))) := rfl
    rw [e]
    simp only [List.mem_append]
    rcases hk with h | h | h
    · exact .inr (.inl h)
    · exact .inr (.inr (.inl h))
    · exact .inr (.inr (.inr (.inl h)))
  have z1 := slice_len u22 h1 q1 fun k hk => hxw k (.inl hk)
  have z2 := slice_len u23 h2 q2 fun k hk => hxw k (.inr (.inl hk))
  have z3 := slice_len u24 h3 q3 fun k hk => hxw k (.inr (.inr hk))
  rw [by47, List.length_map] at z1
  rw [by59, List.length_map] at z2
  rw [by61, List.length_map] at z3
  exact ⟨z1, z2, z3⟩
set_option maxRecDepth 100000 in
theorem arg_day2 {v : Value} {d : DataW H} {p : List MemPlace} {r : Reach} {b0 : Nat} (hok : Value.okWide Try.prog w r b0 26 v) (h : DataW.Trod enc Try.prog w base spare held 26 v d p) (hw : ∀ k ∈ d.weights Try.prog 26, k ≤ reachBytes) :
    ∃ y : Day, VR φ (allZ w) w (.agg y.c) v ∧ Small y ∧ Sized y := by
  obtain ⟨fuel, h⟩ := h
  unfold Value.okWide at hok
  rw [u26] at hok
  obtain ⟨cs, rfl, _, hrow⟩ := hok
  obtain ⟨y, h1, h2⟩ := open_day (φ := φ) hrow h
  exact ⟨y, h1, h2, day_sized h h1 hw⟩
theorem row_vr {zs : List Int} {Z : Still} : VR φ Z w (.agg (zs.map A.int)) (.agg (zs.map (Value.int .i64)).toArray) := by
  refine .agg _ _ (by simp) (fun i hi => ?_) fun i hi => ?_
  · have hi : i < zs.length := by simpa using hi
    have : ((zs.map (Value.int .i64)).toArray.getD i undef) = .int .i64 zs[i] := by simp [Array.getD, hi]
    rw [this]; rfl
  · have hi : i < zs.length := by simpa using hi
    have e1 : ((zs.map (Value.int .i64)).toArray.getD i undef) = .int .i64 zs[i] := by simp [Array.getD, hi]
    have e2 : (zs.map A.int).getD i .un = A.int zs[i] := by simp [List.getD_eq_getElem?_getD, hi]
    rw [e1, e2]; exact .s _
set_option maxRecDepth 100000 in
theorem arg_row {t sz : Nat} {fs : Array Field} (hu : Try.prog.underlying t = some (.struct fs)) (hn : Nums enc Try.prog w base spare held t sz) {v : Value} {d : DataW H} {p : List MemPlace} {r : Reach} {b0 : Nat} (hok : Value.okWide Try.prog w r b0 t v) (h : DataW.Trod enc Try.prog w base spare held t v d p) :
    ∃ zs : List Int, VR φ (allZ w) w (.agg (zs.map A.int)) v ∧ zs.length = sz := by
  obtain ⟨fuel, h⟩ := h
  unfold Value.okWide at hok
  rw [hu] at hok
  obtain ⟨cs, rfl, _, _⟩ := hok
  obtain ⟨zs, h1, h2⟩ := hn fuel _ _ h
  have h1 : cs.toList = zs.map (Value.int .i64) := h1
  have e : cs = (zs.map (Value.int .i64)).toArray := by rw [← h1]
  exact ⟨zs, e ▸ row_vr, h2⟩
set_option maxRecDepth 100000 in
theorem arg_lot {v : Value} {d : DataW H} {p : List MemPlace} {r : Reach} {b0 : Nat} (hok : Value.okWide Try.prog w r b0 59 v) (h : DataW.Trod enc Try.prog w base spare held 59 v d p) : ∃ y : Lot, VR φ (allZ w) w (.agg y.c) v := by
  obtain ⟨zs, h1, h2⟩ := arg_row (φ := φ) u59 n59 hok h
  match zs, h2 with
  | [a, b, c, e], _ => exact ⟨⟨a, b, c, e⟩, h1⟩
set_option maxRecDepth 100000 in
theorem arg_wk {v : Value} {d : DataW H} {p : List MemPlace} {r : Reach} {b0 : Nat} (hok : Value.okWide Try.prog w r b0 61 v) (h : DataW.Trod enc Try.prog w base spare held 61 v d p) : ∃ y : Wk, VR φ (allZ w) w (.agg y.c) v := by
  obtain ⟨zs, h1, h2⟩ := arg_row (φ := φ) u61 n61 hok h
  match zs, h2 with
  | [a, b, c, e], _ => exact ⟨⟨a, b, c, e⟩, h1⟩
end
end Go.Proofs.Ytimikmfkdaoaaaa
