/- What the proof leans on, part 4: GT G1 G2 G3 G4 G5 G6 G7 G8 G9 G10 G11 G12. -/
import Derived.Test.YtimikmfkdaoaaaaK3
import Derived.KernelRfl
import Derived.Test.YtimikmfkdaoaaaaProg
set_option linter.all false
namespace Go.Proofs.Ytimikmfkdaoaaaa
open Go Go.AL
def tyT : Nat → Ty
  | 1 => .func
  | 2 => .int
  | 3 => .int
  | 4 => .bool
  | 15 => .ptr 116
  | 16 => .ptr 119
  | 17 => .ptr 128
  | 18 => .struct [(17, 0)]
  | 19 => .struct [(17, 0)]
  | 22 => .slice 47
  | 23 => .slice 59
  | 24 => .slice 61
  | 25 => .struct [(3, 0), (22, 1), (23, 2), (24, 3)]
  | 26 => .struct [(3, 0), (22, 1), (23, 2), (24, 3)]
  | 27 => .int
  | 29 => .func
  | 30 => .func
  | 31 => .func
  | 32 => .func
  | 33 => .slice 56
  | 35 => .func
  | 37 => .func
  | 39 => .func
  | 40 => .func
  | 41 => .slice 3
  | 42 => .func
  | 44 => .func
  | 45 => .func
  | 46 => .struct [(3, 0), (3, 1)]
  | 47 => .struct [(3, 0), (3, 1)]
  | 49 => .func
  | 50 => .func
  | 51 => .func
  | 52 => .func
  | 53 => .func
  | 54 => .func
  | 55 => .struct [(3, 0), (3, 1), (3, 2), (3, 3)]
  | 56 => .struct [(3, 0), (3, 1), (3, 2), (3, 3)]
  | 57 => .func
  | 58 => .struct [(3, 0), (3, 1), (3, 2), (3, 3)]
  | 59 => .struct [(3, 0), (3, 1), (3, 2), (3, 3)]
  | 60 => .struct [(3, 0), (3, 1), (3, 2), (3, 3)]
  | 61 => .struct [(3, 0), (3, 1), (3, 2), (3, 3)]
  | 62 => .func
  | 63 => .func
  | 64 => .func
  | 65 => .func
  | 66 => .func
  | 67 => .func
  | 68 => .arr 3 3
  | 69 => .func
  | 70 => .func
  | 71 => .func
  | 72 => .func
  | 73 => .func
  | 74 => .func
  | 75 => .func
  | 76 => .slice 26
  | 77 => .slice 33
  | 78 => .arr 8 3
  | 79 => .arr 8 3
  | 80 => .struct [(26, 0), (79, 4)]
  | 81 => .struct [(26, 0), (79, 4)]
  | 82 => .func
  | 83 => .func
  | 84 => .struct [(83, 0)]
  | 85 => .struct [(83, 0)]
  | 86 => .func
  | 87 => .func
  | 88 => .func
  | 89 => .func
  | 90 => .func
  | 91 => .map 93 3
  | 92 => .struct [(3, 0), (3, 1)]
  | 93 => .struct [(3, 0), (3, 1)]
  | 94 => .func
  | 95 => .func
  | 96 => .func
  | 97 => .map 93 104
  | 98 => .struct [(81, 0), (97, 12)]
  | 99 => .struct [(81, 0), (97, 12)]
  | 101 => .func
  | 102 => .func
  | 103 => .func
  | 104 => .arr 8 3
  | 106 => .func
  | 107 => .func
  | 108 => .func
  | 109 => .func
  | 110 => .func
  | 111 => .func
  | 112 => .func
  | 113 => .map 93 4
  | 114 => .func
  | 123 => .func
  | 124 => .ptr 5
  | _ => .none
def szT : Nat → Nat
  | 25 => 4
  | 26 => 4
  | 46 => 2
  | 47 => 2
  | 55 => 4
  | 56 => 4
  | 58 => 4
  | 59 => 4
  | 60 => 4
  | 61 => 4
  | 68 => 3
  | 78 => 8
  | 79 => 8
  | 80 => 12
  | 81 => 12
  | 92 => 2
  | 93 => 2
  | 98 => 13
  | 99 => 13
  | 104 => 8
  | _ => 1
def byT : Nat → Nat
  | 1 => 8
  | 2 => 8
  | 3 => 8
  | 4 => 1
  | 15 => 8
  | 16 => 8
  | 17 => 8
  | 18 => 8
  | 19 => 8
  | 22 => 24
  | 23 => 24
  | 24 => 24
  | 25 => 80
  | 26 => 80
  | 27 => 8
  | 29 => 8
  | 30 => 8
  | 31 => 8
  | 32 => 8
  | 33 => 24
  | 35 => 8
  | 37 => 8
  | 39 => 8
  | 40 => 8
  | 41 => 24
  | 42 => 8
  | 44 => 8
  | 45 => 8
  | 46 => 16
  | 47 => 16
  | 49 => 8
  | 50 => 8
  | 51 => 8
  | 52 => 8
  | 53 => 8
  | 54 => 8
  | 55 => 32
  | 56 => 32
  | 57 => 8
  | 58 => 32
  | 59 => 32
  | 60 => 32
  | 61 => 32
  | 62 => 8
  | 63 => 8
  | 64 => 8
  | 65 => 8
  | 66 => 8
  | 67 => 8
  | 68 => 24
  | 69 => 8
  | 70 => 8
  | 71 => 8
  | 72 => 8
  | 73 => 8
  | 74 => 8
  | 75 => 8
  | 76 => 24
  | 77 => 24
  | 78 => 64
  | 79 => 64
  | 80 => 144
  | 81 => 144
  | 82 => 8
  | 83 => 8
  | 84 => 8
  | 85 => 8
  | 86 => 8
  | 87 => 8
  | 88 => 8
  | 89 => 8
  | 90 => 8
  | 91 => 8
  | 92 => 16
  | 93 => 16
  | 94 => 8
  | 95 => 8
  | 96 => 8
  | 97 => 8
  | 98 => 152
  | 99 => 152
  | 101 => 8
  | 102 => 8
  | 103 => 8
  | 104 => 64
  | 106 => 8
  | 107 => 8
  | 108 => 8
  | 109 => 8
  | 110 => 8
  | 111 => 8
  | 112 => 8
  | 113 => 8
  | 114 => 8
  | 123 => 8
  | 124 => 8
  | _ => 0
def zrT : Nat → List A
  | 1 => [.s .nilFunc]
  | 2 => [.s (.int .i64 0)]
  | 3 => [.s (.int .i64 0)]
  | 4 => [.s (.bool false)]
  | 15 => [.s (.pointer none)]
  | 16 => [.s (.pointer none)]
  | 17 => [.s (.pointer none)]
  | 18 => [.s (.pointer none)]
  | 19 => [.s (.pointer none)]
  | 22 => [.sl true .exact []]
  | 23 => [.sl true .exact []]
  | 24 => [.sl true .exact []]
  | 25 => [.s (.int .i64 0), .sl true .exact [], .sl true .exact [], .sl true .exact []]
  | 26 => [.s (.int .i64 0), .sl true .exact [], .sl true .exact [], .sl true .exact []]
  | 27 => [.s (.int .i64 0)]
  | 29 => [.s .nilFunc]
  | 30 => [.s .nilFunc]
  | 31 => [.s .nilFunc]
  | 32 => [.s .nilFunc]
  | 33 => [.sl true .exact []]
  | 35 => [.s .nilFunc]
  | 37 => [.s .nilFunc]
  | 39 => [.s .nilFunc]
  | 40 => [.s .nilFunc]
  | 41 => [.sl true .exact []]
  | 42 => [.s .nilFunc]
  | 44 => [.s .nilFunc]
  | 45 => [.s .nilFunc]
  | 46 => [.s (.int .i64 0), .s (.int .i64 0)]
  | 47 => [.s (.int .i64 0), .s (.int .i64 0)]
  | 49 => [.s .nilFunc]
  | 50 => [.s .nilFunc]
  | 51 => [.s .nilFunc]
  | 52 => [.s .nilFunc]
  | 53 => [.s .nilFunc]
  | 54 => [.s .nilFunc]
  | 55 => [.s (.int .i64 0), .s (.int .i64 0), .s (.int .i64 0), .s (.int .i64 0)]
  | 56 => [.s (.int .i64 0), .s (.int .i64 0), .s (.int .i64 0), .s (.int .i64 0)]
  | 57 => [.s .nilFunc]
  | 58 => [.s (.int .i64 0), .s (.int .i64 0), .s (.int .i64 0), .s (.int .i64 0)]
  | 59 => [.s (.int .i64 0), .s (.int .i64 0), .s (.int .i64 0), .s (.int .i64 0)]
  | 60 => [.s (.int .i64 0), .s (.int .i64 0), .s (.int .i64 0), .s (.int .i64 0)]
  | 61 => [.s (.int .i64 0), .s (.int .i64 0), .s (.int .i64 0), .s (.int .i64 0)]
  | 62 => [.s .nilFunc]
  | 63 => [.s .nilFunc]
  | 64 => [.s .nilFunc]
  | 65 => [.s .nilFunc]
  | 66 => [.s .nilFunc]
  | 67 => [.s .nilFunc]
  | 68 => [.s (.int .i64 0), .s (.int .i64 0), .s (.int .i64 0)]
  | 69 => [.s .nilFunc]
  | 70 => [.s .nilFunc]
  | 71 => [.s .nilFunc]
  | 72 => [.s .nilFunc]
  | 73 => [.s .nilFunc]
  | 74 => [.s .nilFunc]
  | 75 => [.s .nilFunc]
  | 76 => [.sl true .exact []]
  | 77 => [.sl true .exact []]
  | 78 => [.s (.int .i64 0), .s (.int .i64 0), .s (.int .i64 0), .s (.int .i64 0), .s (.int .i64 0), .s (.int .i64 0), .s (.int .i64 0), .s (.int .i64 0)]
  | 79 => [.s (.int .i64 0), .s (.int .i64 0), .s (.int .i64 0), .s (.int .i64 0), .s (.int .i64 0), .s (.int .i64 0), .s (.int .i64 0), .s (.int .i64 0)]
  | 80 => [.s (.int .i64 0), .sl true .exact [], .sl true .exact [], .sl true .exact [], .s (.int .i64 0), .s (.int .i64 0), .s (.int .i64 0), .s (.int .i64 0), .s (.int .i64 0), .s (.int .i64 0), .s (.int .i64 0), .s (.int .i64 0)]
  | 81 => [.s (.int .i64 0), .sl true .exact [], .sl true .exact [], .sl true .exact [], .s (.int .i64 0), .s (.int .i64 0), .s (.int .i64 0), .s (.int .i64 0), .s (.int .i64 0), .s (.int .i64 0), .s (.int .i64 0), .s (.int .i64 0)]
  | 82 => [.s .nilFunc]
  | 83 => [.s .nilFunc]
  | 84 => [.s .nilFunc]
  | 85 => [.s .nilFunc]
  | 86 => [.s .nilFunc]
  | 87 => [.s .nilFunc]
  | 88 => [.s .nilFunc]
  | 89 => [.s .nilFunc]
  | 90 => [.s .nilFunc]
  | 91 => [.s (.map none)]
  | 92 => [.s (.int .i64 0), .s (.int .i64 0)]
  | 93 => [.s (.int .i64 0), .s (.int .i64 0)]
  | 94 => [.s .nilFunc]
  | 95 => [.s .nilFunc]
  | 96 => [.s .nilFunc]
  | 97 => [.s (.map none)]
  | 98 => [.s (.int .i64 0), .sl true .exact [], .sl true .exact [], .sl true .exact [], .s (.int .i64 0), .s (.int .i64 0), .s (.int .i64 0), .s (.int .i64 0), .s (.int .i64 0), .s (.int .i64 0), .s (.int .i64 0), .s (.int .i64 0), .s (.map none)]
  | 99 => [.s (.int .i64 0), .sl true .exact [], .sl true .exact [], .sl true .exact [], .s (.int .i64 0), .s (.int .i64 0), .s (.int .i64 0), .s (.int .i64 0), .s (.int .i64 0), .s (.int .i64 0), .s (.int .i64 0), .s (.int .i64 0), .s (.map none)]
  | 101 => [.s .nilFunc]
  | 102 => [.s .nilFunc]
  | 103 => [.s .nilFunc]
  | 104 => [.s (.int .i64 0), .s (.int .i64 0), .s (.int .i64 0), .s (.int .i64 0), .s (.int .i64 0), .s (.int .i64 0), .s (.int .i64 0), .s (.int .i64 0)]
  | 106 => [.s .nilFunc]
  | 107 => [.s .nilFunc]
  | 108 => [.s .nilFunc]
  | 109 => [.s .nilFunc]
  | 110 => [.s .nilFunc]
  | 111 => [.s .nilFunc]
  | 112 => [.s .nilFunc]
  | 113 => [.s (.map none)]
  | 114 => [.s .nilFunc]
  | 123 => [.s .nilFunc]
  | 124 => [.s (.pointer none)]
  | _ => []
noncomputable def tab : Tab := ⟨tyT, szT, byT, zrT, pureEq Try.prog, findIx Try.prog, keyOk Try.prog⟩
theorem tyT_none : ∀ t, 130 ≤ t → tyT t = .none := by
  intro t h
  unfold tyT
  split <;> first | rfl | omega
theorem tab_chk : ((List.range 130).all fun t => tab.chkAt Try.prog t) = true := by kernel_rfl
theorem tab_ok : tab.Ok Try.prog := Tab.ok_of tab_chk tyT_none (by kernel_rfl) (by kernel_rfl) (by kernel_rfl)
end Go.Proofs.Ytimikmfkdaoaaaa
namespace Go.Proofs.Ytimikmfkdaoaaaa
open Go Go.AL
def mb0 : Nat → Bool := fun _ => false
theorem mixed : Try.prog.follows .mixedOrders = true := by kernel_rfl
theorem told {f : Nat} {fn : Func} {c : Code} {args : List A} {v : A} (hf : Try.prog.funcs[f]? = some fn) (hb : fn.body = some c) (hn : enterOk fn = true) (h : Pure Try.prog f args v) : Ans Try.prog f args v := ⟨enters_of hf hb hn, h⟩
theorem within_t (n a b : Int) : Ans Try.prog 49 [.int n, .int a, .int b] (.bool (wi n a b)) := by
  refine told Try.func49 rfl rfl (Pure.of tab_ok Try.func49 rfl Try.ntmps49 rfl (allC (.s _) (allC (.s _) (all1 (.s _)))) (allC (fun _ => rfl) (allC (fun _ => rfl) (all1 (fun _ => rfl)))) (by first | exact .s _ | assumption | exact .tup _ (by intro x hx; simp only [List.mem_cons, List.not_mem_nil, or_false] at hx; rcases hx with rfl | rfl | rfl | rfl <;> first | exact .s _ | (simp_all; done))) fun E hE => ?_)
  refine Aw.sm tab_ok mb0 [] rfl rfl ?zo ?zk
  case zo =>
    repeat' apply AllP.cons
    all_goals first | exact trivial
  case zk =>
  refine Aw.sm tab_ok mb0 [] rfl rfl ?zo ?zk
  case zo =>
    repeat' apply AllP.cons
    all_goals first | exact trivial | exact id | exact fun _ => rfl
  case zk =>
  exact Aw.ret ⟨_, .cons (.tmp _) .nil, rfl⟩
theorem isWorker_t (w : Wk) (hours : Int) (hh : inR (hours - 1)) : Ans Try.prog 54 [.agg w.c, .int hours] (.bool (isWorker w hours)) := by
  refine told Try.func54 rfl rfl (Pure.of tab_ok Try.func54 rfl Try.ntmps54 rfl (allC (.agg _ w.free) (all1 (.s _))) (allC (fun _ => rfl) (all1 (fun _ => rfl))) (by first | exact .s _ | assumption | exact .tup _ (by intro x hx; simp only [List.mem_cons, List.not_mem_nil, or_false] at hx; rcases hx with rfl | rfl | rfl | rfl <;> first | exact .s _ | (simp_all; done))) fun E hE => ?_)
  refine Aw.sm tab_ok mb0 [] rfl rfl ?zo ?zk
  case zo =>
    repeat' apply AllP.cons
    all_goals first | exact trivial
  case zk =>
  refine Aw.sm tab_ok mb0 [(2, [.bool ?a]), (8, [.bool ?b]), (15, [.bool ?c]), (20, [.bool ?d])] rfl rfl ?zo ?zk
  case zo =>
    repeat' apply AllP.cons
    all_goals first | exact trivial | exact id | exact fun _ => rfl | exact Nat.le_of_ble_eq_true rfl | exact fun _ => Nat.le_of_ble_eq_true rfl | exact within_t _ _ _ | exact (within_t _ _ _).un | exact fun _ => hh
  case zk =>
  exact Aw.ret ⟨_, .cons (.tmp _) .nil, rfl⟩
theorem sum_t (b : Bool) (l : List Int) (hl : (l.length : Int) ≤ 9223372036854775807) (h : ∀ k, k ≤ l.length → inR (l.take k).sum) : Ans Try.prog 59 [.sl b .any (ints l)] (.int l.sum) := by
  refine told Try.func59 rfl rfl (Pure.of tab_ok Try.func59 rfl Try.ntmps59 rfl (all1 (free_ints _ _ _)) (all1 (fun _ => rfl)) (by first | exact .s _ | assumption | exact .tup _ (by intro x hx; simp only [List.mem_cons, List.not_mem_nil, or_false] at hx; rcases hx with rfl | rfl | rfl | rfl <;> first | exact .s _ | (simp_all; done))) fun E hE => ?_)
  refine Aw.sm tab_ok mb0 [] rfl rfl ?zo ?zk
  case zo =>
    repeat' apply AllP.cons
    all_goals first | exact trivial
  case zk =>
  refine Aw.sm tab_ok mb0 [] rfl rfl ?zo ?zk
  case zo =>
    repeat' apply AllP.cons
    all_goals first | exact trivial
  case zk =>
  refine Aw.seq ?_
  refine Aw.sm tab_ok mb0 [] rfl rfl ?zo ?zk
  case zo =>
    repeat' apply AllP.cons
    all_goals first | exact trivial
  case zk =>
  have hlen : (ints l).length = l.length := by simp [ints]
  refine Aw.block (Aw.rounds 0 hE [(6, .sl b .any (ints l)), (7, .int (ints l).length)] (fun k : Nat => [(3, .int (l.take k).sum), (8, .int k)]) (fun _ => []) (fun k => k ≤ l.length) (fun k => l.length - k) 0
    (Nat.zero_le _) ⟨⟨.refl _, .refl _, trivial⟩, ⟨.refl _, .refl _, trivial⟩, trivial, Nat.le_refl _⟩ ⟨(free_ints _ _ _).under, .s _, trivial⟩ (fun _ _ => ⟨.s _, .s _, trivial⟩) (fun _ _ => trivial) fun k hk => ?_)
  refine Aw.sm tab_ok mb0 [] rfl rfl ?zo ?zk
  case zo =>
    repeat' apply AllP.cons
    all_goals first | exact trivial
  case zk =>
  refine Aw.seq (Aw.cond rfl (fun h1 => Aw.skip1 ?_) (fun h1 => Aw.exit2 ?_))
  · have hlt : k < l.length := by have := of_decide_eq_true h1; omega
    have ht : (l.take (k + 1)).sum = (l.take k).sum + l[k] := by rw [List.take_succ_eq_append_getElem hlt, List.sum_append]; simp
    refine Aw.seq (Aw.block ?_)
    refine Aw.sm tab_ok mb0 [(0, [.int l[k]])] rfl rfl ?zo ?zk
    case zo =>
      repeat' apply AllP.cons
      all_goals first | exact trivial | exact rfl | exact Nat.le_of_ble_eq_true rfl | exact Int.natCast_nonneg _ | exact ints_get hlt
    case zk =>
    refine Aw.em tab_ok mb0 [] rfl rfl ?zo ?zk
    case zo =>
      repeat' apply AllP.cons
      all_goals first | exact trivial | exact ht ▸ h (k + 1) hlt
    case zk =>
    refine Aw.em tab_ok mb0 [] rfl rfl ?zo ?zk
    case zo =>
      repeat' apply AllP.cons
      all_goals first | exact trivial | exact (by simp [Ob.of, inR]; omega)
    case zk =>
    exact ⟨k + 1, hlt, by omega, ⟨.refl _, .refl _, trivial⟩, ⟨.of_eq (by rw [ht]; rfl), .refl _, trivial⟩, trivial, Nat.le_refl _⟩
  · have hle : k = l.length := by have := of_decide_eq_false h1; omega
    subst hle
    refine Aw.sm tab_ok mb0 [] rfl rfl ?zo ?zk
    case zo =>
      repeat' apply AllP.cons
      all_goals first | exact trivial
    case zk =>
    exact Aw.ret ⟨_, .cons (.tmp _) .nil, by rw [List.take_length]; rfl⟩
theorem all_take_succ {α : Type} {p : α → Bool} {l : List α} {k : Nat} (h : k < l.length) : (l.take (k + 1)).all p = ((l.take k).all p && p l[k]) := by
  rw [List.take_succ_eq_append_getElem h, List.all_append]; simp
theorem ac1 {a b : Bool} (h : cond a b false = true) : a = true := by cases a <;> simp_all
theorem ac2 {a b : Bool} (h : cond a b false = true) : b = true := by cases a <;> simp_all
theorem inr1 (n : Int) (h : 1 ≤ n ∧ n ≤ 24) : inR (n - 1) := by simp only [inR]; omega
def Day.errA (d : Day) : Int := cond d.ok 0 50
theorem head_hours {d : Day} (h : d.head = true) : 1 ≤ d.hours ∧ d.hours ≤ 24 := by
  simp only [Day.head, c_and, Bool.and_eq_true] at h; exact wi_iff.1 h.1.1.1
theorem check_t (d : Day) (hl1 : (d.heat.length : Int) ≤ 9223372036854775807) (hl2 : (d.lots.length : Int) ≤ 9223372036854775807) (hl3 : (d.wks.length : Int) ≤ 9223372036854775807) : Ans Try.prog 18 [.agg d.c] (.int d.errA) := by
  refine told Try.func18 rfl rfl (Pure.of tab_ok Try.func18 rfl Try.ntmps18 rfl (all1 (.agg _ d.free)) (all1 (fun _ => rfl)) (by first | exact .s _ | assumption | exact .tup _ (by intro x hx; simp only [List.mem_cons, List.not_mem_nil, or_false] at hx; rcases hx with rfl | rfl | rfl | rfl <;> first | exact .s _ | (simp_all; done))) fun E hE => ?_)
  have inr : ∀ k : Nat, (k : Int) ≤ 9223372036854775806 → inR ((k : Int) + 1) := fun k hk => by simp only [inR]; omega
  refine Aw.sm tab_ok mb0 [] rfl rfl ?zo ?zk
  case zo =>
    repeat' apply AllP.cons
    all_goals first | exact trivial
  case zk =>
  refine Aw.sm tab_ok mb0 [(2, [.bool ?a])] rfl rfl ?zo ?zk
  case zo =>
    repeat' apply AllP.cons
    all_goals first | exact trivial | exact id | exact fun _ => rfl | exact Nat.le_of_ble_eq_true rfl | exact fun _ => Nat.le_of_ble_eq_true rfl | exact within_t _ _ _
  case zk =>
  have l1 : ((d.heat.map Spn.c).length : Int) = d.heat.length := by simp
  have l2 : ((d.lots.map Lot.c).length : Int) = d.lots.length := by simp
  have l3 : ((d.wks.map Wk.c).length : Int) = d.wks.length := by simp
  have udc : Under 0 (A.pt d.c) := (Free.pt _ d.free).under
  refine Aw.seq ?_
  refine Aw.sm tab_ok mb0 [] rfl rfl ?zo ?zk
  case zo =>
    repeat' apply AllP.cons
    all_goals first | exact trivial | exact Nat.le_of_ble_eq_true rfl
  case zk =>
  refine Aw.block (Aw.rounds 0 hE [(1, .pt d.c), (34, d.heatA), (35, .int (d.heat.map Spn.c).length)] (fun k : Nat => [(3, .bool (cond d.head ((d.heat.take k).all heatOk) false)), (36, .int k)]) (fun _ => []) (fun k => k ≤ d.heat.length) (fun k => d.heat.length - k) 0
    (Nat.zero_le _) ⟨⟨.refl _, .refl _, .refl _, trivial⟩, ⟨.of_eq (show A.bool (cond d.head ((d.heat.take 0).all heatOk) false) = A.bool d.head by simp [c_and]), .refl _, trivial⟩, trivial, Nat.le_refl _⟩ ⟨udc, (free_map Spn.free _ _ _).under, .s _, trivial⟩ (fun _ _ => ⟨.s _, .s _, trivial⟩) (fun _ _ => trivial) fun k hk => ?_)
  refine Aw.sm tab_ok mb0 [] rfl rfl ?zo ?zk
  case zo =>
    repeat' apply AllP.cons
    all_goals first | exact trivial
  case zk =>
  refine Aw.seq (Aw.cond rfl (fun h1 => Aw.skip1 ?_) (fun h1 => Aw.exit2 ?_))
  · have hlt : k < d.heat.length := by have := of_decide_eq_true h1; omega
    refine Aw.seq (Aw.block ?_)
    refine Aw.sm tab_ok mb0 [(0, d.heat[k].c)] rfl rfl ?zo ?zk
    case zo =>
      repeat' apply AllP.cons
      all_goals first | exact trivial | exact rfl | exact Nat.le_of_ble_eq_true rfl | exact Int.natCast_nonneg _ | exact get_map hlt
    case zk =>
    refine Aw.em tab_ok mb0 [] rfl rfl ?zo ?zk
    case zo =>
      repeat' apply AllP.cons
      all_goals first | exact trivial | exact id | exact fun _ => rfl | exact fun _ => Nat.le_of_ble_eq_true rfl
    case zk =>
    refine Aw.em tab_ok mb0 [] rfl rfl ?zo ?zk
    case zo =>
      repeat' apply AllP.cons
      all_goals first | exact trivial | exact inr k (by omega)
    case zk =>
    exact ⟨k + 1, hlt, by omega, ⟨.refl _, .refl _, .refl _, trivial⟩, ⟨.of_eq (show A.bool (cond d.head ((d.heat.take (k + 1)).all heatOk) false) = A.bool (cond (cond (cond (cond d.head ((d.heat.take k).all heatOk) false) (decide (0 ≤ d.heat[k].lo)) false) (decide (d.heat[k].lo ≤ d.heat[k].hi)) false) (decide (d.heat[k].hi ≤ 100)) false) by rw [all_take_succ hlt]; simp only [heatOk, c_and, Bool.and_assoc]), .refl _, trivial⟩, trivial, Nat.zero_le _⟩
  have hle : k = d.heat.length := by have := of_decide_eq_false h1; omega
  subst hle
  rw [List.take_length]
  generalize hb1 : cond d.head (d.heat.all heatOk) false = b1
  have hb1h : b1 = true → 1 ≤ d.hours ∧ d.hours ≤ 24 := fun h => head_hours (by rw [← hb1, c_and, Bool.and_eq_true] at h; exact h.1)
  refine Aw.seq ?_
  refine Aw.sm tab_ok mb0 [] rfl rfl ?zo ?zk
  case zo =>
    repeat' apply AllP.cons
    all_goals first | exact trivial | exact Nat.le_of_ble_eq_true rfl
  case zk =>
  refine Aw.block (Aw.rounds 0 hE [(1, .pt d.c), (60, d.lotsA), (61, .int (d.lots.map Lot.c).length)] (fun k : Nat => [(3, .bool (cond b1 ((d.lots.take k).all (lotOk d.hours)) false)), (62, .int k)]) (fun _ => []) (fun k => k ≤ d.lots.length) (fun k => d.lots.length - k) 0
    (Nat.zero_le _) ⟨⟨.refl _, .refl _, .refl _, trivial⟩, ⟨.of_eq (show A.bool (cond b1 ((d.lots.take 0).all (lotOk d.hours)) false) = A.bool b1 by simp [c_and]), .refl _, trivial⟩, trivial, Nat.zero_le _⟩ ⟨udc, (free_map Lot.free _ _ _).under, .s _, trivial⟩ (fun _ _ => ⟨.s _, .s _, trivial⟩) (fun _ _ => trivial) fun k hk => ?_)
  refine Aw.sm tab_ok mb0 [] rfl rfl ?zo ?zk
  case zo =>
    repeat' apply AllP.cons
    all_goals first | exact trivial
  case zk =>
  refine Aw.seq (Aw.cond rfl (fun h1 => Aw.skip1 ?_) (fun h1 => Aw.exit2 ?_))
  · have hlt : k < d.lots.length := by have := of_decide_eq_true h1; omega
    refine Aw.seq (Aw.block ?_)
    refine Aw.sm tab_ok mb0 [(0, d.lots[k].c)] rfl rfl ?zo ?zk
    case zo =>
      repeat' apply AllP.cons
      all_goals first | exact trivial | exact rfl | exact Nat.le_of_ble_eq_true rfl | exact Int.natCast_nonneg _ | exact get_map hlt
    case zk =>
    refine Aw.em tab_ok mb0 [(4, [.bool (wi d.lots[k].crans 1 50)]), (12, [.bool (wi d.lots[k].landed 0 (d.hours - 1))]), (17, [.bool (wi d.lots[k].keep 0 10000)]), (22, [.bool (wi d.lots[k].fit 0 7)])] rfl rfl ?zo ?zk
    case zo =>
      repeat' apply AllP.cons
      all_goals first | exact trivial | exact id | exact fun _ => rfl | exact fun _ => Nat.le_of_ble_eq_true rfl | exact (within_t _ _ _).un | exact fun h => inr1 _ (hb1h (ac1 (ac1 h)))
    case zk =>
    refine Aw.em tab_ok mb0 [] rfl rfl ?zo ?zk
    case zo =>
      repeat' apply AllP.cons
      all_goals first | exact trivial | exact inr k (by omega)
    case zk =>
    exact ⟨k + 1, hlt, by omega, ⟨.refl _, .refl _, .refl _, trivial⟩, ⟨.of_eq (show A.bool (cond b1 ((d.lots.take (k + 1)).all (lotOk d.hours)) false) = A.bool (cond (cond (cond (cond (cond b1 ((d.lots.take k).all (lotOk d.hours)) false) (wi d.lots[k].crans 1 50) false) (wi d.lots[k].landed 0 (d.hours - 1)) false) (wi d.lots[k].keep 0 10000) false) (wi d.lots[k].fit 0 7) false) by rw [all_take_succ hlt]; simp only [lotOk, c_and, Bool.and_assoc]), .refl _, trivial⟩, trivial, Nat.zero_le _⟩
  have hle : k = d.lots.length := by have := of_decide_eq_false h1; omega
  subst hle
  rw [List.take_length]
  generalize hb2 : cond b1 (d.lots.all (lotOk d.hours)) false = b2
  have hb2h : b2 = true → 1 ≤ d.hours ∧ d.hours ≤ 24 := fun h => hb1h (by rw [← hb2, c_and, Bool.and_eq_true] at h; exact h.1)
  refine Aw.seq ?_
  refine Aw.sm tab_ok mb0 [] rfl rfl ?zo ?zk
  case zo =>
    repeat' apply AllP.cons
    all_goals first | exact trivial | exact Nat.le_of_ble_eq_true rfl
  case zk =>
  refine Aw.block (Aw.rounds 0 hE [(1, .pt d.c), (92, d.wksA), (93, .int (d.wks.map Wk.c).length)] (fun k : Nat => [(3, .bool (cond b2 ((d.wks.take k).all fun w => isWorker w d.hours) false)), (94, .int k)]) (fun _ => []) (fun k => k ≤ d.wks.length) (fun k => d.wks.length - k) 0
    (Nat.zero_le _) ⟨⟨.refl _, .refl _, .refl _, trivial⟩, ⟨.of_eq (show A.bool (cond b2 ((d.wks.take 0).all fun w => isWorker w d.hours) false) = A.bool b2 by simp [c_and]), .refl _, trivial⟩, trivial, Nat.zero_le _⟩ ⟨udc, (free_map Wk.free _ _ _).under, .s _, trivial⟩ (fun _ _ => ⟨.s _, .s _, trivial⟩) (fun _ _ => trivial) fun k hk => ?_)
  refine Aw.sm tab_ok mb0 [] rfl rfl ?zo ?zk
  case zo =>
    repeat' apply AllP.cons
    all_goals first | exact trivial
  case zk =>
  refine Aw.seq (Aw.cond rfl (fun h1 => Aw.skip1 ?_) (fun h1 => Aw.exit2 ?_))
  · have hlt : k < d.wks.length := by have := of_decide_eq_true h1; omega
    refine Aw.seq (Aw.block ?_)
    refine Aw.sm tab_ok mb0 [(0, d.wks[k].c)] rfl rfl ?zo ?zk
    case zo =>
      repeat' apply AllP.cons
      all_goals first | exact trivial | exact rfl | exact Nat.le_of_ble_eq_true rfl | exact Int.natCast_nonneg _ | exact get_map hlt
    case zk =>
    refine Aw.em tab_ok mb0 [(5, [.bool (isWorker d.wks[k] d.hours)])] rfl rfl ?zo ?zk
    case zo =>
      repeat' apply AllP.cons
      all_goals first | exact trivial | exact id | exact fun _ => rfl | exact fun _ => Nat.le_of_ble_eq_true rfl | exact fun h => isWorker_t _ _ (inr1 _ (hb2h (ac1 h)))
    case zk =>
    refine Aw.em tab_ok mb0 [] rfl rfl ?zo ?zk
    case zo =>
      repeat' apply AllP.cons
      all_goals first | exact trivial | exact inr k (by omega)
    case zk =>
    exact ⟨k + 1, hlt, by omega, ⟨.refl _, .refl _, .refl _, trivial⟩, ⟨.of_eq (show A.bool (cond b2 ((d.wks.take (k + 1)).all fun w => isWorker w d.hours) false) = A.bool (cond (cond b2 ((d.wks.take k).all fun w => isWorker w d.hours) false) (isWorker d.wks[k] d.hours) false) by rw [all_take_succ hlt]; simp only [c_and, Bool.and_assoc]), .refl _, trivial⟩, trivial, Nat.zero_le _⟩
  have hle : k = d.wks.length := by have := of_decide_eq_false h1; omega
  subst hle
  rw [List.take_length]
  have hok : cond b2 (d.wks.all fun w => isWorker w d.hours) false = d.ok := by rw [← hb2, ← hb1]; rfl
  rw [hok]
  refine Aw.seq ?_
  refine Aw.sm tab_ok mb0 [] rfl rfl ?zo ?zk
  case zo =>
    repeat' apply AllP.cons
    all_goals first | exact trivial
  case zk =>
  refine Aw.cond rfl (fun h1 => ?_) (fun h1 => Aw.skip ?_)
  · refine Aw.sm tab_ok mb0 [] rfl rfl ?zo ?zk
    case zo =>
      repeat' apply AllP.cons
      all_goals first | exact trivial
    case zk =>
    refine Aw.ret ⟨_, .cons (.tmp _) .nil, ?_⟩
    simp only [Bool.not_eq_true'] at h1
    simp only [Day.errA, h1]; rfl
  · refine Aw.sm tab_ok mb0 [] rfl rfl ?zo ?zk
    case zo =>
      repeat' apply AllP.cons
      all_goals first | exact trivial
    case zk =>
    refine Aw.ret ⟨_, .cons (.tmp _) .nil, ?_⟩
    simp only [Bool.not_eq_false'] at h1
    simp only [Day.errA, h1]; rfl
theorem can_t (d : CDay) (lot w h u : Int) (l : Lot) (k : Wk) (h0 : 0 ≤ lot) (hl : d.g.lots[lot.toNat]? = some l) (h1 : 0 ≤ w) (hw : d.g.wks[w.toNat]? = some k) (hu : d.u[lot.toNat]? = some u) (h8 : d.u.length = 8) (hk : 0 ≤ k.kind) :
    Ans Try.prog 57 [.agg d.c, .int lot, .agg [.int w, .int h]] (.bool (canF l k h u)) := by
  refine told Try.func57 rfl rfl (Pure.of tab_ok Try.func57 rfl Try.ntmps57 rfl (allC (.agg _ d.free) (allC (.s _) (all1 (.agg _ (allC (.s _) (all1 (.s _))))))) (allC (fun _ => rfl) (allC (fun _ => rfl) (all1 (fun _ => rfl)))) (by first | exact .s _ | assumption | exact .tup _ (by intro x hx; simp only [List.mem_cons, List.not_mem_nil, or_false] at hx; rcases hx with rfl | rfl | rfl | rfl <;> first | exact .s _ | (simp_all; done))) fun E hE => ?_)
  refine Aw.sm tab_ok mb0 [] rfl rfl ?zo ?zk
  case zo =>
    repeat' apply AllP.cons
    all_goals first | exact trivial
  case zk =>
  have e1 : (d.g.lots.map Lot.c)[lot.toNat]? = some l.c := by simp [hl]
  have e2 : (d.g.wks.map Wk.c)[w.toNat]? = some k.c := by simp [hw]
  have hlt : lot.toNat < d.u.length := (List.getElem?_eq_some_iff.1 hu).1
  refine Aw.sd tab_ok mixed mb0 [(4, l.c), (11, k.c)] rfl (by kernel_rfl) rfl rfl ?zo ?zk
  case zo =>
    repeat' apply AllP.cons
    all_goals first | exact trivial | exact rfl | exact Nat.le_of_ble_eq_true rfl | exact h0 | exact h1 | exact e1 | exact e2
  case zk =>
  have q1 : ((List.drop (lot.toNat * 1) (d.u.map A.int)).getD 0 .un).down = A.int u := by
    rw [Nat.mul_one, List.getD_eq_getElem?_getD, List.getElem?_drop, Nat.add_zero, List.getElem?_map, hu]; rfl
  have q2 : 0 < (List.drop (lot.toNat * 1) (d.u.map A.int)).length := by simp; omega
  have q3 : lot < (8 : Nat) := by omega
  refine Aw.sd tab_ok mixed mb0 [(14, [.bool ?a]), (24, [.int u]), (25, [.bool ?b])] rfl (by kernel_rfl) rfl rfl ?zo ?zk
  case zo =>
    repeat' apply AllP.cons
    all_goals first | exact trivial | exact id | exact fun _ => rfl | exact Nat.le_of_ble_eq_true rfl | exact fun _ => Nat.le_of_ble_eq_true rfl | exact (within_t _ _ _).un | exact hk | exact fun _ => h0 | exact fun _ => q1 | exact fun _ => q2 | exact fun _ => q3
  case zk =>
  exact Aw.ret ⟨_, .cons (.tmp _) .nil, rfl⟩
end Go.Proofs.Ytimikmfkdaoaaaa
namespace Go.Proofs.Ytimikmfkdaoaaaa
open Go Go.AL
theorem surely1_t (s : Spn) : Ans Try.prog 69 [.agg s.c] (.int s.hi) := by
  refine told Try.func69 rfl rfl (Pure.of tab_ok Try.func69 rfl Try.ntmps69 rfl (all1 (.agg _ s.free)) (all1 (fun _ => rfl)) (by first | exact .s _ | assumption | exact .tup _ (by intro x hx; simp only [List.mem_cons, List.not_mem_nil, or_false] at hx; rcases hx with rfl | rfl | rfl | rfl <;> first | exact .s _ | (simp_all; done))) fun E hE => ?_)
  refine Aw.sm tab_ok mb0 [] rfl rfl ?zo ?zk
  case zo =>
    repeat' apply AllP.cons
    all_goals first | exact trivial
  case zk =>
  refine Aw.sm tab_ok mb0 [] rfl rfl ?zo ?zk
  case zo =>
    repeat' apply AllP.cons
    all_goals first | exact trivial | exact Nat.le_of_ble_eq_true rfl
  case zk =>
  exact Aw.ret ⟨_, .cons (.tmp _) .nil, rfl⟩
theorem best1_t (s : Spn) : Ans Try.prog 70 [.agg s.c] (.int s.lo) := by
  refine told Try.func70 rfl rfl (Pure.of tab_ok Try.func70 rfl Try.ntmps70 rfl (all1 (.agg _ s.free)) (all1 (fun _ => rfl)) (by first | exact .s _ | assumption | exact .tup _ (by intro x hx; simp only [List.mem_cons, List.not_mem_nil, or_false] at hx; rcases hx with rfl | rfl | rfl | rfl <;> first | exact .s _ | (simp_all; done))) fun E hE => ?_)
  refine Aw.sm tab_ok mb0 [] rfl rfl ?zo ?zk
  case zo =>
    repeat' apply AllP.cons
    all_goals first | exact trivial
  case zk =>
  refine Aw.sm tab_ok mb0 [] rfl rfl ?zo ?zk
  case zo =>
    repeat' apply AllP.cons
    all_goals first | exact trivial | exact Nat.le_of_ble_eq_true rfl
  case zk =>
  exact Aw.ret ⟨_, .cons (.tmp _) .nil, rfl⟩
def endC (f : Nat) : List A := [.fn (.func f) [] []]
theorem endC_free (f : Nat) : ∀ x ∈ endC f, Free x := all1 (.fn _ _ _ allN allN)
theorem surely_t : Ans Try.prog 51 [] (.agg (endC 69)) := by
  have hfr : Free (.agg (endC 69)) := .agg _ (endC_free 69)
  refine told Try.func51 rfl rfl (Pure.of tab_ok Try.func51 rfl Try.ntmps51 rfl allN allN (by first | exact .s _ | assumption | exact .tup _ (by intro x hx; simp only [List.mem_cons, List.not_mem_nil, or_false] at hx; rcases hx with rfl | rfl | rfl | rfl <;> first | exact .s _ | (simp_all; done))) fun E hE => ?_)
  refine Aw.sm tab_ok mb0 [] rfl rfl ?zo ?zk
  case zo =>
    repeat' apply AllP.cons
    all_goals first | exact trivial
  case zk =>
  refine Aw.sm tab_ok mb0 [] rfl rfl ?zo ?zk
  case zo =>
    repeat' apply AllP.cons
    all_goals first | exact trivial | exact rfl | exact Nat.le_of_ble_eq_true rfl
  case zk =>
  exact Aw.ret ⟨_, .cons (resC rfl rfl rfl rfl rfl) .nil, rfl⟩
theorem bestE_t : Ans Try.prog 52 [] (.agg (endC 70)) := by
  have hfr : Free (.agg (endC 70)) := .agg _ (endC_free 70)
  refine told Try.func52 rfl rfl (Pure.of tab_ok Try.func52 rfl Try.ntmps52 rfl allN allN (by first | exact .s _ | assumption | exact .tup _ (by intro x hx; simp only [List.mem_cons, List.not_mem_nil, or_false] at hx; rcases hx with rfl | rfl | rfl | rfl <;> first | exact .s _ | (simp_all; done))) fun E hE => ?_)
  refine Aw.sm tab_ok mb0 [] rfl rfl ?zo ?zk
  case zo =>
    repeat' apply AllP.cons
    all_goals first | exact trivial
  case zk =>
  refine Aw.sm tab_ok mb0 [] rfl rfl ?zo ?zk
  case zo =>
    repeat' apply AllP.cons
    all_goals first | exact trivial | exact rfl | exact Nat.le_of_ble_eq_true rfl
  case zk =>
  exact Aw.ret ⟨_, .cons (resC rfl rfl rfl rfl rfl) .nil, rfl⟩
theorem map_down_int (l : List Int) : (l.map A.int).map A.down = l.map A.int := by rw [List.map_map]; rfl
def heatF (d : Day) (f : Spn → Int) (k : Nat) : Int := f (d.heat.getD k ⟨0, 0⟩)
structure EndOk (g : Nat) (f : Spn → Int) : Prop where
  call : ∀ s : Spn, Ans Try.prog g [.agg s.c] (.int (f s))
  low : ∀ s : Spn, heatOk s = true → 0 ≤ f s ∧ f s ≤ 100
theorem surely_ok : EndOk 69 Spn.hi := ⟨surely1_t, fun s h => by
  simp only [heatOk, c_and, Bool.and_eq_true, decide_eq_true_eq] at h; omega⟩
theorem best_ok : EndOk 70 Spn.lo := ⟨best1_t, fun s h => by
  simp only [heatOk, c_and, Bool.and_eq_true, decide_eq_true_eq] at h; omega⟩
structure DayOk (d : Day) : Prop where
  hours : 1 ≤ d.hours ∧ d.hours ≤ 24
  heat : (d.heat.length : Int) = d.hours
  nl : d.lots.length ≤ 8
  nw : d.wks.length ≤ 7
  heats : ∀ s ∈ d.heat, heatOk s = true
  lots : ∀ l ∈ d.lots, lotOk d.hours l = true
  wks : ∀ w ∈ d.wks, isWorker w d.hours = true
theorem DayOk.of {d : Day} (h : d.ok = true) : DayOk d := by
  have h1 := ac2 h
  have h2 := ac2 (ac1 h)
  have h3 := ac2 (ac1 (ac1 h))
  have h4 := ac1 (ac1 (ac1 h))
  have g1 := ac2 h4
  have g2 := ac2 (ac1 h4)
  have g3 := ac2 (ac1 (ac1 h4))
  have g4 := ac1 (ac1 (ac1 h4))
  simp only [List.length_map, decide_eq_true_eq, beq_iff_eq] at g1 g2 g3
  exact ⟨wi_iff.1 g4, g3, by omega, by omega, List.all_eq_true.1 h3, List.all_eq_true.1 h2, List.all_eq_true.1 h1⟩
theorem lotOk_iff {n : Int} {l : Lot} (h : lotOk n l = true) : (1 ≤ l.crans ∧ l.crans ≤ 50) ∧ (0 ≤ l.landed ∧ l.landed ≤ n - 1) ∧ (0 ≤ l.keep ∧ l.keep ≤ 10000) ∧ (0 ≤ l.fit ∧ l.fit ≤ 7) :=
  ⟨wi_iff.1 (ac1 (ac1 (ac1 h))), wi_iff.1 (ac2 (ac1 (ac1 h))), wi_iff.1 (ac2 (ac1 h)), wi_iff.1 (ac2 h)⟩
theorem wkOk_iff {n : Int} {w : Wk} (h : isWorker w n = true) : (0 ≤ w.kind ∧ w.kind ≤ 2) ∧ (0 ≤ w.fr ∧ w.fr ≤ w.to) ∧ (0 ≤ w.to ∧ w.to ≤ n - 1) ∧ (0 ≤ w.rate ∧ w.rate ≤ 20) :=
  ⟨wi_iff.1 (ac1 (ac1 (ac1 h))), wi_iff.1 (ac2 (ac1 (ac1 h))), wi_iff.1 (ac2 (ac1 h)), wi_iff.1 (ac2 h)⟩
theorem zr_free : ∀ y ∈ tab.zr 81, Free y := allC (.s _) (allC (.sl _ _ _ (fun _ h => by cases h)) (allC (.sl _ _ _ (fun _ h => by cases h)) (allC (.sl _ _ _ (fun _ h => by cases h)) (allC (.s _) (allC (.s _) (allC (.s _) (allC (.s _) (allC (.s _) (allC (.s _) (allC (.s _) (all1 (.s _))))))))))))
theorem openU_len (d : Day) (f : Spn → Int) (k : Nat) (h : d.lots.length ≤ 8) (hk : k ≤ d.lots.length) : (openU d f k).length = 8 := by
  simp [openU]; omega
def openX (d : Day) (f : Spn → Int) (k : Nat) (x : Int) : List Int := (d.lots.take k).map (untilF d f) ++ x :: List.replicate (7 - k) 0
theorem openX_set {d : Day} {f : Spn → Int} {k : Nat} {x y : Int} (hk : k < d.lots.length) : (openX d f k x).set k y = openX d f k y := by
  unfold openX
  rw [List.set_append_right _ _ (by simp; omega)]
  simp [show min k d.lots.length = k by omega]
theorem openU_set {d : Day} {f : Spn → Int} {k : Nat} {y : Int} (h : d.lots.length ≤ 8) (hk : k < d.lots.length) : (openU d f k).set k y = openX d f k y := by
  unfold openX openU
  rw [List.set_append_right _ _ (by simp; omega)]
  rw [show 8 - k = (7 - k) + 1 by omega, List.replicate_succ]
  simp [show min k d.lots.length = k by omega]
theorem openX_done {d : Day} {f : Spn → Int} {k : Nat} (h : d.lots.length ≤ 8) (hk : k < d.lots.length) : openX d f k (untilF d f d.lots[k]) = openU d f (k + 1) := by
  unfold openX openU
  rw [List.take_succ_eq_append_getElem hk, List.map_append, List.append_assoc, show 8 - (k + 1) = 7 - k by omega]
  rfl
theorem openX_len {d : Day} {f : Spn → Int} {k : Nat} {x : Int} (h : d.lots.length ≤ 8) (hk : k < d.lots.length) : (openX d f k x).length = 8 := by
  simp [openX]; omega
theorem day_store {d : Day} {us : List Int} {i : Nat} {v : Int} (h : i < us.length) : setSeg (d.c ++ us.map A.int) (0 + 4 + i * 1) [A.int v] = d.c ++ (us.set i v).map A.int := by
  have e : (0 + 4 + i * 1) = d.c.length + i := by show _ = 4 + i; omega
  rw [e, setSeg_app (by simpa using h), List.map_set]
theorem setSeg_all {cs vs : List A} (h : vs.length = cs.length) : setSeg cs 0 vs = vs := by
  unfold setSeg; rw [List.take_zero, Nat.zero_add, h, List.drop_length]; simp
theorem CDay.down (d : CDay) : d.c.map A.down = d.c := by unfold CDay.c; rw [List.map_append, map_down_int]; rfl
theorem CDay.len {d : CDay} (h : d.u.length = 8) : d.c.length = 12 := by simp [CDay.c, Day.c, h]
theorem opened_len {d : Day} {f : Spn → Int} (h : d.lots.length ≤ 8) : (opened d f).c.length = 12 := CDay.len (openU_len d f _ h (Nat.le_refl _))
theorem opened_t (d : Day) (g : Nat) (f : Spn → Int) (hg : EndOk g f) (hd : DayOk d) : Ans Try.prog 50 [.agg d.c, .agg (endC g)] (.agg (opened d f).c) := by
  have hfr : Free (.agg (opened d f).c) := .agg _ (opened d f).free
  refine told Try.func50 rfl rfl (Pure.of tab_ok Try.func50 rfl Try.ntmps50 rfl (allC (.agg _ d.free) (all1 (.agg _ (endC_free g)))) (allC (fun _ => rfl) (all1 (fun _ => rfl))) (by first | exact .s _ | assumption | exact .tup _ (by intro x hx; simp only [List.mem_cons, List.not_mem_nil, or_false] at hx; rcases hx with rfl | rfl | rfl | rfl <;> first | exact .s _ | (simp_all; done))) fun E hE => ?_)
  refine Aw.sm tab_ok mb0 [] rfl rfl ?zo ?zk
  case zo =>
    repeat' apply AllP.cons
    all_goals first | exact trivial
  case zk =>
  refine Aw.sm tab_ok mb0 [] rfl rfl ?zo ?zk
  case zo =>
    repeat' apply AllP.cons
    all_goals first | exact trivial | exact rfl | exact Nat.le_of_ble_eq_true rfl
  case zk =>
  refine Aw.seq ?_
  refine Aw.sm tab_ok mb0 [] rfl rfl ?zo ?zk
  case zo =>
    repeat' apply AllP.cons
    all_goals first | exact trivial | exact Nat.le_of_ble_eq_true rfl
  case zk =>
  have udc : Under 2 (A.pt d.c) := (Free.pt _ d.free).under
  have uec : Under 2 (A.pt (endC g)) := (Free.pt _ (endC_free g)).under
  have ulots : Under 2 d.lotsA := (free_map Lot.free _ _ _).under
  have h2 : ∀ id, 2 ≤ id → E.φ0 id = none := fun id _ => hE id (Nat.zero_le _)
  have ucd : ∀ us : List Int, UnderB 2 (.cells (d.c ++ us.map A.int)) := fun us => .cells _ fun x hx => (CDay.free ⟨d, us⟩ x hx).under
  have uz : UnderB 2 (.cells (tab.zr 81)) := .cells _ fun x hx => (zr_free x hx).under
  refine Aw.block (Aw.rounds 2 h2 [(2, .pt d.c), (3, .pt (endC g)), (4, .ref 0 0), (5, .ref 1 0), (13, d.lotsA), (14, .int (d.lots.map Lot.c).length)] (fun k : Nat => [(15, .int k)])
    (fun k => [(0, .cells (tab.zr 81)), (1, .cells (d.c ++ (openU d f k).map A.int))]) (fun k => k ≤ d.lots.length) (fun k => d.lots.length - k) 0
    (Nat.zero_le _) ⟨⟨.refl _, .refl _, .refl _, .refl _, .refl _, .refl _, trivial⟩, ⟨.refl _, trivial⟩, ⟨rfl, rfl, trivial⟩, Nat.le_refl _⟩
    ⟨udc, uec, .ref _ _ (by decide), .ref _ _ (by decide), ulots, .s _, trivial⟩ (fun _ _ => ⟨.s _, trivial⟩) (fun k _ => ⟨⟨by decide, uz⟩, ⟨by decide, ucd _⟩, trivial⟩) fun k hk => ?_)
  refine Aw.sm tab_ok mb0 [] rfl rfl ?zo ?zk
  case zo =>
    repeat' apply AllP.cons
    all_goals first | exact trivial
  case zk =>
  have ll : ((d.lots.map Lot.c).length : Int) = d.lots.length := by simp
  have hh := hd.hours
  have nl := hd.nl
  have hhl := hd.heat
  refine Aw.seq (Aw.cond rfl (fun h1 => Aw.skip1 ?_) (fun h1 => Aw.exit2 ?_))
  · have hlt : k < d.lots.length := by have := of_decide_eq_true h1; omega
    generalize hlk : d.lots[k] = l
    have lok := lotOk_iff (hd.lots d.lots[k] (List.getElem_mem hlt))
    rw [hlk] at lok
    refine Aw.seq (Aw.block ?_)
    refine Aw.sm tab_ok mb0 [(1, l.c)] rfl rfl ?zo ?zk
    case zo =>
      repeat' apply AllP.cons
      all_goals first | exact trivial | exact rfl | exact Nat.le_of_ble_eq_true rfl | exact Int.natCast_nonneg _ | exact (get_map hlt).trans (by rw [hlk])
    case zk =>
    refine Aw.scope ?_
    refine Aw.sm tab_ok mb0 [] rfl rfl ?zo ?zk
    case zo =>
      repeat' apply AllP.cons
      all_goals first | exact trivial | exact Nat.le_of_ble_eq_true rfl
    case zk =>
    have hus : k < (openU d f k).length := by rw [openU_len d f k hd.nl hk]; have := hd.nl; omega
    have sz : (d.c ++ (openU d f k).map A.int).length = 12 := by simp [Day.c, openU_len d f k hd.nl hk]
    refine Aw.sm tab_ok mb0 [] rfl rfl ?zo ?zk
    case zo =>
      repeat' apply AllP.cons
      all_goals first | exact trivial | exact rfl | exact Nat.le_of_ble_eq_true rfl | exact Int.natCast_nonneg _ | exact (by simp only [Ob.of, inR]; omega) | exact (show 0 + 4 + (Int.toNat (k : Int)) * 1 + 1 ≤ (d.c ++ (openU d f k).map A.int).length by rw [sz]; have := hd.nl; omega)
    case zk =>
    refine Aw.seq (Aw.label ?_)
    have hst : setSeg (d.c ++ (openU d f k).map A.int) (0 + 4 + (Int.toNat (k : Int)) * 1) [A.int (l.landed - 1)] = d.c ++ (openX d f k (l.landed - 1)).map A.int := by
      rw [Int.toNat_natCast, day_store hus, openU_set nl hlt]
    have uheat : Under 3 d.heatA := (free_map Spn.free _ _ _).under
    have ulot : UnderB 3 (.cells l.c) := .cells _ fun x hx => (l.free x hx).under
    have ucd3 : ∀ us : List Int, UnderB 3 (.cells (d.c ++ us.map A.int)) := fun us => .cells _ fun x hx => (CDay.free ⟨d, us⟩ x hx).under
    have uz3 : UnderB 3 (.cells (tab.zr 81)) := .cells _ fun x hx => (zr_free x hx).under
    have hrun : ∀ u, untilF d f l = u → u = untilF d f l := fun u h => h.symm
    refine Aw.sm tab_ok mb0 [] rfl rfl ?zo ?zk
    case zo =>
      repeat' apply AllP.cons
      all_goals first | exact trivial | exact Nat.le_of_ble_eq_true rfl
    case zk =>
    refine Aw.block (Aw.rounds (ι := Nat × Int × Int) 3 (fun id _ => hE id (Nat.zero_le _)) [(2, .pt d.c), (3, .pt (endC g)), (4, .ref 0 0), (5, .ref 1 0), (6, .int k), (7, .ref 2 0), (13, d.lotsA), (14, .int (d.lots.map Lot.c).length), (15, .int k), (29, .int d.hours)]
      (fun i => [(8, .int i.2.1), (30, .int i.1)]) (fun i => [(0, .cells (tab.zr 81)), (1, .cells (d.c ++ (openX d f k i.2.2).map A.int)), (2, .cells l.c)])
      (fun i => (i.1 : Int) ≤ d.hours ∧ (0 ≤ i.2.1 ∧ i.2.1 ≤ 10000) ∧ runU (heatF d f) l.landed (d.hours.toNat - i.1) i.1 i.2.1 i.2.2 = untilF d f l) (fun i => d.hours.toNat - i.1) (0, l.keep, l.landed - 1)
      ⟨by show (0 : Int) ≤ _; omega, lok.2.2.1, rfl⟩ ⟨⟨.refl _, .refl _, .refl _, .refl _, .refl _, .refl _, .refl _, .refl _, .refl _, .refl _, trivial⟩, ⟨.refl _, .refl _, trivial⟩, ⟨rfl, congrArg (fun x => some (B.cells x)) hst, rfl, trivial⟩, Nat.le_refl _⟩
      ⟨udc.mono (by decide), uec.mono (by decide), .ref _ _ (by decide), .ref _ _ (by decide), .s _, .ref _ _ (by decide), ulots.mono (by decide), .s _, .s _, .s _, trivial⟩ (fun _ _ => ⟨.s _, .s _, trivial⟩)
      (fun i _ => ⟨⟨by decide, uz3⟩, ⟨by decide, ucd3 _⟩, ⟨by decide, ulot⟩, trivial⟩) ?_)
    rintro ⟨h, n, u⟩ ⟨hG1, hG2, hG3⟩
    simp only at hG1 hG2 hG3
    refine Aw.sm tab_ok mb0 [] rfl rfl ?zo ?zk
    case zo =>
      repeat' apply AllP.cons
      all_goals first | exact trivial
    case zk =>
    refine Aw.seq (Aw.cond rfl (fun h2 => Aw.skip1 ?_) (fun h2 => Aw.exit2 ?_))
    · have hlt2 : (h : Int) < d.hours := of_decide_eq_true h2
      have hfuel : d.hours.toNat - h = (d.hours.toNat - (h + 1)) + 1 := by omega
      rw [hfuel, runU] at hG3
      refine Aw.seq (Aw.block ?_)
      refine Aw.sm tab_ok mb0 [] rfl rfl ?zo ?zk
      case zo =>
        repeat' apply AllP.cons
        all_goals first | exact trivial
      case zk =>
      refine Aw.seq ?_
      refine Aw.sm tab_ok mb0 [] rfl rfl ?zo ?zk
      case zo =>
        repeat' apply AllP.cons
        all_goals first | exact trivial | exact Nat.le_of_ble_eq_true rfl
      case zk =>
      refine Aw.cond rfl (fun h3 => Aw.exit (thenE (blkE ?_))) (fun h3 => Aw.skip ?_)
      · have h3' : (h : Int) < l.landed := of_decide_eq_true h3
        rw [if_pos h3'] at hG3
        refine Aw.em tab_ok mb0 [] rfl rfl ?zo ?zk
        case zo =>
          repeat' apply AllP.cons
          all_goals first | exact trivial | exact (by simp only [Ob.of, inR]; omega)
        case zk =>
        exact ⟨(h + 1, n, u), ⟨by show ((h + 1 : Nat) : Int) ≤ _; omega, hG2, hG3⟩, by show d.hours.toNat - (h + 1) < d.hours.toNat - h; omega, ⟨.refl _, .refl _, .refl _, .refl _, .refl _, .refl _, .refl _, .refl _, .refl _, .refl _, trivial⟩, ⟨.refl _, .refl _, trivial⟩, ⟨rfl, rfl, rfl, trivial⟩, Nat.le_refl _⟩
      · have h3' : ¬ (h : Int) < l.landed := of_decide_eq_false h3
        rw [if_neg h3'] at hG3
        have hh2 : h < d.heat.length := by omega
        have hf : heatF d f h = f d.heat[h] := by simp [heatF, List.getD_eq_getElem?_getD, hh2]
        have hfb := hg.low d.heat[h] (hd.heats _ (List.getElem_mem hh2))
        rw [hf] at hG3
        refine Aw.seq ?_
        refine Aw.sd tab_ok mixed mb0 [(6, d.heat[h].c), (8, [.int (f d.heat[h])])] rfl (by kernel_rfl) rfl rfl ?zo ?zk
        case zo =>
          repeat' apply AllP.cons
          all_goals first | exact trivial | exact rfl | exact Nat.le_of_ble_eq_true rfl | exact Int.natCast_nonneg _ | exact get_map hh2 | exact hg.call _ | exact (by simp only [Ob.of, inR]; omega)
        case zk =>
        refine Aw.sm tab_ok mb0 [] rfl rfl ?zo ?zk
        case zo =>
          repeat' apply AllP.cons
          all_goals first | exact trivial
        case zk =>
        refine Aw.cond rfl (fun h4 => Aw.exit (thenE (blkN rfl (thenE (thenE (blkE ?_)))))) (fun h4 => Aw.skip ?_)
        · have h4' : n - f d.heat[h] < 0 := of_decide_eq_true h4
          rw [if_pos h4'] at hG3
          subst hG3
          refine Aw.em tab_ok mb0 [] rfl rfl ?zo ?zk
          case zo =>
            repeat' apply AllP.cons
            all_goals first | exact trivial | exact (by simp only [Ob.of, inR]; omega)
          case zk =>
          exact ⟨k + 1, hlt, by omega, ⟨.refl _, .refl _, .refl _, .refl _, .refl _, .refl _, trivial⟩, ⟨.refl _, trivial⟩, ⟨rfl, congrArg (fun x => some (B.cells (d.c ++ List.map A.int x))) (by rw [← hlk, openX_done nl hlt]), trivial⟩, Nat.le_of_ble_eq_true rfl⟩
        · have h4' : ¬ n - f d.heat[h] < 0 := of_decide_eq_false h4
          rw [if_neg h4'] at hG3
          have hxs : k < (openX d f k u).length := by rw [openX_len nl hlt]; omega
          have sz2 : (d.c ++ (openX d f k u).map A.int).length = 12 := by simp [Day.c, openX_len nl hlt]
          have hst2 : setSeg (d.c ++ (openX d f k u).map A.int) (0 + 4 + (Int.toNat (k : Int)) * 1) [A.int h] = d.c ++ (openX d f k h).map A.int := by
            rw [Int.toNat_natCast, day_store hxs, openX_set hlt]
          refine Aw.em tab_ok mb0 [] rfl rfl ?zo ?zk
          case zo =>
            repeat' apply AllP.cons
            all_goals first | exact trivial | exact rfl | exact Int.natCast_nonneg _ | exact (by simp only [Ob.of]; omega) | exact (show 0 + 4 + (Int.toNat (k : Int)) * 1 + 1 ≤ (d.c ++ (openX d f k u).map A.int).length by rw [sz2]; omega)
          case zk =>
          refine Aw.em tab_ok mb0 [] rfl rfl ?zo ?zk
          case zo =>
            repeat' apply AllP.cons
            all_goals first | exact trivial | exact (by simp only [Ob.of, inR]; omega)
          case zk =>
          exact ⟨(h + 1, n - f d.heat[h], (h : Int)), ⟨by show ((h + 1 : Nat) : Int) ≤ _; omega, by show 0 ≤ n - f d.heat[h] ∧ n - f d.heat[h] ≤ 10000; omega, hG3⟩, by show d.hours.toNat - (h + 1) < d.hours.toNat - h; omega, ⟨.refl _, .refl _, .refl _, .refl _, .refl _, .refl _, .refl _, .refl _, .refl _, .refl _, trivial⟩, ⟨.refl _, .refl _, trivial⟩, ⟨rfl, congrArg (fun x => some (B.cells x)) hst2, rfl, trivial⟩, Nat.le_of_ble_eq_true rfl⟩
    · have hend : (h : Int) = d.hours := by have := of_decide_eq_false h2; omega
      rw [show d.hours.toNat - h = 0 by omega, runU] at hG3
      subst hG3
      refine Aw.em tab_ok mb0 [] rfl rfl ?zo ?zk
      case zo =>
        repeat' apply AllP.cons
        all_goals first | exact trivial | exact (by simp only [Ob.of, inR]; omega)
      case zk =>
      exact ⟨k + 1, hlt, by omega, ⟨.refl _, .refl _, .refl _, .refl _, .refl _, .refl _, trivial⟩, ⟨.refl _, trivial⟩, ⟨rfl, congrArg (fun x => some (B.cells (d.c ++ List.map A.int x))) (by rw [← hlk, openX_done nl hlt]), trivial⟩, Nat.le_of_ble_eq_true rfl⟩
  · have hle : k = d.lots.length := by have := of_decide_eq_false h1; omega
    subst hle
    have sz : (d.c ++ (openU d f d.lots.length).map A.int).length = 12 := by simp [Day.c, openU_len d f _ nl (Nat.le_refl _)]
    have e1 : ((d.c ++ (openU d f d.lots.length).map A.int).take 12).map A.down = (opened d f).c := by
      rw [List.take_of_length_le (by omega), List.map_append, map_down_int]; rfl
    refine Aw.sm tab_ok mb0 [] rfl rfl ?zo ?zk
    case zo =>
      repeat' apply AllP.cons
      all_goals first | exact trivial | exact Nat.le_of_ble_eq_true rfl | exact (show 12 ≤ (d.c ++ (openU d f d.lots.length).map A.int).length by omega) | exact (show (List.map A.down (List.take 12 (d.c ++ (openU d f d.lots.length).map A.int))).length = 12 by rw [e1]; simp [CDay.c, Day.c, opened, openU_len d f _ nl (Nat.le_refl _)])
    case zk =>
    have e2 : List.map A.down (List.take 12 (List.drop 0 (d.c ++ (openU d f d.lots.length).map A.int))) = (opened d f).c := e1
    have e3 : setSeg (tab.zr 81) 0 ((List.map A.down (List.take 12 (List.drop 0 (d.c ++ (openU d f d.lots.length).map A.int)))).map A.down) = (opened d f).c := by
      rw [e2, CDay.down, setSeg_all]
      rw [opened_len nl]; rfl
    refine Aw.ret ⟨_, .cons (resC rfl rfl rfl ?_ ?_) .nil, rfl⟩
    · show Nat.ble (0 + 12) (setSeg (tab.zr 81) 0 ((List.map A.down (List.take 12 (List.drop 0 (d.c ++ (openU d f d.lots.length).map A.int)))).map A.down)).length = true
      rw [e3, opened_len nl]; rfl
    · show A.agg ((List.take 12 (List.drop 0 (setSeg (tab.zr 81) 0 ((List.map A.down (List.take 12 (List.drop 0 (d.c ++ (openU d f d.lots.length).map A.int)))).map A.down)))).map A.down) = A.agg (opened d f).c
      rw [e3, List.drop_zero, List.take_of_length_le (by rw [opened_len nl]; exact Nat.le_refl _), CDay.down]
end Go.Proofs.Ytimikmfkdaoaaaa
namespace Go.Proofs.Ytimikmfkdaoaaaa
open Go Go.AL
structure Small (d : Day) : Prop where
  h : (d.heat.length : Int) ≤ 9223372036854775807
  l : (d.lots.length : Int) ≤ 9223372036854775807
  w : (d.wks.length : Int) ≤ 9223372036854775807
theorem check_s {d : Day} (h : Small d) : Ans Try.prog 18 [.agg d.c] (.int d.errA) := check_t d h.h h.l h.w
theorem err_ok {d : Day} (h : d.ok = true) : d.errA = 0 := by unfold Day.errA; rw [h]; rfl
theorem err_no {d : Day} (h : d.ok = false) : d.errA = 50 := by unfold Day.errA; rw [h]; rfl
def lotAt (d : Day) (lot : Int) : Option Lot := if 0 ≤ lot then d.lots[lot.toNat]? else none
def untilR (d : Day) (lot : Int) : List A := if d.ok then (match lotAt d lot with | some l => [.int (untilF d Spn.hi l), .int (untilF d Spn.lo l), .int 0] | none => [.int 0, .int 0, .int 7]) else [.int 0, .int 0, .int 50]
theorem openU_get {d : Day} {f : Spn → Int} {i : Nat} {l : Lot} (h : d.lots[i]? = some l) : (opened d f).u[i]? = some (untilF d f l) := by
  obtain ⟨hi, rfl⟩ := List.getElem?_eq_some_iff.1 h
  simp [opened, openU, List.getElem?_append, hi]
theorem until_t (d : Day) (lot : Int) (hs : Small d) : Ans Try.prog 16 [.agg d.c, .int lot] (.tup (untilR d lot)) := by
  have hfr : Free (.tup (untilR d lot)) := .tup _ (by
    unfold untilR; split
    · split <;> exact allC (.s _) (allC (.s _) (all1 (.s _)))
    · exact allC (.s _) (allC (.s _) (all1 (.s _))))
  refine told Try.func16 rfl rfl (Pure.of tab_ok Try.func16 rfl Try.ntmps16 rfl (allC (.agg _ d.free) (all1 (.s _))) (allC (fun _ => rfl) (all1 (fun _ => rfl))) (by first | exact .s _ | assumption | exact .tup _ (by intro x hx; simp only [List.mem_cons, List.not_mem_nil, or_false] at hx; rcases hx with rfl | rfl | rfl | rfl <;> first | exact .s _ | (simp_all; done))) fun E hE => ?_)
  refine Aw.sm tab_ok mb0 [] rfl rfl ?zo ?zk
  case zo =>
    repeat' apply AllP.cons
    all_goals first | exact trivial
  case zk =>
  refine Aw.seq ?_
  refine Aw.sm tab_ok mb0 [(1, [.int d.errA])] rfl rfl ?zo ?zk
  case zo =>
    repeat' apply AllP.cons
    all_goals first | exact trivial | exact Nat.le_of_ble_eq_true rfl | exact check_s hs
  case zk =>
  refine Aw.sm tab_ok mb0 [] rfl rfl ?zo ?zk
  case zo =>
    repeat' apply AllP.cons
    all_goals first | exact trivial
  case zk =>
  refine Aw.cond rfl (fun h1 => ?_) (fun h1 => Aw.skip ?_)
  · have hno : d.ok = false := by
      cases h : d.ok with
      | false => rfl
      | true => rw [err_ok h] at h1; exact absurd h1 (by decide)
    refine Aw.sm tab_ok mb0 [] rfl rfl ?zo ?zk
    case zo =>
      repeat' apply AllP.cons
      all_goals first | exact trivial
    case zk =>
    exact Aw.ret ⟨_, .cons (.tmp _) (.cons (.tmp _) (.cons (.tmp _) .nil)), by simp only [untilR, hno]; rw [err_no hno]; rfl⟩
  have hok : d.ok = true := by
    cases h : d.ok with
    | true => rfl
    | false => rw [err_no h] at h1; exact absurd h1 (by decide)
  have hd := DayOk.of hok
  have ll : ((d.lots.map Lot.c).length : Int) = d.lots.length := by simp
  have nl := hd.nl
  refine Aw.seq ?_
  refine Aw.sm tab_ok mb0 [(5, [.bool ?a])] rfl rfl ?zo ?zk
  case zo =>
    repeat' apply AllP.cons
    all_goals first | exact trivial | exact Nat.le_of_ble_eq_true rfl | exact within_t _ _ _ | exact (by simp only [Ob.of, inR]; omega)
  case zk =>
  refine Aw.cond rfl (fun h2 => ?_) (fun h2 => Aw.skip ?_)
  · have h2' : ¬ (0 ≤ lot ∧ lot ≤ ((d.lots.map Lot.c).length : Int) - 1) := fun h => by
      have := wi_iff.2 h; rw [this] at h2; exact absurd h2 (by decide)
    have hnone : lotAt d lot = none := by
      unfold lotAt; split
      · exact List.getElem?_eq_none (by omega)
      · rfl
    refine Aw.sm tab_ok mb0 [] rfl rfl ?zo ?zk
    case zo =>
      repeat' apply AllP.cons
      all_goals first | exact trivial
    case zk =>
    exact Aw.ret ⟨_, .cons (.tmp _) (.cons (.tmp _) (.cons (.tmp _) .nil)), by simp only [untilR, hok, hnone]; rfl⟩
  have h2' : 0 ≤ lot ∧ lot ≤ ((d.lots.map Lot.c).length : Int) - 1 := wi_iff.1 (by simpa using h2)
  have hlt : lot.toNat < d.lots.length := by omega
  obtain ⟨l, hl⟩ : ∃ l, d.lots[lot.toNat]? = some l := ⟨d.lots[lot.toNat], by simp [hlt]⟩
  have hsome : lotAt d lot = some l := by unfold lotAt; rw [if_pos h2'.1, hl]
  have q : ∀ f : Spn → Int, (((List.drop 4 (opened d f).c).take 8).getD (lot.toNat * 1) .un).down = A.int (untilF d f l) := fun f => by
    have e : List.drop 4 (opened d f).c = (opened d f).u.map A.int := rfl
    rw [e, List.getD_eq_getElem?_getD, List.getElem?_take, if_pos (by omega), List.getElem?_map, Nat.mul_one, openU_get hl]; rfl
  have q2 : ∀ f : Spn → Int, 4 + 8 ≤ (opened d f).c.length := fun f => by rw [opened_len nl]; exact Nat.le_refl _
  have q3 : ∀ f : Spn → Int, lot.toNat * 1 < ((List.drop 4 (opened d f).c).take 8).length := fun f => by rw [List.length_take, List.length_drop, opened_len nl]; omega
  refine Aw.sd tab_ok mixed mb0 [(1, [.agg (endC 69)]), (2, [.agg (opened d Spn.hi).c]), (5, [.int (untilF d Spn.hi l)]), (7, [.agg (endC 70)]), (8, [.agg (opened d Spn.lo).c]), (11, [.int (untilF d Spn.lo l)])] rfl (by kernel_rfl) rfl rfl ?zo ?zk
  case zo =>
    repeat' apply AllP.cons
    all_goals first | exact trivial | exact Nat.le_of_ble_eq_true rfl | exact surely_t | exact bestE_t | exact opened_t d 69 _ surely_ok hd | exact opened_t d 70 _ best_ok hd | exact q _ | exact q2 _ | exact q3 _ | exact h2'.1 | exact (by simp only [Ob.of]; omega)
  case zk =>
  exact Aw.ret ⟨_, .cons (.tmp _) (.cons (.tmp _) (.cons (.tmp _) .nil)), by simp only [untilR, hok, hsome]; rfl⟩
def cransL (d : Day) (k : Nat) : List Int := (d.lots.take k).map Lot.crans
def cransOf (d : Day) : Int := (d.lots.map Lot.crans).sum
theorem cransL_succ {d : Day} {k : Nat} (h : k < d.lots.length) : cransL d (k + 1) = cransL d k ++ [d.lots[k].crans] := by
  unfold cransL; rw [List.take_succ_eq_append_getElem h, List.map_append]; rfl
theorem cransL_len {d : Day} {k : Nat} (h : k ≤ d.lots.length) : (cransL d k).length = k := by simp [cransL]; omega
def grown (e : Nat) (k : Nat) (es : List (List A)) : A := match k with
  | 0 => .sl true .exact []
  | _ + 1 => .sl false (.own e) es
theorem grown_under {n e k : Nat} {es : List (List A)} (h : ∀ x ∈ es, ∀ y ∈ x, Under n y) : Under n (grown e k es) := by
  cases k with
  | zero => exact .sl _ _ _ (fun _ h => by cases h)
  | succ k => exact .sl _ _ _ h
theorem ints_under {n : Nat} (l : List Int) : ∀ x ∈ ints l, ∀ y ∈ x, Under n y := fun x hx y hy => by
  obtain ⟨i, _, rfl⟩ := List.mem_map.1 hx
  simp at hy; subst hy; exact .s _
theorem sum_bd {l : List Int} {b : Int} (h : ∀ x ∈ l, 0 ≤ x ∧ x ≤ b) : 0 ≤ l.sum ∧ l.sum ≤ b * l.length := by
  induction l with
  | nil => simp
  | cons a l ih =>
    have h1 := h a (by simp)
    have h2 := ih fun x hx => h x (by simp [hx])
    simp only [List.sum_cons, List.length_cons]
    have : b * ((l.length + 1 : Nat) : Int) = b * l.length + b := by push_cast; rw [Int.mul_add]; omega
    omega
theorem crans_t (cd : CDay) (hd : DayOk cd.g) : Ans Try.prog 58 [.agg cd.c] (.int (cransOf cd.g)) := by
  refine told Try.func58 rfl rfl (Pure.of tab_ok Try.func58 rfl Try.ntmps58 rfl (all1 (.agg _ cd.free)) (all1 (fun _ => rfl)) (by first | exact .s _ | assumption | exact .tup _ (by intro x hx; simp only [List.mem_cons, List.not_mem_nil, or_false] at hx; rcases hx with rfl | rfl | rfl | rfl <;> first | exact .s _ | (simp_all; done))) fun E hE => ?_)
  refine Aw.sm tab_ok mb0 [] rfl rfl ?zo ?zk
  case zo =>
    repeat' apply AllP.cons
    all_goals first | exact trivial
  case zk =>
  refine Aw.sm tab_ok mb0 [] rfl rfl ?zo ?zk
  case zo =>
    repeat' apply AllP.cons
    all_goals first | exact trivial
  case zk =>
  refine Aw.seq ?_
  refine Aw.sm tab_ok mb0 [] rfl rfl ?zo ?zk
  case zo =>
    repeat' apply AllP.cons
    all_goals first | exact trivial | exact Nat.le_of_ble_eq_true rfl
  case zk =>
  have nl := hd.nl
  have ll : ((cd.g.lots.map Lot.c).length : Int) = cd.g.lots.length := by simp
  refine Aw.block (Aw.rounds 0 hE [(8, cd.g.lotsA), (9, .int (cd.g.lots.map Lot.c).length)] (fun k : Nat => [(3, grown 3 k (ints (cransL cd.g k))), (10, .int k)]) (fun _ => []) (fun k => k ≤ cd.g.lots.length) (fun k => cd.g.lots.length - k) 0
    (Nat.zero_le _) ⟨⟨.refl _, .refl _, trivial⟩, ⟨.refl _, .refl _, trivial⟩, trivial, Nat.zero_le _⟩ ⟨(free_map Lot.free _ _ _).under, .s _, trivial⟩ (fun _ _ => ⟨grown_under (ints_under _), .s _, trivial⟩) (fun _ _ => trivial) fun k hk => ?_)
  refine Aw.sm tab_ok mb0 [] rfl rfl ?zo ?zk
  case zo =>
    repeat' apply AllP.cons
    all_goals first | exact trivial
  case zk =>
  refine Aw.seq (Aw.cond rfl (fun h1 => Aw.skip1 ?_) (fun h1 => Aw.exit2 ?_))
  · have hlt : k < cd.g.lots.length := by have := of_decide_eq_true h1; omega
    have hlen : (ints (cransL cd.g k)).length = k := by simp [ints, cransL_len hk]
    have hz : ∀ z ∈ ints (cransL cd.g k), z.length = 1 := fun z hz => by obtain ⟨i, _, rfl⟩ := List.mem_map.1 hz; rfl
    refine Aw.seq (Aw.block ?_)
    refine Aw.sm tab_ok mb0 [(0, cd.g.lots[k].c)] rfl rfl ?zo ?zk
    case zo =>
      repeat' apply AllP.cons
      all_goals first | exact trivial | exact rfl | exact Nat.le_of_ble_eq_true rfl | exact Int.natCast_nonneg _ | exact get_map hlt
    case zk =>
    have e : ints (cransL cd.g (k + 1)) = ints (cransL cd.g k) ++ [[.int cd.g.lots[k].crans]] := by rw [cransL_succ hlt]; simp [ints]
    cases k with
    | zero =>
      refine Aw.em tab_ok mb0 [] rfl rfl ?zo ?zk
      case zo =>
        repeat' apply AllP.cons
        all_goals first | exact trivial | exact Nat.le_of_ble_eq_true rfl | exact (show ∀ z ∈ [] ++ [[A.int _]], z.length = 1 from fun z hz => by simp at hz; subst hz; rfl)
      case zk =>
      refine Aw.em tab_ok mb0 [] rfl rfl ?zo ?zk
      case zo =>
        repeat' apply AllP.cons
        all_goals first | exact trivial | exact (by simp only [Ob.of, inR]; omega)
      case zk =>
      exact ⟨1, hlt, by omega, ⟨.refl _, .refl _, trivial⟩, ⟨.of_eq (congrArg (A.sl false (.own 3)) e), .refl _, trivial⟩, trivial, Nat.le_of_ble_eq_true rfl⟩
    | succ k =>
      refine Aw.em tab_ok mb0 [] rfl rfl ?zo ?zk
      case zo =>
        repeat' apply AllP.cons
        all_goals first | exact trivial | exact Nat.le_of_ble_eq_true rfl | exact (show ∀ z ∈ [[A.int _]], z.length = 1 from fun z hz => by simp at hz; subst hz; rfl) | exact hz | exact (show ((ints (cransL cd.g (k + 1))).length + 1) * 8 ≤ 140737488355328 by rw [hlen]; omega) | exact (show (ints (cransL cd.g (k + 1))).length + 1 ≤ maxLen by rw [hlen]; unfold maxLen; omega)
      case zk =>
      refine Aw.em tab_ok mb0 [] rfl rfl ?zo ?zk
      case zo =>
        repeat' apply AllP.cons
        all_goals first | exact trivial | exact (by simp only [Ob.of, inR]; omega)
      case zk =>
      exact ⟨k + 2, hlt, by omega, ⟨.refl _, .refl _, trivial⟩, ⟨.of_eq (congrArg (A.sl false (.own 3)) e), .refl _, trivial⟩, trivial, Nat.le_of_ble_eq_true rfl⟩
  · have hle : k = cd.g.lots.length := by have := of_decide_eq_false h1; omega
    subst hle
    have hc : cransL cd.g cd.g.lots.length = cd.g.lots.map Lot.crans := by unfold cransL; rw [List.take_length]
    have hb : ∀ x ∈ cd.g.lots.map Lot.crans, 0 ≤ x ∧ x ≤ 50 := fun x hx => by
      obtain ⟨l, hl, rfl⟩ := List.mem_map.1 hx
      have := (lotOk_iff (hd.lots l hl)).1; omega
    have hsum : ∀ b, Ans Try.prog 59 [.sl b .any (ints (cransL cd.g cd.g.lots.length))] (.int (cransOf cd.g)) := fun b => by
      rw [hc]
      refine sum_t b _ (by simp; omega) fun k _ => ?_
      have := sum_bd (l := (cd.g.lots.map Lot.crans).take k) (b := 50) fun x hx => hb x (List.mem_of_mem_take hx)
      have h3 : ((cd.g.lots.map Lot.crans).take k).length ≤ 8 := by rw [List.length_take, List.length_map]; omega
      simp only [inR]; omega
    cases hn : cd.g.lots.length with
    | zero =>
      have hs := hsum true
      rw [hn] at hs
      refine Aw.sm tab_ok mb0 [(1, [.int (cransOf cd.g)])] rfl rfl ?zo ?zk
      case zo =>
        repeat' apply AllP.cons
        all_goals first | exact trivial | exact hs.le1 (.any _ _ _)
      case zk =>
      exact Aw.ret ⟨_, .cons (.tmp _) .nil, rfl⟩
    | succ n =>
      have hs := hsum false
      rw [hn] at hs
      refine Aw.sm tab_ok mb0 [(1, [.int (cransOf cd.g)])] rfl rfl ?zo ?zk
      case zo =>
        repeat' apply AllP.cons
        all_goals first | exact trivial | exact hs
      case zk =>
      exact Aw.ret ⟨_, .cons (.tmp _) .nil, rfl⟩
end Go.Proofs.Ytimikmfkdaoaaaa
namespace Go.Proofs.Ytimikmfkdaoaaaa
open Go Go.AL
theorem slots_t (cd : CDay) (lot : Int) : Ans Try.prog 63 [.agg cd.c, .int lot] (.fn (.func 72) [] [.pt cd.c, .pt [.int lot]]) := by
  have hfr : Free (.fn (.func 72) [] [.pt cd.c, .pt [.int lot]]) := .fn _ _ _ allN (allC (.pt _ cd.free) (all1 (.pt _ (all1 (.s _)))))
  refine told Try.func63 rfl rfl (Pure.of tab_ok Try.func63 rfl Try.ntmps63 rfl (allC (.agg _ cd.free) (all1 (.s _))) (allC (fun _ => rfl) (all1 (fun _ => rfl))) (by first | exact .s _ | assumption | exact .tup _ (by intro x hx; simp only [List.mem_cons, List.not_mem_nil, or_false] at hx; rcases hx with rfl | rfl | rfl | rfl <;> first | exact .s _ | (simp_all; done))) fun E hE => ?_)
  refine Aw.sm tab_ok mb0 [] rfl rfl ?zo ?zk
  case zo =>
    repeat' apply AllP.cons
    all_goals first | exact trivial
  case zk =>
  refine Aw.sm tab_ok mb0 [] rfl rfl ?zo ?zk
  case zo =>
    repeat' apply AllP.cons
    all_goals first | exact trivial
  case zk =>
  exact Aw.ret ⟨_, .cons (.tmp _) .nil, rfl⟩
theorem low_upd {n : Nat} {H : Hp} (h : Low n H) {a b : B} : updH (updH (updH H n (some a)) n (some b)) n none = H := by
  funext i
  simp only [updH_apply]
  split
  · rename_i e
    subst e
    cases e1 : H i with
    | none => rfl
    | some bx => have := (h i bx e1).1; omega
  · rfl
theorem slots1_t (cd : CDay) (lot : Int) (l : Lot) (u : Int) (hd : DayOk cd.g) (h0 : 0 ≤ lot) (hl : cd.g.lots[lot.toNat]? = some l) (hu : cd.u[lot.toNat]? = some u) (h8 : cd.u.length = 8)
    {c id : Nat} {S : Slots} {nt : Nat} {ps : Array Tmp} {asg body : Code} {I : Nat → Hp → Prop} {D : Hp → Prop} (it : Iter Try.prog c id S nt ps asg body ((slotL cd.g l u).map fun p => [slotA cd.g p]) I D) (hid : id < c) {H : Hp} (hI : I 0 H) :
    SCall Try.prog 72 [.yl id, .pt cd.c, .pt [.int lot]] H c fun v H' c' => c ≤ c' ∧ (Sub H' (I (slotL cd.g l u).length) ∨ Sub H' D) := by
  have hh := hd.hours
  have hnw := hd.nw
  refine SCall.of_bodyN tab_ok Try.func72 rfl Try.ntmps72 (Nat.le_of_ble_eq_true rfl) (allC (fun _ => rfl) (allC (fun _ => rfl) (all1 fun _ => rfl))) fun E hE => ?_
  have udc : Under c (A.pt cd.c) := (Free.pt _ cd.free).under
  have uyl : Under c (A.yl id) := .yl _ hid
  have ulo : Under c (A.pt [A.int lot]) := (Free.pt _ (all1 (.s _))).under
  have lw : ((cd.g.wks.map Wk.c).length : Int) = cd.g.wks.length := by simp
  generalize hW : cd.g.wks.length = W at *
  generalize hN : cd.g.hours.toNat = N at *
  have hN1 : (N : Int) = cd.g.hours := by omega
  let cnt : Nat → Nat := cntP (canP cd.g l u)
  have hcnt : cnt (W * N) = (slotL cd.g l u).length := by simp only [cnt, cntP, slotL, hW, hN]
  refine Aw.sm tab_ok mb0 [] rfl rfl ?zo ?zk
  case zo =>
    repeat' apply AllP.cons
    all_goals first | exact trivial | exact Nat.le_of_ble_eq_true rfl
  case zk =>
  refine Aw.block (Aw.roundsH c hE [(0, .yl id), (1, .pt cd.c), (2, .pt [.int lot]), (10, .int (cd.g.wks.map Wk.c).length)] (fun w : Nat => [(11, .int w)]) (fun w H => w ≤ W ∧ I (cnt (w * N)) H) (fun w => W - w) 0
    ⟨⟨.refl _, .refl _, .refl _, .refl _, trivial⟩, ⟨.refl _, trivial⟩, .self (H := H) ⟨Nat.zero_le _, by rw [Nat.zero_mul]; exact hI⟩, Nat.le_refl _⟩ ⟨uyl, udc, ulo, .s _, trivial⟩ (fun _ => ⟨.s _, trivial⟩) (fun w H h => it.low _ H h.2) fun w H hJ => ?_)
  obtain ⟨hw, hJ⟩ := hJ
  refine Aw.sm tab_ok mb0 [] rfl rfl ?zo ?zk
  case zo =>
    repeat' apply AllP.cons
    all_goals first | exact trivial
  case zk =>
  refine Aw.seq (Aw.cond rfl (fun h1 => Aw.skip1 ?_) (fun h1 => Aw.exit2 ?_))
  · have hlt : w < W := by have := of_decide_eq_true h1; omega
    refine Aw.seq (Aw.block ?_)
    refine Aw.sm tab_ok mb0 [] rfl rfl ?zo ?zk
    case zo =>
      repeat' apply AllP.cons
      all_goals first | exact trivial
    case zk =>
    refine Aw.sm tab_ok mb0 [] rfl rfl ?zo ?zk
    case zo =>
      repeat' apply AllP.cons
      all_goals first | exact trivial | exact Nat.le_of_ble_eq_true rfl
    case zk =>
    refine Aw.block (Aw.roundsH c hE [(0, .yl id), (1, .pt cd.c), (2, .pt [.int lot]), (4, .int w), (10, .int (cd.g.wks.map Wk.c).length), (11, .int w), (16, .int cd.g.hours)] (fun h : Nat => [(17, .int h)]) (fun h H => h ≤ N ∧ I (cnt (w * N + h)) H) (fun h => N - h) 0
      ⟨⟨.refl _, .refl _, .refl _, .refl _, .refl _, .refl _, .refl _, trivial⟩, ⟨.refl _, trivial⟩, .self (H := H) ⟨Nat.zero_le _, hJ⟩, Nat.le_refl _⟩ ⟨uyl, udc, ulo, .s _, .s _, .s _, .s _, trivial⟩ (fun _ => ⟨.s _, trivial⟩) (fun h H hj => it.low _ H hj.2) fun h H hJ => ?_)
    obtain ⟨hhN, hJ⟩ := hJ
    refine Aw.sm tab_ok mb0 [] rfl rfl ?zo ?zk
    case zo =>
      repeat' apply AllP.cons
      all_goals first | exact trivial
    case zk =>
    refine Aw.seq (Aw.cond rfl (fun h2 => Aw.skip1 ?_) (fun h2 => Aw.exit2 ?_))
    · have hlt2 : h < N := by have := of_decide_eq_true h2; omega
      have hlow := it.low _ H hJ
      obtain ⟨k, hk⟩ : ∃ k, cd.g.wks[w]? = some k := ⟨cd.g.wks[w], by simp [show w < cd.g.wks.length by omega]⟩
      have hkind : 0 ≤ k.kind := (wkOk_iff (hd.wks k (List.mem_of_getElem? hk))).1.1
      refine Aw.seq (Aw.block ?_)
      refine Aw.sm tab_ok mb0 [] rfl rfl ?zo ?zk
      case zo =>
        repeat' apply AllP.cons
        all_goals first | exact trivial
      case zk =>
      refine Aw.ss rfl ?_
      refine RegL.partE tab_ok mb0 false 4 0 [] ?_
      conv => arg 5; whnf
      refine PartK.mk ?zo ?zk
      case zo =>
        repeat' apply AllP.cons
        all_goals first | exact trivial
      case zk =>
      refine RegL.st tab_ok (id := c) (off := 0) rfl (updH_same _ _ _) (by decide) rfl rfl (by decide) ?_
      refine Aw.freeze (id := c) (t := 6) (updH_same _ _ _) rfl ?_
      have hp : w * N + h < W * N := by
        have : (w + 1) * N ≤ W * N := Nat.mul_le_mul_right N (by omega)
        rw [Nat.succ_mul] at this; omega
      have hpd : (w * N + h) / N = w := by rw [Nat.mul_comm, Nat.mul_add_div (by omega), Nat.div_eq_of_lt hlt2]; omega
      have hpm : (w * N + h) % N = h := by rw [Nat.mul_comm, Nat.mul_add_mod, Nat.mod_eq_of_lt hlt2]
      have hcan : canP cd.g l u (w * N + h) = canF l k h u := by
        simp only [canP, hN, hpd, hpm, List.getD_eq_getElem?_getD, hk, Option.getD_some]
      have hslot : slotA cd.g (w * N + h) = .agg [.int w, .int h] := by simp only [slotA, hN, hpd, hpm]
      have canT := can_t cd lot w h u l k h0 hl (Int.natCast_nonneg _) (by simpa using hk) hu h8 hkind
      refine Aw.keepH (n := c) (cst := [(0, .yl id), (1, .pt cd.c), (2, .pt [.int lot]), (4, .int w), (10, .int (cd.g.wks.map Wk.c).length), (11, .int w), (16, .int cd.g.hours), (6, .pt [.int w, .int h])]) (v := [(17, .int h)]) (J := fun H' => H = H') hE
        ⟨uyl, udc, ulo, .s _, .s _, .s _, .s _, (Free.pt _ (allC (.s _) (all1 (.s _)))).under, trivial⟩ ⟨.s _, trivial⟩ (fun _ e => e ▸ hlow)
        ⟨⟨.refl _, .refl _, .refl _, .refl _, .refl _, .refl _, .refl _, .refl _, trivial⟩, ⟨.refl _, trivial⟩, ⟨H, rfl, fun i bx hb => (congrFun (low_upd hlow) i).trans hb⟩, Nat.le_succ _⟩ ?_
      rintro _ rfl
      have qa : A.agg (cd.c.take 12) = .agg cd.c := by rw [List.take_of_length_le (by rw [CDay.len h8]; exact Nat.le_refl _)]
      have qb : 12 ≤ cd.c.length := by rw [CDay.len h8]; exact Nat.le_refl _
      cases hc : canF l k h u with
      | false =>
        rw [hc] at canT hcan
        refine Aw.st tab_ok mb0 [(0, [.agg cd.c]), (3, [.bool false])] rfl rfl ?zo ?zk
        case zo =>
          repeat' apply AllP.cons
          all_goals first | exact trivial | exact Nat.le_of_ble_eq_true rfl | exact canT | exact qa | exact qb
        case zk =>
        refine Aw.cond rfl (fun h3 => by cases h3) (fun h3 => Aw.skip ?_)
        refine Aw.em tab_ok mb0 [] rfl rfl ?zo ?zk
        case zo =>
          repeat' apply AllP.cons
          all_goals first | exact trivial | exact (by simp only [Ob.of, inR]; omega)
        case zk =>
        refine ⟨h + 1, by omega, ⟨.refl _, .refl _, .refl _, .refl _, .refl _, .refl _, .refl _, trivial⟩, ⟨.refl _, trivial⟩, .self (H := H) ⟨hlt2, ?_⟩, Nat.le_refl _⟩
        have e : cnt (w * N + (h + 1)) = cnt (w * N + h) := by show cntP _ (w * N + h + 1) = _; rw [cntP_succ, hcan]; rfl
        rw [e]; exact hJ
      | true =>
        rw [hc] at canT hcan
        refine Aw.ss rfl ?_
        refine RegL.partE tab_ok mb0 true 7 0 [(0, [.agg cd.c]), (3, [.bool true])] ?_
        conv => arg 5; whnf
        refine PartK.mk ?zo ?zk
        case zo =>
          repeat' apply AllP.cons
          all_goals first | exact trivial | exact Nat.le_of_ble_eq_true rfl | exact canT | exact qa | exact qb
        case zk =>
        refine Does.rawT rfl rfl rfl rfl (Iter.yield it rfl (k := cnt (w * N + h)) rfl rfl rfl ?_ hJ ?_)
        · show ((slotL cd.g l u).map fun p => [slotA cd.g p])[cnt (w * N + h)]? = some [A.agg [A.int w, A.int h]]
          rw [List.getElem?_map, show (slotL cd.g l u)[cnt (w * N + h)]? = some (w * N + h) by
            show ((List.range (cd.g.wks.length * cd.g.hours.toNat)).filter _)[cntP _ _]? = _
            rw [hW, hN]; exact filter_get hp hcan]
          simp only [Option.map_some, hslot]
        · rintro v H' c' ⟨hc', hv⟩
          have ecnt : cnt (w * N + (h + 1)) = cnt (w * N + h) + 1 := by show cntP _ (w * N + h + 1) = _; rw [cntP_succ, hcan]; rfl
          rcases hv with ⟨rfl, hs⟩ | ⟨rfl, hs⟩
          · refine RegL.partE tab_ok mb0 true 9 8 [] ?_
            conv => arg 5; whnf
            refine PartK.mk ?zo ?zk
            case zo =>
              repeat' apply AllP.cons
              all_goals first | exact trivial | exact fun _ => rfl
            case zk =>
            refine Aw.cond rfl (fun h3 => by cases h3) (fun h3 => Aw.skip ?_)
            refine Aw.em tab_ok mb0 [] rfl rfl ?zo ?zk
            case zo =>
              repeat' apply AllP.cons
              all_goals first | exact trivial | exact (by simp only [Ob.of, inR]; omega)
            case zk =>
            obtain ⟨H2, hI2, hs2⟩ := hs
            exact ⟨h + 1, by omega, ⟨.refl _, .refl _, .refl _, .refl _, .refl _, .refl _, .refl _, trivial⟩, ⟨.refl _, trivial⟩, ⟨H2, ⟨hlt2, by rw [ecnt]; exact hI2⟩, hs2⟩, hc'⟩
          · refine RegL.partE tab_ok mb0 true 9 8 [] ?_
            conv => arg 5; whnf
            refine PartK.mk ?zo ?zk
            case zo =>
              repeat' apply AllP.cons
              all_goals first | exact trivial | exact fun _ => rfl
            case zk =>
            refine Aw.cond rfl (fun h3 => Aw.ret ?_) (fun h3 => by cases h3)
            exact ⟨[], .nil, hc', .inr hs⟩
    · have hend : h = N := by have := of_decide_eq_false h2; omega
      subst hend
      refine Aw.em tab_ok mb0 [] rfl rfl ?zo ?zk
      case zo =>
        repeat' apply AllP.cons
        all_goals first | exact trivial | exact (by simp only [Ob.of, inR]; omega)
      case zk =>
      exact ⟨w + 1, by omega, ⟨.refl _, .refl _, .refl _, .refl _, trivial⟩, ⟨.refl _, trivial⟩, ⟨H, ⟨hlt, by rw [Nat.succ_mul]; exact hJ⟩, fun _ _ h => h⟩, Nat.le_refl _⟩
  · have hend : w = W := by have := of_decide_eq_false h1; omega
    subst hend
    refine ⟨[], .nil, Nat.le_refl _, .inl ⟨H, ?_, fun _ _ h => h⟩⟩
    rw [← hcnt]; exact hJ
end Go.Proofs.Ytimikmfkdaoaaaa
namespace Go.Proofs.Ytimikmfkdaoaaaa
open Go Go.AL
set_option maxRecDepth 100000 in
theorem eq3 (a b : Int) : pureRun Try.prog (Op.equalIn 9999 3 (.int .i64 a) (.int .i64 b)) = some (a == b) := by rfl
set_option maxRecDepth 100000 in
theorem eq93 (a b c d : Int) : pureRun Try.prog (Op.equal 93 (.agg #[.int .i64 a, .int .i64 b]) (.agg #[.int .i64 c, .int .i64 d])) = some (a == c && b == d) := by
  have h1 : pureRun Try.prog (underlying 93) = Try.prog.underlying 93 := rfl
  have h2 : pureRun Try.prog program = some Try.prog := rfl
  have h3 : Try.prog.stoodInHeld 93 = false := by kernel_rfl
  have p1 : ∀ x y : Value, pureRun Try.prog (part 3 #[x, y] 0) = some x := fun x y => rfl
  have p2 : ∀ x y : Value, pureRun Try.prog (part 3 #[x, y] 1) = some y := fun x y => rfl
  have pp : ∀ {α : Type} (x : α), pureRun Try.prog (pure x) = some x := fun x => rfl
  rw [Op.equal, Op.maxDepth, show (10000 : Nat) = 9999 + 1 from rfl, Op.equalIn, pureRun_bind, h1, Try.underlying93]
  simp only [Option.bind_some, pureRun_bind, h2, h3]
  by_cases h : a = c
  · subst h
    by_cases h' : b = d
    · subst h'
      simp [pureRun_bind, p1, p2, eq3, pp]
    · have e : (b == d) = false := by simpa using h'
      simp [pureRun_bind, p1, p2, eq3, pp, e]
  · have e : (a == c) = false := by simpa using h
    simp [pureRun_bind, p1, eq3, pp, e]
def slotE (d : Day) (p : Nat) : List Value := [.int .i64 ((p / d.hours.toNat : Nat) : Int), .int .i64 ((p % d.hours.toNat : Nat) : Int)]
set_option maxRecDepth 100000 in
theorem kty (d : Day) : KeyTy Try.prog 93 (slotE d) where
  und := ⟨_, Try.underlying93, fun _ _ => rfl⟩
  eq := fun a b => by
    show pureRun Try.prog (Op.equal 93 (.agg #[.int .i64 _, .int .i64 _]) (.agg #[.int .i64 _, .int .i64 _])) = _
    rw [eq93]
    congr 1
    rw [Bool.eq_iff_iff]
    simp only [Bool.and_eq_true, beq_iff_eq, Int.natCast_inj]
    constructor
    · rintro ⟨h1, h2⟩
      rw [← Nat.div_add_mod a d.hours.toNat, ← Nat.div_add_mod b d.hours.toNat, h1, h2]
    · rintro rfl; exact ⟨rfl, rfl⟩
  ck := fun e a => rfl
  bits := fun a => by simp [Instr.sameBits, slotE]
def workC (cd : CDay) : List A := cd.c ++ [.mp 1]
def valL (l : List Int) : A := .agg (l.map A.int)
def valB (b : Bool) : A := .bool b
def putFn (cd : CDay) : A := .fn (.func 73) [] [.pt (workC cd), .ref 5 0, .ref 6 0]
def putH (cd : CDay) (s : Sn) (m : Ld) : List (Nat × B) := [(1, .map (encM (slotE cd.g) valL m)), (4, .map (encM (slotE cd.g) valB s)), (5, .cells [.mp 4]), (6, .cells [putFn cd])]
theorem work_under (cd : CDay) {n : Nat} (h : 1 < n) : ∀ x ∈ workC cd, Under n x := fun x hx => by
  rcases List.mem_append.1 hx with h1 | h1
  · exact (cd.free x h1).under
  · simp at h1; subst h1; exact .mp _ h
theorem putFn_under (cd : CDay) {n : Nat} (h : 6 < n) : Under n (putFn cd) := .fn _ _ _ (fun _ h => by cases h) (allC (.pt _ (work_under cd (by omega))) (allC (.ref _ _ (by omega)) (all1 (.ref _ _ h))))
theorem encM_free {V : Type} {enc : Nat → List Value} {val : V → A} (hv : ∀ v, Free (val v)) (m : List (Nat × V)) : ∀ p ∈ encM enc val m, Free p.1 ∧ Free p.2 := fun p hp => by
  obtain ⟨q, _, rfl⟩ := List.mem_map.1 hp
  exact ⟨.agg _ fun x hx => by obtain ⟨v, _, rfl⟩ := List.mem_map.1 hx; exact .s _, hv _⟩
theorem valL_free (l : List Int) : Free (valL l) := .agg _ fun x hx => by obtain ⟨v, _, rfl⟩ := List.mem_map.1 hx; exact .s _
theorem valB_free (b : Bool) : Free (valB b) := .s _
theorem encL_under (d : Day) (m : Ld) (n : Nat) : UnderB n (.map (encM (slotE d) valL m)) := .map _ fun p hp => ⟨(encM_free valL_free m p hp).1.under, (encM_free valL_free m p hp).2.under⟩
theorem encB_under (d : Day) (s : Sn) (n : Nat) : UnderB n (.map (encM (slotE d) valB s)) := .map _ fun p hp => ⟨(encM_free valB_free s p hp).1.under, (encM_free valB_free s p hp).2.under⟩
theorem putH_under (cd : CDay) (s : Sn) (m : Ld) {n : Nat} (h : 7 ≤ n) : UnderH n (putH cd s m) :=
  ⟨⟨by omega, encL_under _ _ _⟩, ⟨by omega, encB_under _ _ _⟩, ⟨by omega, .cells _ (all1 (.mp _ (by omega)))⟩, ⟨by omega, .cells _ (all1 (putFn_under cd (by omega)))⟩, trivial⟩
def InPut (i : Nat) : Prop := i = 1 ∨ i = 4 ∨ i = 5 ∨ i = 6
theorem putH_dom (cd : CDay) (s : Sn) (m : Ld) (i : Nat) : (ofH (putH cd s m) i).isSome = true ↔ InPut i := by
  simp only [putH, ofH, updH_apply, InPut]
  by_cases h1 : i = 1 <;> by_cases h4 : i = 4 <;> by_cases h5 : i = 5 <;> by_cases h6 : i = 6 <;> simp [h1, h4, h5, h6]
theorem putFn_nms (cd : CDay) : Nms InPut (putFn cd) := .fn _ _ _ (fun _ h => by cases h) (allC (.pt _ fun x hx => by
  rcases List.mem_append.1 hx with h1 | h1
  · exact (cd.free x h1).nms
  · simp at h1; subst h1; exact .mp _ (.inl rfl)) (allC (.ref _ _ (.inr (.inr (.inl rfl)))) (all1 (.ref _ _ (.inr (.inr (.inr rfl)))))))
theorem putH_nms (cd : CDay) (s : Sn) (m : Ld) (i : Nat) (bx : B) (h : ofH (putH cd s m) i = some bx) : InPut i ∧ NmsB InPut bx := by
  refine ⟨(putH_dom cd s m i).1 (by rw [h]; rfl), ?_⟩
  simp only [putH, ofH, updH_apply] at h
  split at h
  · cases h; exact .map _ fun p hp => ⟨(encM_free valL_free m p hp).1.nms, (encM_free valL_free m p hp).2.nms⟩
  · split at h
    · cases h; exact .map _ fun p hp => ⟨(encM_free valB_free s p hp).1.nms, (encM_free valB_free s p hp).2.nms⟩
    · split at h
      · cases h; exact .cells _ (all1 (.mp _ (.inr (.inl rfl))))
      · split at h
        · cases h; exact .cells _ (all1 (putFn_nms cd))
        · cases h
def PutPost (cd : CDay) (R : Res) (v : A) (H' : Hp) (_ : Nat) : Prop := v = .bool R.1 ∧ H' = ofH (putH cd R.2.1 R.2.2)
theorem put_frame {cd : CDay} {lot : Nat} {s : Sn} {m : Ld} {R : Res} (h : SCall Try.prog 73 [.int lot, .pt (workC cd), .ref 5 0, .ref 6 0] (ofH (putH cd s m)) 7 (PutPost cd R)) {H : Hp} {c : Nat} (hH : HasH H (putH cd s m)) :
    SCall Try.prog 73 [.int lot, .pt (workC cd), .ref 5 0, .ref 6 0] H c fun v H1 c1 => v = .bool R.1 ∧ c1 = c ∧ H1 = overH H (ofH (putH cd s m)) (ofH (putH cd R.2.1 R.2.2)) := by
  have dn : (fun i => (ofH (putH cd s m) i).isSome = true) = InPut := by funext i; exact propext (putH_dom cd s m i)
  refine (h.frame (H := H) (c := c) (fun id bx hb => ?_) (fun id bx hb => ?_) ?_ ?_).mono ?_
  · rcases (putH_nms cd s m id bx hb).1 with rfl | rfl | rfl | rfl <;> decide
  · rw [dn]; exact ⟨(putH_nms cd s m id bx hb).2, hH.ofH id bx hb⟩
  · rw [dn]
    refine allC (.s _) (allC (.pt _ fun x hx => ?_) (allC (.ref _ _ (.inr (.inr (.inl rfl)))) (all1 (.ref _ _ (.inr (.inr (.inr rfl)))))))
    rcases List.mem_append.1 hx with h1 | h1
    · exact (cd.free x h1).nms
    · simp at h1; subst h1; exact .mp _ (.inl rfl)
  · rintro v H' c' ⟨rfl, rfl⟩
    rw [dn]
    refine ⟨.s _, fun id bx hb => ?_⟩
    have := putH_nms cd _ _ id bx hb
    exact ⟨(putH_dom cd s m id).2 this.1, this.2⟩
  · rintro v H1 c1 ⟨H', c', ⟨rfl, rfl⟩, h2, h3⟩
    exact ⟨rfl, h3, h2⟩
end Go.Proofs.Ytimikmfkdaoaaaa
namespace Go.Proofs.Ytimikmfkdaoaaaa
open Go Go.AL
theorem setSeg_set {r : List Int} {v : Int} {i : Nat} (h : i < r.length) : setSeg (r.map A.int) i [A.int v] = (r.set i v).map A.int := by
  have := setSeg_app (l := []) (r := r.map A.int) (v := A.int v) (i := i) (by simpa using h)
  simp only [List.length_nil, Nat.zero_add, List.nil_append] at this
  rw [this, List.map_set]
theorem ints_flat (l : List Int) (i j : Nat) (hi : i < l.length) (hj : j < 1) : ((ints l).getD i []).getD j .un = ((l.map A.int).getD (0 + i * 1 + j) .un).down := by
  obtain rfl : j = 0 := by omega
  simp [ints, List.getD_eq_getElem?_getD, hi, A.down]
theorem lk_seen (cd : CDay) (s : Sn) (p : Nat) : LkIs Try.prog tab 93 4 (encM (slotE cd.g) valB s) (keyA (slotE cd.g) p) (.bool (isSeen s p)) (mget s p).isSome :=
  (kty cd.g).lk valB s p (by unfold isSeen; cases mget s p <;> rfl) rfl
theorem lk_ld (cd : CDay) (m : Ld) (p : Nat) : LkIs Try.prog tab 93 104 (encM (slotE cd.g) valL m) (keyA (slotE cd.g) p) (.agg ((ld m p).map A.int)) (mget m p).isSome :=
  (kty cd.g).lk valL m p (by unfold ld; cases mget m p <;> rfl) rfl
def putS (cd : CDay) (lot : Nat) : List (Nat × A) := [(1, .pt (workC cd)), (2, .ref 5 0), (3, .ref 6 0), (4, .pt [.int lot]), (5, .ref 7 0)]
theorem putS_under (cd : CDay) (lot : Nat) {n : Nat} (h : 8 ≤ n) : UnderL n (putS cd lot) :=
  ⟨.pt _ (work_under cd (by omega)), .ref _ _ (by omega), .ref _ _ (by omega), .pt _ (all1 (.s _)), .ref _ _ (by omega), trivial⟩
theorem work_take (cd : CDay) (h8 : cd.u.length = 8) : A.agg ((List.drop 0 (workC cd)).take 12) = .agg cd.c := by
  rw [List.drop_zero, workC, List.take_append_of_le_length (by rw [CDay.len h8]; exact Nat.le_refl _), List.take_of_length_le (by rw [CDay.len h8]; exact Nat.le_refl _)]
theorem work_len (cd : CDay) (h8 : cd.u.length = 8) : (workC cd).length = 13 := by simp [workC, CDay.len h8]
theorem ld8 {x : List Int} (h : x.length = 8) : A.agg (((List.drop 0 (x.map A.int)).take 8).map A.down) = .agg (x.map A.int) := by
  rw [List.drop_zero, List.take_of_length_le (by simp [h]), map_down_int]
theorem work_map (cd : CDay) (h8 : cd.u.length = 8) : ((List.drop 12 (workC cd)).getD 0 .un).down = .mp 1 := by
  have e : List.drop 12 (workC cd) = [.mp 1] := by
    have := List.drop_left (l₁ := cd.c) (l₂ := [A.mp 1])
    rwa [CDay.len h8] at this
  rw [e]; rfl
theorem work_pos (cd : CDay) (h8 : cd.u.length = 8) : 0 < (List.drop 12 (workC cd)).length := by rw [List.length_drop, work_len cd h8]; decide
theorem put_t (cd : CDay) (hd : DayOk cd.g) (h8 : cd.u.length = 8) : ∀ (f lot : Nat) (s : Sn) (m : Ld), lot < cd.g.lots.length → MOk cd.g.lots.length m → unseen (cd.g.wks.length * cd.g.hours.toNat) s < f →
    SCall Try.prog 73 [.int lot, .pt (workC cd), .ref 5 0, .ref 6 0] (ofH (putH cd s m)) 7 (PutPost cd (putF cd f lot s m))
  | 0, lot, s, m, _, _, h => by omega
  | f + 1, lot, s, m, hlot, hm, hun => by
    have nl := hd.nl
    obtain ⟨l, hl⟩ : ∃ l, cd.g.lots[lot]? = some l := ⟨cd.g.lots[lot], by simp [hlot]⟩
    obtain ⟨u, hu⟩ : ∃ u, cd.u[lot]? = some u := ⟨cd.u[lot]'(by omega), by simp [show lot < cd.u.length by omega]⟩
    have hso : slotsOf cd lot = slotL cd.g l u := by simp only [slotsOf, hl, hu]
    have hrate : ∀ p, rateAt cd.g p ≤ 20 := fun p => by
      unfold rateAt
      simp only [List.getD_eq_getElem?_getD]
      cases e : cd.g.wks[p / cd.g.hours.toNat]? with
      | none => simp [wkD]
      | some w => exact (wkOk_iff (hd.wks w (List.mem_of_getElem? e))).2.2.2.2
    have hkeep := putF_keeps cd nl hrate f
    generalize hR : putF cd (f + 1) lot s m = R
    have hR' : goS (putF cd f) (rateAt cd.g) lot (slotL cd.g l u) s m = R := by rw [← hR, putF, hso]
    refine SCall.drop (post := fun v H' _ => v = .bool R.1 ∧ HasH H' (putH cd R.2.1 R.2.2)) (SCall.of_bodyN tab_ok Try.func73 rfl Try.ntmps73 (Nat.le_of_ble_eq_true rfl) (allC (fun _ => rfl) (allC (fun _ => rfl) (allC (fun _ => rfl) (all1 fun _ => rfl)))) fun E hE => ?_)
      (fun v H' c' h => ⟨_, h.2.ofH, h.1, rfl⟩)
    refine Aw.sm tab_ok mb0 [] rfl rfl ?zo ?zk
    case zo =>
      repeat' apply AllP.cons
      all_goals first | exact trivial
    case zk =>
    refine Aw.seq ?_
    refine Aw.sm tab_ok mb0 [(1, [.agg cd.c]), (3, [.fn (.func 72) [] [.pt cd.c, .pt [.int lot]]])] rfl rfl ?zo ?zk
    case zo =>
      repeat' apply AllP.cons
      all_goals first | exact trivial | exact Nat.le_of_ble_eq_true rfl | exact slots_t cd lot | exact work_take cd h8 | exact (show 12 ≤ (List.drop 0 (workC cd)).length by rw [List.drop_zero, work_len cd h8]; decide)
    case zk =>
    have h8E : ∀ id, 8 ≤ id → E.φ0 id = none := fun id h => hE id (by omega)
    refine Aw.keep (n := 8) (cst := putS cd lot) (v := [(13, .fn (.func 72) [] [.pt cd.c, .pt [.int lot]])]) (Hl := (7, .cells [.bool false]) :: putH cd s m) h8E (putS_under cd lot (Nat.le_refl _))
      ⟨.fn _ _ _ (fun _ h => by cases h) (allC (.pt _ fun x hx => (cd.free x hx).under) (all1 (.pt _ (all1 (.s _))))), trivial⟩ ⟨⟨by decide, .cells _ (all1 (.s _))⟩, putH_under cd s m (by decide)⟩
      ⟨⟨.refl _, .refl _, .refl _, .refl _, .refl _, trivial⟩, ⟨.refl _, trivial⟩, ⟨rfl, rfl, rfl, rfl, rfl, trivial⟩, Nat.le_of_ble_eq_true rfl⟩ ?_
    refine Aw.block (Aw.iter rfl (enters_of Try.func72 rfl rfl) ((slotL cd.g l u).map fun p => [slotA cd.g p])
      (fun k H => ∃ s' m', H = ofH ((7, .cells [.bool false]) :: putH cd s' m') ∧ MOk cd.g.lots.length m' ∧ Grows s s' ∧ goS (putF cd f) (rateAt cd.g) lot ((slotL cd.g l u).drop k) s' m' = R)
      (fun j H => j = .ret ∧ R.1 = true ∧ H = ofH ((7, .cells [.bool true]) :: putH cd R.2.1 R.2.2)) rfl
      (fun z h => by obtain ⟨p, _, rfl⟩ := List.mem_map.1 h; rfl) (ofL2_under (UnderL.app (⟨.fn _ _ _ (fun _ h => by cases h) (allC (.pt _ fun x hx => (cd.free x hx).under) (all1 (.pt _ (all1 (.s _))))), trivial⟩) (putS_under cd lot (Nat.le_refl _))))
      (by rintro k H ⟨s', m', rfl, _⟩; exact UnderH.ofH ⟨⟨Nat.le_of_ble_eq_true rfl, .cells _ (all1 (.s _))⟩, putH_under cd s' m' (Nat.le_of_ble_eq_true rfl)⟩)
      (by rintro j H ⟨_, _, rfl⟩; exact UnderH.ofH ⟨⟨Nat.le_of_ble_eq_true rfl, .cells _ (all1 (.s _))⟩, putH_under cd _ _ (Nat.le_of_ble_eq_true rfl)⟩)
      (fun it H hI => by rw [List.length_map]; exact slots1_t cd lot l u hd (Int.natCast_nonneg _) (by simpa using hl) (by simpa using hu) h8 it (Nat.lt_succ_self _) hI)
      ⟨s, m, rfl, hm, .refl s, by rw [List.drop_zero]; exact hR'⟩ ?_ ?_ ?_)
    · intro lpB ulp k as' ha H hI E2 b hE2
      obtain ⟨s', m', rfl, hm', hg', hrun⟩ := hI
      obtain ⟨p, hp, rfl⟩ : ∃ p, (slotL cd.g l u)[k]? = some p ∧ [slotA cd.g p] = as' := by
        rw [List.getElem?_map] at ha
        cases e : (slotL cd.g l u)[k]? with
        | none => rw [e] at ha; cases ha
        | some p => rw [e] at ha; exact ⟨p, rfl, by simpa using ha⟩
      have hdrop : (slotL cd.g l u).drop k = p :: (slotL cd.g l u).drop (k + 1) := by
        obtain ⟨hk, e⟩ := List.getElem?_eq_some_iff.1 hp
        rw [List.drop_eq_getElem_cons hk, e]
      rw [hdrop, goS] at hrun
      refine Aw.em tab_ok mb0 [] rfl rfl ?zo ?zk
      case zo =>
        repeat' apply AllP.cons
        all_goals first | exact trivial | exact rfl | exact Nat.le_of_ble_eq_true rfl
      case zk =>
      refine ⟨rfl, rfl, ?_⟩
      have hpin : p < cd.g.wks.length * cd.g.hours.toNat := by
        have := List.mem_of_getElem? hp
        exact List.mem_range.1 (List.mem_filter.1 this).1
      have hNpos : 0 < cd.g.hours.toNat := by have := hd.hours; omega
      have hwlt : p / cd.g.hours.toNat < cd.g.wks.length := Nat.div_lt_of_lt_mul (by rw [Nat.mul_comm]; exact hpin)
      obtain ⟨wk, hwk⟩ : ∃ wk, cd.g.wks[p / cd.g.hours.toNat]? = some wk := ⟨cd.g.wks[p / cd.g.hours.toNat], by simp [hwlt]⟩
      have hrt : rateAt cd.g p = wk.rate := by simp only [rateAt, List.getD_eq_getElem?_getD, hwk, Option.getD_some]
      have uslot : UnderB 10 (.cells [.int ((p / cd.g.hours.toNat : Nat) : Int), .int ((p % cd.g.hours.toNat : Nat) : Int)]) := .cells _ (allC (.s _) (all1 (.s _)))
      have h10 : ∀ id, 10 ≤ id → E2.φ0 id = none := fun id h => hE2 id (Nat.le_trans (Nat.le_of_ble_eq_true rfl) h)
      have ulp10 : UnderB 10 (lpB .busy none) := (ulp _ _).mono (Nat.le_of_ble_eq_true rfl)
      refine Aw.keep (n := 10) (cst := putS cd lot) (v := [(6, .ref 9 0)]) (Hl := (8, lpB .busy none) :: (9, .cells [.int ((p / cd.g.hours.toNat : Nat) : Int), .int ((p % cd.g.hours.toNat : Nat) : Int)]) :: (7, .cells [.bool false]) :: putH cd s' m') h10
        (putS_under cd lot (by decide)) ⟨.ref _ _ (by decide), trivial⟩ ⟨⟨by decide, ulp10⟩, ⟨by decide, uslot⟩, ⟨by decide, .cells _ (all1 (.s _))⟩, putH_under cd s' m' (by decide)⟩
        ⟨⟨.refl _, .refl _, .refl _, .refl _, .refl _, trivial⟩, ⟨.refl _, trivial⟩, ⟨rfl, rfl, rfl, rfl, rfl, rfl, rfl, trivial⟩, Nat.le_of_ble_eq_true rfl⟩ ?_
      refine Aw.block ?_
      refine Aw.seq ?_
      refine Aw.sm tab_ok mb0 [(2, [.bool (isSeen s' p), .bool (mget s' p).isSome])] rfl rfl ?zo ?zk
      case zo =>
        repeat' apply AllP.cons
        all_goals first | exact trivial | exact Nat.le_of_ble_eq_true rfl | exact lk_seen cd s' p
      case zk =>
      refine Aw.cond rfl (fun h1 => Aw.exit (thenE (blkE ?_))) (fun h1 => Aw.skip ?_)
      · rw [if_pos h1] at hrun
        exact ⟨⟨_, _, rfl⟩, Nat.le_of_ble_eq_true rfl, _, ⟨s', m', rfl, hm', hg', hrun⟩, HasH.ofH (l := (7, .cells [.bool false]) :: putH cd s' m') ⟨rfl, rfl, rfl, rfl, rfl, trivial⟩⟩
      rw [if_neg (by rw [h1]; simp)] at hrun
      refine Aw.sm tab_ok mb0 [] rfl rfl ?zo ?zk
      case zo =>
        repeat' apply AllP.cons
        all_goals first | exact trivial | exact Nat.le_of_ble_eq_true rfl | exact (kty cd.g).has valB s' p
      case zk =>
      refine Aw.sm tab_ok mb0 [(1, [.mp 1]), (3, [.agg ((ld m' p).map A.int), .bool (mget m' p).isSome])] rfl rfl ?zo ?zk
      case zo =>
        repeat' apply AllP.cons
        all_goals first | exact trivial | exact Nat.le_of_ble_eq_true rfl | exact work_map cd h8 | exact work_pos cd h8 | exact lk_ld cd m' p | exact (show ((ld m' p).map A.int).length = 8 by simp [(hm'.at p).len])
      case zk =>
      generalize hlv : ld m' p = lv at *
      have hlok : LOk cd.g.lots.length lv := hlv ▸ hm'.at p
      have hll := hlok.len
      have hc7 : setSeg (List.map A.down (tab.zr 104)) 0 ((lv.map A.int).map A.down) = lv.map A.int := by rw [map_down_int]; exact setSeg_all (by simp [hll]; rfl)
      have hup : upKV (encM (slotE cd.g) valB s') (keyA (slotE cd.g) p) (valB true) (ixOf Try.prog 93 (encM (slotE cd.g) valB s') (keyA (slotE cd.g) p)) = encM (slotE cd.g) valB (mput s' p true) := (kty cd.g).up valB s' p true
      have hun2 : unseen (cd.g.wks.length * cd.g.hours.toNat) (mput s' p true) < f := by
        have h2 := unseen_put hpin h1
        have h3 := unseen_mono (n := cd.g.wks.length * cd.g.hours.toNat) hg'
        omega
      have hg2 : Grows s (mput s' p true) := hg'.trans (Grows.put s' p)
      generalize hs1 : mput s' p true = s1 at *
      have h11 : ∀ id, 11 ≤ id → E2.φ0 id = none := fun id h => h10 id (by omega)
      have ul8 : ∀ x : List Int, UnderB 11 (.cells (x.map A.int)) := fun x => .cells _ fun y hy => by obtain ⟨v, _, rfl⟩ := List.mem_map.1 hy; exact .s _
      have HU : ∀ (rb : Bool) (x : List Int) (s2 : Sn) (m2 : Ld), UnderH 11 ((8, lpB .busy none) :: (9, .cells [.int ((p / cd.g.hours.toNat : Nat) : Int), .int ((p % cd.g.hours.toNat : Nat) : Int)]) :: (10, .cells (x.map A.int)) :: (7, .cells [.bool rb]) :: putH cd s2 m2) := fun rb x s2 m2 =>
        ⟨⟨by decide, ulp10.mono (by decide)⟩, ⟨by decide, uslot.mono (by decide)⟩, ⟨by decide, ul8 x⟩, ⟨by decide, .cells _ (all1 (.s _))⟩, putH_under cd s2 m2 (by decide)⟩
      refine Aw.keep (n := 11) (cst := putS cd lot) (v := [(6, .ref 9 0), (7, .ref 10 0)]) (Hl := (8, lpB .busy none) :: (9, .cells [.int ((p / cd.g.hours.toNat : Nat) : Int), .int ((p % cd.g.hours.toNat : Nat) : Int)]) :: (10, .cells (lv.map A.int)) :: (7, .cells [.bool false]) :: putH cd s1 m') h11
        (putS_under cd lot (by decide)) ⟨.ref _ _ (by decide), .ref _ _ (by decide), trivial⟩ (HU _ _ _ _)
        ⟨⟨.refl _, .refl _, .refl _, .refl _, .refl _, trivial⟩, ⟨.refl _, .refl _, trivial⟩, ⟨rfl, rfl, congrArg (fun x => some (B.cells x)) hc7, rfl, rfl, congrArg (fun x => some (B.map x)) hup, rfl, rfl, trivial⟩, Nat.le_of_ble_eq_true rfl⟩ ?_
      have hsumA : Ans Try.prog 59 [.sl false .any (ints lv)] (.int lv.sum) := sum_t false lv (by omega) fun j _ => by
        have h1 : 0 ≤ (lv.take j).sum := (sum_bd (b := 20) fun x hx => ⟨hlok.pos x (List.mem_of_mem_take hx), by
          obtain ⟨i, _, e⟩ := mem_getD' (List.mem_of_mem_take hx)
          rw [← e]; have := sum_ge hlok.pos i; have := hlok.sum; omega⟩).1
        have h2 := (sum_bd (l := lv.take j) (b := 20) fun x hx => ⟨hlok.pos x (List.mem_of_mem_take hx), by
          obtain ⟨i, _, e⟩ := mem_getD' (List.mem_of_mem_take hx)
          rw [← e]; have := sum_ge hlok.pos i; have := hlok.sum; omega⟩).2
        have h3 : (lv.take j).length ≤ 8 := by rw [List.length_take]; omega
        simp only [inR]; omega
      have hsnap : AnsS Try.prog (only (ofH ((8, lpB .busy none) :: (9, .cells [.int ((p / cd.g.hours.toNat : Nat) : Int), .int ((p % cd.g.hours.toNat : Nat) : Int)]) :: (10, .cells (lv.map A.int)) :: (7, .cells [.bool false]) :: putH cd s1 m')) 10) 59 [.ms 10 0 8] [.sl false .any (ints lv)] (.int lv.sum) :=
        ⟨hsumA.ent, hsumA.pure, .s _, .cons (.ms (sz := 1) rfl (by simp [ints, hll]) (fun z hz => by obtain ⟨i, _, rfl⟩ := List.mem_map.1 hz; rfl) (by simp [hll]) fun i j hi hj => ints_flat lv i j (by omega) hj) .nil⟩
      refine Aw.seq ?_
      refine Aw.sd tab_ok mixed mb0 [(1, [.int lv.sum, .agg [.sl false .any (ints lv)]]), (8, wk.c)] rfl (by kernel_rfl) rfl rfl ?zo ?zk
      case zo =>
        repeat' apply AllP.cons
        all_goals first | exact trivial | exact rfl | exact Nat.le_of_ble_eq_true rfl | exact Int.natCast_nonneg _ | exact hsnap | exact (show (cd.g.wks.map Wk.c)[Int.toNat ((p / cd.g.hours.toNat : Nat) : Int)]? = some wk.c by rw [Int.toNat_natCast, List.getElem?_map, hwk]; rfl)
      case zk =>
      have hil : ((inc lv lot).length) = 8 := by simp [inc, hll]
      have ldlot : (List.getD (lv.map A.int) (0 + Int.toNat (lot : Int) * 1) .un).down = .int (lv.getD lot 0) := by
        rw [Int.toNat_natCast, Nat.mul_one, Nat.zero_add]
        simp [List.getD_eq_getElem?_getD, show lot < lv.length by omega, A.down]
      have ltlot : 0 + Int.toNat (lot : Int) * 1 < (lv.map A.int).length := by rw [Int.toNat_natCast, List.length_map]; omega
      have setlot : setSeg (lv.map A.int) (0 + Int.toNat (lot : Int) * 1) [A.int (lv.getD lot 0 + 1)] = (inc lv lot).map A.int := by
        rw [Int.toNat_natCast, Nat.mul_one, Nat.zero_add, setSeg_set (by omega)]; rfl
      have hp1 := getD_pos hlok.pos lot
      have hp2 := sum_ge hlok.pos lot
      have hp3 := hlok.sum
      have l8 : (lot : Int) < (8 : Nat) := by omega
      refine Aw.cond rfl (fun h2 => ?_) (fun h2 => Aw.skip ?_)
      · have h2' : lv.sum < wk.rate := of_decide_eq_true h2
        rw [hrt, if_pos h2'] at hrun
        subst hrun
        refine Aw.sm tab_ok mb0 [(2, [.int (lv.getD lot 0)])] rfl rfl ?zo ?zk
        case zo =>
          repeat' apply AllP.cons
          all_goals first | exact trivial | exact rfl | exact Nat.le_of_ble_eq_true rfl | exact Int.natCast_nonneg _ | exact ldlot | exact ltlot | exact l8 | exact (by simp only [Ob.of, inR]; omega)
        case zk =>
        refine Aw.keep (n := 11) (cst := putS cd lot) (v := [(6, .ref 9 0), (7, .ref 10 0)]) (Hl := (8, lpB .busy none) :: (9, .cells [.int ((p / cd.g.hours.toNat : Nat) : Int), .int ((p % cd.g.hours.toNat : Nat) : Int)]) :: (10, .cells ((inc lv lot).map A.int)) :: (7, .cells [.bool false]) :: putH cd s1 m') h11
          (putS_under cd lot (by decide)) ⟨.ref _ _ (by decide), .ref _ _ (by decide), trivial⟩ (HU _ _ _ _)
          ⟨⟨.refl _, .refl _, .refl _, .refl _, .refl _, trivial⟩, ⟨.refl _, .refl _, trivial⟩, ⟨rfl, rfl, congrArg (fun x => some (B.cells x)) setlot, rfl, rfl, rfl, rfl, rfl, trivial⟩, Nat.le_of_ble_eq_true rfl⟩ ?_
        refine Aw.sm tab_ok mb0 [(1, [.mp 1]), (3, [.agg ((inc lv lot).map A.int)])] rfl rfl ?zo ?zk
        case zo =>
          repeat' apply AllP.cons
          all_goals first | exact trivial | exact Nat.le_of_ble_eq_true rfl | exact work_map cd h8 | exact work_pos cd h8 | exact ld8 hil | exact (show 0 + 8 ≤ ((inc lv lot).map A.int).length by simp [hil]) | exact (kty cd.g).has valL m' p
        case zk =>
        have hup2 := (kty cd.g).up valL m' p (inc lv lot)
        refine Aw.sm tab_ok mb0 [] rfl rfl ?zo ?zk
        case zo =>
          repeat' apply AllP.cons
          all_goals first | exact trivial | exact rfl | exact Nat.le_of_ble_eq_true rfl
        case zk =>
        exact Aw.ret ⟨⟨_, _, rfl⟩, Nat.le_of_ble_eq_true rfl, _, ⟨rfl, rfl, rfl⟩, HasH.ofH (l := (7, .cells [.bool true]) :: putH cd s1 (mput m' p (inc lv lot))) ⟨rfl, congrArg (fun x => some (B.map x)) hup2, rfl, rfl, rfl, trivial⟩⟩
      have h2' : ¬ lv.sum < wk.rate := of_decide_eq_false h2
      rw [hrt, if_neg h2'] at hrun
      refine Aw.sm tab_ok mb0 [(0, [.agg (lv.map A.int)])] rfl rfl ?zo ?zk
      case zo =>
        repeat' apply AllP.cons
        all_goals first | exact trivial | exact ld8 hll | exact (show 0 + 8 ≤ (lv.map A.int).length by simp [hll])
      case zk =>
      have uagg : Under 11 (A.agg (lv.map A.int)) := .agg _ fun y hy => by obtain ⟨v, _, rfl⟩ := List.mem_map.1 hy; exact .s _
      refine Aw.block (Aw.rounds (ι := Nat × Sn × Ld) 11 h11 ((6, .ref 9 0) :: (7, .ref 10 0) :: (45, .agg (lv.map A.int)) :: putS cd lot) (fun i => [(46, .int i.1)])
        (fun i => (8, lpB .busy none) :: (9, .cells [.int ((p / cd.g.hours.toNat : Nat) : Int), .int ((p % cd.g.hours.toNat : Nat) : Int)]) :: (10, .cells (lv.map A.int)) :: (7, .cells [.bool false]) :: putH cd i.2.1 i.2.2)
        (fun i => i.1 ≤ 8 ∧ MOk cd.g.lots.length i.2.2 ∧ Grows s1 i.2.1 ∧ (match goO (putF cd f) lot p lv ((List.range 8).drop i.1) i.2.1 i.2.2 with
          | (true, s2, m2) => (true, s2, m2)
          | (false, s2, m2) => goS (putF cd f) (rateAt cd.g) lot ((slotL cd.g l u).drop (k + 1)) s2 m2) = R) (fun i => 8 - i.1) (0, s1, m')
        ⟨Nat.zero_le _, hm', .refl _, hrun⟩ ⟨⟨.refl _, .refl _, .refl _, .refl _, .refl _, .refl _, .refl _, .refl _, trivial⟩, ⟨.refl _, trivial⟩, ⟨rfl, rfl, rfl, rfl, rfl, rfl, rfl, rfl, trivial⟩, Nat.le_of_ble_eq_true rfl⟩
        ⟨.ref _ _ (by decide), .ref _ _ (by decide), uagg, putS_under cd lot (by decide)⟩ (fun _ _ => ⟨.s _, trivial⟩) (fun i _ => HU _ _ _ _) ?_)
      rintro ⟨o, s2, m2⟩ ⟨ho8, hm2, hg3, hrun2⟩
      simp only at ho8 hm2 hg3 hrun2
      refine Aw.sm tab_ok mb0 [] rfl rfl ?zo ?zk
      case zo =>
        repeat' apply AllP.cons
        all_goals first | exact trivial
      case zk =>
      refine Aw.seq (Aw.cond rfl (fun h3 => Aw.skip1 ?_) (fun h3 => Aw.exit2 ?_))
      · have hlt8 : o < 8 := by have := of_decide_eq_true h3; omega
        have hdrop8 : (List.range 8).drop o = o :: (List.range 8).drop (o + 1) := by
          rw [List.drop_eq_getElem_cons (by simpa using hlt8)]; simp
        rw [hdrop8, goO] at hrun2
        have ixo : (List.getD (lv.map A.int) (Int.toNat (o : Int) * 1) .un).down = .int (lv.getD o 0) := by
          rw [Int.toNat_natCast, Nat.mul_one]
          simp [List.getD_eq_getElem?_getD, show o < lv.length by omega, A.down]
        refine Aw.seq (Aw.block ?_)
        refine Aw.sm tab_ok mb0 [(1, [.int (lv.getD o 0)])] rfl rfl ?zo ?zk
        case zo =>
          repeat' apply AllP.cons
          all_goals first | exact trivial | exact Int.natCast_nonneg _ | exact ixo | exact (by simp only [Ob.of]; omega) | exact (show Int.toNat (o : Int) * 1 < (lv.map A.int).length by rw [Int.toNat_natCast, List.length_map]; omega)
        case zk =>
        generalize hx : lv.getD o 0 = x at *
        refine Aw.keep (n := 11) (cst := (6, .ref 9 0) :: (7, .ref 10 0) :: (45, .agg (lv.map A.int)) :: putS cd lot) (v := [(46, .int o), (8, .int o), (9, .int x)]) (Hl := (8, lpB .busy none) :: (9, .cells [.int ((p / cd.g.hours.toNat : Nat) : Int), .int ((p % cd.g.hours.toNat : Nat) : Int)]) :: (10, .cells (lv.map A.int)) :: (7, .cells [.bool false]) :: putH cd s2 m2) h11
          ⟨.ref _ _ (by decide), .ref _ _ (by decide), uagg, putS_under cd lot (by decide)⟩ ⟨.s _, .s _, .s _, trivial⟩ (HU _ _ _ _)
          ⟨⟨.refl _, .refl _, .refl _, .refl _, .refl _, .refl _, .refl _, .refl _, trivial⟩, ⟨.refl _, .refl _, .refl _, trivial⟩, ⟨rfl, rfl, rfl, rfl, rfl, rfl, rfl, rfl, trivial⟩, Nat.le_of_ble_eq_true rfl⟩ ?_
        refine Aw.ss rfl ?_
        refine RegL.partE tab_ok mb0 false 2 0 [] ?_
        conv => arg 5; whnf
        refine PartK.mk ?zo ?zk
        case zo =>
          repeat' apply AllP.cons
          all_goals first | exact trivial
        case zk =>
        have next : ∀ (s3 : Sn) (m3 : Ld), MOk cd.g.lots.length m3 → Grows s1 s3 → (match goO (putF cd f) lot p lv ((List.range 8).drop (o + 1)) s3 m3 with
          | (true, s2, m2) => (true, s2, m2)
          | (false, s2, m2) => goS (putF cd f) (rateAt cd.g) lot ((slotL cd.g l u).drop (k + 1)) s2 m2) = R → (fun i : Nat × Sn × Ld => i.1 ≤ 8 ∧ MOk cd.g.lots.length i.2.2 ∧ Grows s1 i.2.1 ∧ (match goO (putF cd f) lot p lv ((List.range 8).drop i.1) i.2.1 i.2.2 with
          | (true, s2, m2) => (true, s2, m2)
          | (false, s2, m2) => goS (putF cd f) (rateAt cd.g) lot ((slotL cd.g l u).drop (k + 1)) s2 m2) = R) (o + 1, s3, m3) := fun s3 m3 h1 h2 h3 => ⟨hlt8, h1, h2, h3⟩
        by_cases hxp : x > 0
        · rw [show decide (x > 0) = true from decide_eq_true hxp]
          refine RegL.partE tab_ok mb0 true 2 2 [] ?_
          conv => arg 5; whnf
          refine PartK.mk ?zo ?zk
          case zo =>
            repeat' apply AllP.cons
            all_goals first | exact trivial
          case zk =>
          refine RegL.partE tab_ok mb0 true 2 4 [] ?_
          conv => arg 5; whnf
          refine PartK.mk ?zo ?zk
          case zo =>
            repeat' apply AllP.cons
            all_goals first | exact trivial | exact Nat.le_of_ble_eq_true rfl
          case zk =>
          by_cases hne : o = lot
          · rw [show ((o : Int) != (lot : Int)) = false by simp [hne]]
            refine RegL.partE tab_ok mb0 true 9 6 [] ?_
            conv => arg 5; whnf
            refine PartK.mk ?zo ?zk
            case zo =>
              repeat' apply AllP.cons
              all_goals first | exact trivial | exact id | exact fun _ => rfl
            case zk =>
            refine Aw.cond rfl (fun h => by cases h) (fun _ => Aw.skip ?_)
            rw [if_neg (by simp [hne])] at hrun2
            refine Aw.em tab_ok mb0 [] rfl rfl ?zo ?zk
            case zo =>
              repeat' apply AllP.cons
              all_goals first | exact trivial | exact (by simp only [Ob.of, inR]; omega)
            case zk =>
            exact ⟨(o + 1, s2, m2), next s2 m2 hm2 hg3 hrun2, by show 8 - (o + 1) < 8 - o; omega, ⟨.refl _, .refl _, .refl _, .refl _, .refl _, .refl _, .refl _, .refl _, trivial⟩, ⟨.refl _, trivial⟩, ⟨rfl, rfl, rfl, rfl, rfl, rfl, rfl, rfl, trivial⟩, Nat.le_of_ble_eq_true rfl⟩
          · rw [show ((o : Int) != (lot : Int)) = true by simp; omega]
            refine RegL.partE tab_ok mb0 true 4 6 [] ?_
            conv => arg 5; whnf
            refine PartK.mk ?zo ?zk
            case zo =>
              repeat' apply AllP.cons
              all_goals first | exact trivial | exact id | exact fun _ => rfl | exact Nat.le_of_ble_eq_true rfl
            case zk =>
            rw [if_pos ⟨hxp, hne⟩] at hrun2
            have hon : o < cd.g.lots.length := Nat.lt_of_not_le fun h1 => by have := hlok.no o h1; omega
            have hun3 : unseen (cd.g.wks.length * cd.g.hours.toNat) s2 < f := by
              have := unseen_mono (n := cd.g.wks.length * cd.g.hours.toNat) hg3; omega
            have hcall := put_t cd hd h8 f o s2 m2 hon hm2 hun3
            have hk3 := hkeep o s2 m2 hon hm2
            generalize hrec : putF cd f o s2 m2 = rr at *
            obtain ⟨bb, s3, m3⟩ := rr
            refine Does.rawT rfl rfl rfl rfl (DoesR.call rfl rfl (enters_of Try.func73 rfl rfl) (put_frame hcall (H := _) (c := _) ⟨rfl, rfl, rfl, rfl, trivial⟩) ?_)
            rintro v H' c' ⟨rfl, rfl, rfl⟩
            cases bb with
            | false =>
              refine RegL.partE tab_ok mb0 true 9 11 [] ?_
              conv => arg 5; whnf
              refine PartK.mk ?zo ?zk
              case zo =>
                repeat' apply AllP.cons
                all_goals first | exact trivial | exact id | exact fun _ => rfl
              case zk =>
              refine Aw.cond rfl (fun h => by cases h) (fun _ => Aw.skip ?_)
              refine Aw.em tab_ok mb0 [] rfl rfl ?zo ?zk
              case zo =>
                repeat' apply AllP.cons
                all_goals first | exact trivial | exact (by simp only [Ob.of, inR]; omega)
              case zk =>
              exact ⟨(o + 1, s3, m3), next s3 m3 hk3.1 (hg3.trans hk3.2) hrun2, by show 8 - (o + 1) < 8 - o; omega, ⟨.refl _, .refl _, .refl _, .refl _, .refl _, .refl _, .refl _, .refl _, trivial⟩, ⟨.refl _, trivial⟩, ⟨rfl, rfl, rfl, rfl, rfl, rfl, rfl, rfl, trivial⟩, Nat.le_of_ble_eq_true rfl⟩
            | true =>
              refine RegL.partE tab_ok mb0 true 9 11 [] ?_
              conv => arg 5; whnf
              refine PartK.mk ?zo ?zk
              case zo =>
                repeat' apply AllP.cons
                all_goals first | exact trivial | exact id | exact fun _ => rfl
              case zk =>
              refine Aw.cond rfl (fun _ => ?_) (fun h => by cases h)
              have hRR : (true, s3, mput m3 p (dec (inc lv lot) o)) = R := hrun2
              subst hRR
              refine Aw.keep (n := 11) (cst := putS cd lot) (v := [(8, .int o), (6, .ref 9 0), (7, .ref 10 0)]) (Hl := (8, lpB .busy none) :: (9, .cells [.int ((p / cd.g.hours.toNat : Nat) : Int), .int ((p % cd.g.hours.toNat : Nat) : Int)]) :: (10, .cells (lv.map A.int)) :: (7, .cells [.bool false]) :: putH cd s3 m3) h11
                (putS_under cd lot (by decide)) ⟨.s _, .ref _ _ (by decide), .ref _ _ (by decide), trivial⟩ (HU _ _ _ _)
                ⟨⟨.refl _, .refl _, .refl _, .refl _, .refl _, trivial⟩, ⟨.refl _, .refl _, .refl _, trivial⟩, ⟨rfl, rfl, rfl, rfl, rfl, rfl, rfl, rfl, trivial⟩, Nat.le_of_ble_eq_true rfl⟩ ?_
              refine Aw.sm tab_ok mb0 [(2, [.int (lv.getD lot 0)])] rfl rfl ?zo ?zk
              case zo =>
                repeat' apply AllP.cons
                all_goals first | exact trivial | exact rfl | exact Nat.le_of_ble_eq_true rfl | exact Int.natCast_nonneg _ | exact ldlot | exact ltlot | exact l8 | exact (by simp only [Ob.of, inR]; omega)
              case zk =>
              refine Aw.keep (n := 11) (cst := putS cd lot) (v := [(8, .int o), (6, .ref 9 0), (7, .ref 10 0)]) (Hl := (8, lpB .busy none) :: (9, .cells [.int ((p / cd.g.hours.toNat : Nat) : Int), .int ((p % cd.g.hours.toNat : Nat) : Int)]) :: (10, .cells ((inc lv lot).map A.int)) :: (7, .cells [.bool false]) :: putH cd s3 m3) h11
                (putS_under cd lot (by decide)) ⟨.s _, .ref _ _ (by decide), .ref _ _ (by decide), trivial⟩ (HU _ _ _ _)
                ⟨⟨.refl _, .refl _, .refl _, .refl _, .refl _, trivial⟩, ⟨.refl _, .refl _, .refl _, trivial⟩, ⟨rfl, rfl, congrArg (fun x => some (B.cells x)) setlot, rfl, rfl, rfl, rfl, rfl, trivial⟩, Nat.le_of_ble_eq_true rfl⟩ ?_
              have gio : (inc lv lot).getD o 0 = lv.getD o 0 := by
                simp only [inc, List.getD_eq_getElem?_getD]
                rw [List.getElem?_set_ne (fun h => hne h.symm)]
              have ldo : (List.getD ((inc lv lot).map A.int) (0 + Int.toNat (o : Int) * 1) .un).down = .int ((inc lv lot).getD o 0) := by
                rw [Int.toNat_natCast, Nat.mul_one, Nat.zero_add]
                simp [List.getD_eq_getElem?_getD, show o < (inc lv lot).length by omega, A.down]
              have lto : 0 + Int.toNat (o : Int) * 1 < ((inc lv lot).map A.int).length := by rw [Int.toNat_natCast, List.length_map]; omega
              have seto : setSeg ((inc lv lot).map A.int) (0 + Int.toNat (o : Int) * 1) [A.int ((inc lv lot).getD o 0 - 1)] = (dec (inc lv lot) o).map A.int := by
                rw [Int.toNat_natCast, Nat.mul_one, Nat.zero_add, setSeg_set (by omega)]; rfl
              have hidl : (dec (inc lv lot) o).length = 8 := by simp [dec, hil]
              have o8 : (o : Int) < (8 : Nat) := by omega
              have hxo := sum_ge hlok.pos o
              have hin : inR ((inc lv lot).getD o 0 - 1) := by rw [gio, hx]; simp only [inR]; omega
              refine Aw.sm tab_ok mb0 [(2, [.int ((inc lv lot).getD o 0)])] rfl rfl ?zo ?zk
              case zo =>
                repeat' apply AllP.cons
                all_goals first | exact trivial | exact rfl | exact Int.natCast_nonneg _ | exact ldo | exact lto | exact o8 | exact hin
              case zk =>
              refine Aw.keep (n := 11) (cst := putS cd lot) (v := [(8, .int o), (6, .ref 9 0), (7, .ref 10 0)]) (Hl := (8, lpB .busy none) :: (9, .cells [.int ((p / cd.g.hours.toNat : Nat) : Int), .int ((p % cd.g.hours.toNat : Nat) : Int)]) :: (10, .cells ((dec (inc lv lot) o).map A.int)) :: (7, .cells [.bool false]) :: putH cd s3 m3) h11
                (putS_under cd lot (by decide)) ⟨.s _, .ref _ _ (by decide), .ref _ _ (by decide), trivial⟩ (HU _ _ _ _)
                ⟨⟨.refl _, .refl _, .refl _, .refl _, .refl _, trivial⟩, ⟨.refl _, .refl _, .refl _, trivial⟩, ⟨rfl, rfl, congrArg (fun x => some (B.cells x)) seto, rfl, rfl, rfl, rfl, rfl, trivial⟩, Nat.le_of_ble_eq_true rfl⟩ ?_
              refine Aw.sm tab_ok mb0 [(1, [.mp 1]), (3, [.agg ((dec (inc lv lot) o).map A.int)])] rfl rfl ?zo ?zk
              case zo =>
                repeat' apply AllP.cons
                all_goals first | exact trivial | exact Nat.le_of_ble_eq_true rfl | exact work_map cd h8 | exact work_pos cd h8 | exact ld8 hidl | exact (show 0 + 8 ≤ ((dec (inc lv lot) o).map A.int).length by simp [hidl]) | exact (kty cd.g).has valL m3 p
              case zk =>
              have hup2 := (kty cd.g).up valL m3 p (dec (inc lv lot) o)
              refine Aw.sm tab_ok mb0 [] rfl rfl ?zo ?zk
              case zo =>
                repeat' apply AllP.cons
                all_goals first | exact trivial | exact rfl | exact Nat.le_of_ble_eq_true rfl
              case zk =>
              exact Aw.ret ⟨⟨_, _, rfl⟩, Nat.le_of_ble_eq_true rfl, _, ⟨rfl, rfl, rfl⟩, HasH.ofH (l := (7, .cells [.bool true]) :: putH cd s3 (mput m3 p (dec (inc lv lot) o))) ⟨rfl, congrArg (fun x => some (B.map x)) hup2, rfl, rfl, rfl, trivial⟩⟩
        · rw [show decide (x > 0) = false from decide_eq_false hxp]
          refine RegL.partE tab_ok mb0 true 99 2 [] ?_
          conv => arg 5; whnf
          refine PartK.mk ?zo ?zk
          case zo =>
            repeat' apply AllP.cons
            all_goals first | exact trivial
          case zk =>
          refine Aw.cond rfl (fun h => by cases h) (fun _ => Aw.skip ?_)
          rw [if_neg (fun h => hxp h.1)] at hrun2
          refine Aw.em tab_ok mb0 [] rfl rfl ?zo ?zk
          case zo =>
            repeat' apply AllP.cons
            all_goals first | exact trivial | exact (by simp only [Ob.of, inR]; omega)
          case zk =>
          exact ⟨(o + 1, s2, m2), next s2 m2 hm2 hg3 hrun2, by show 8 - (o + 1) < 8 - o; omega, ⟨.refl _, .refl _, .refl _, .refl _, .refl _, .refl _, .refl _, .refl _, trivial⟩, ⟨.refl _, trivial⟩, ⟨rfl, rfl, rfl, rfl, rfl, rfl, rfl, rfl, trivial⟩, Nat.le_of_ble_eq_true rfl⟩
      · have hend : o = 8 := by have := of_decide_eq_false h3; omega
        subst hend
        have hrun3 : goS (putF cd f) (rateAt cd.g) lot ((slotL cd.g l u).drop (k + 1)) s2 m2 = R := hrun2
        exact ⟨⟨_, _, rfl⟩, Nat.le_of_ble_eq_true rfl, _, ⟨s2, m2, rfl, hm2, hg2.trans hg3, hrun3⟩, HasH.ofH (l := (7, .cells [.bool false]) :: putH cd s2 m2) ⟨rfl, rfl, rfl, rfl, rfl, trivial⟩⟩
    · rintro H c' hc ⟨H0, ⟨s', m', rfl, hm', hg', hrun⟩, hs⟩
      rw [List.length_map, List.drop_length, goS] at hrun
      subst hrun
      have hH := hasH_of_sub (l := (7, B.cells [A.bool false]) :: putH cd s' m') rfl hs
      refine Aw.keep (n := 8) (cst := putS cd lot) (v := []) (Hl := (7, .cells [.bool false]) :: putH cd s' m') h8E (putS_under cd lot (Nat.le_refl _)) trivial ⟨⟨by decide, .cells _ (all1 (.s _))⟩, putH_under cd s' m' (by decide)⟩
        ⟨⟨.refl _, .refl _, .refl _, .refl _, .refl _, trivial⟩, trivial, hH, hc⟩ ?_
      refine Aw.sm tab_ok mb0 [] rfl rfl ?zo ?zk
      case zo =>
        repeat' apply AllP.cons
        all_goals first | exact trivial | exact rfl | exact Nat.le_of_ble_eq_true rfl
      case zk =>
      exact Aw.ret ⟨_, .cons (resO rfl rfl (by decide) rfl rfl rfl) .nil, rfl, ⟨rfl, rfl, rfl, rfl, trivial⟩⟩
    · rintro j H c' hc ⟨H0, ⟨rfl, hr, rfl⟩, hs⟩
      have hH := hasH_of_sub (l := (7, B.cells [A.bool true]) :: putH cd R.2.1 R.2.2) rfl hs
      refine Aw.keep (n := 8) (cst := putS cd lot) (v := []) (Hl := (7, .cells [.bool true]) :: putH cd R.2.1 R.2.2) h8E (putS_under cd lot (Nat.le_refl _)) trivial ⟨⟨by decide, .cells _ (all1 (.s _))⟩, putH_under cd _ _ (by decide)⟩
        ⟨⟨.refl _, .refl _, .refl _, .refl _, .refl _, trivial⟩, trivial, hH, hc⟩ ?_
      exact Aw.ret ⟨_, .cons (resO rfl rfl (by decide) rfl rfl rfl) .nil, by rw [hr]; rfl, ⟨rfl, rfl, rfl, rfl, trivial⟩⟩
end Go.Proofs.Ytimikmfkdaoaaaa
namespace Go.Proofs.Ytimikmfkdaoaaaa
open Go Go.AL
def slotsN (cd : CDay) : Nat := cd.g.wks.length * cd.g.hours.toNat
def takeF (cd : CDay) (lot : Nat) (m : Ld) : Bool × Ld := ((putF cd (slotsN cd + 1) lot [] m).1, (putF cd (slotsN cd + 1) lot [] m).2.2)
def ldH (cd : CDay) (m : Ld) : List (Nat × B) := [(1, .map (encM (slotE cd.g) valL m))]
theorem unseen_nil (n : Nat) : unseen n [] ≤ n := by
  unfold unseen
  exact Nat.le_trans (List.length_filter_le _ _) (by simp)
theorem take_t (cd : CDay) (hd : DayOk cd.g) (h8 : cd.u.length = 8) (lot : Nat) (m : Ld) (hlot : lot < cd.g.lots.length) (hm : MOk cd.g.lots.length m) :
    SCall Try.prog 71 [.agg (workC cd), .int lot] (ofH (ldH cd m)) 4 (fun v H' _ => v = .bool (takeF cd lot m).1 ∧ H' = ofH (ldH cd (takeF cd lot m).2)) := by
  have hput := put_t cd hd h8 (slotsN cd + 1) lot [] m hlot hm (Nat.lt_succ_of_le (unseen_nil _))
  unfold takeF
  generalize putF cd (slotsN cd + 1) lot [] m = R at *
  refine SCall.drop (post := fun v H' _ => v = .bool R.1 ∧ HasH H' (ldH cd R.2.2)) (SCall.of_bodyN tab_ok Try.func71 rfl Try.ntmps71 (Nat.le_of_ble_eq_true rfl) (allC (fun _ => rfl) (all1 fun _ => rfl)) fun E hE => ?_)
    (fun v H' c' h => ⟨_, h.2.ofH, h.1, rfl⟩)
  refine Aw.sm tab_ok mb0 [] rfl rfl ?zo ?zk
  case zo =>
    repeat' apply AllP.cons
    all_goals first | exact trivial
  case zk =>
  refine Aw.sm tab_ok mb0 [] rfl rfl ?zo ?zk
  case zo =>
    repeat' apply AllP.cons
    all_goals first | exact trivial | exact rfl | exact Nat.le_of_ble_eq_true rfl
  case zk =>
  refine Aw.sm tab_ok mb0 [] rfl rfl ?zo ?zk
  case zo =>
    repeat' apply AllP.cons
    all_goals first | exact trivial
  case zk =>
  refine Aw.sm tab_ok mb0 [] rfl rfl ?zo ?zk
  case zo =>
    repeat' apply AllP.cons
    all_goals first | exact trivial | exact rfl | exact Nat.le_of_ble_eq_true rfl
  case zk =>
  have h7E : ∀ id, 7 ≤ id → E.φ0 id = none := fun id h => hE id (by omega)
  refine Aw.keep (n := 7) (cst := []) (v := [(1, .int lot), (6, .ref 6 0)]) (Hl := putH cd [] m) h7E trivial ⟨.s _, .ref _ _ (by decide), trivial⟩ (putH_under cd [] m (Nat.le_refl _))
    ⟨trivial, ⟨.refl _, .refl _, trivial⟩, ⟨rfl, rfl, rfl, rfl, trivial⟩, Nat.le_of_ble_eq_true rfl⟩ ?_
  refine Aw.ss rfl ?_
  refine RegL.partE tab_ok mb0 false 2 0 [] ?_
  conv => arg 5; whnf
  refine PartK.mk ?zo ?zk
  case zo =>
    repeat' apply AllP.cons
    all_goals first | exact trivial | exact Nat.le_of_ble_eq_true rfl
  case zk =>
  refine Does.raw rfl (DoesR.call rfl rfl (enters_of Try.func73 rfl rfl) (put_frame hput (H := _) (c := _) ⟨rfl, rfl, rfl, rfl, trivial⟩) ?_)
  rintro v H' c' ⟨rfl, rfl, rfl⟩
  refine RegL.partE tab_ok mb0 false 9 3 [] ?_
  conv => arg 5; whnf
  refine PartK.mk ?zo ?zk
  case zo =>
    repeat' apply AllP.cons
    all_goals first | exact trivial
  case zk =>
  exact Aw.ret ⟨_, .cons (.tmp _) .nil, rfl, ⟨rfl, trivial⟩⟩
theorem ldH_dom (cd : CDay) (m : Ld) (i : Nat) : (ofH (ldH cd m) i).isSome = true ↔ i = 1 := by
  simp only [ldH, ofH, updH_apply]
  by_cases h1 : i = 1 <;> simp [h1]
theorem ldH_nms (cd : CDay) (m : Ld) (i : Nat) (bx : B) (h : ofH (ldH cd m) i = some bx) : i = 1 ∧ NmsB (fun i => i = 1) bx := by
  refine ⟨(ldH_dom cd m i).1 (by rw [h]; rfl), ?_⟩
  simp only [ldH, ofH, updH_apply] at h
  split at h
  · cases h; exact .map _ fun p hp => ⟨(encM_free valL_free m p hp).1.nms, (encM_free valL_free m p hp).2.nms⟩
  · cases h
theorem ldH_under (cd : CDay) (m : Ld) {n : Nat} (h : 1 < n) : UnderH n (ldH cd m) := ⟨⟨h, encL_under _ _ _⟩, trivial⟩
theorem work_nms (cd : CDay) : ∀ x ∈ workC cd, Nms (fun i => i = 1) x := fun x hx => by
  rcases List.mem_append.1 hx with h1 | h1
  · exact (cd.free x h1).nms
  · simp at h1; subst h1; exact .mp _ rfl
theorem take_frame (cd : CDay) (hd : DayOk cd.g) (h8 : cd.u.length = 8) (lot : Nat) (m : Ld) (hlot : lot < cd.g.lots.length) (hm : MOk cd.g.lots.length m) {H : Hp} {c : Nat} (hH : HasH H (ldH cd m)) :
    SCall Try.prog 71 [.agg (workC cd), .int lot] H c fun v H1 c1 => v = .bool (takeF cd lot m).1 ∧ c1 = c ∧ H1 = overH H (ofH (ldH cd m)) (ofH (ldH cd (takeF cd lot m).2)) := by
  have dn : (fun i => (ofH (ldH cd m) i).isSome = true) = fun i => i = 1 := by funext i; exact propext (ldH_dom cd m i)
  refine ((take_t cd hd h8 lot m hlot hm).frame (H := H) (c := c) (fun id bx hb => ?_) (fun id bx hb => ?_) ?_ ?_).mono ?_
  · rw [(ldH_nms cd m id bx hb).1]; decide
  · rw [dn]; exact ⟨(ldH_nms cd m id bx hb).2, hH.ofH id bx hb⟩
  · rw [dn]; exact allC (.agg _ (work_nms cd)) (all1 (.s _))
  · rintro v H' c' ⟨rfl, rfl⟩
    rw [dn]
    refine ⟨.s _, fun id bx hb => ?_⟩
    have := ldH_nms cd _ id bx hb
    exact ⟨(ldH_dom cd m id).2 this.1, this.2⟩
  · rintro v H1 c1 ⟨H', c', ⟨rfl, rfl⟩, h2, h3⟩
    exact ⟨rfl, h3, h2⟩
theorem rate_le {d : Day} (hd : DayOk d) : ∀ p, rateAt d p ≤ 20 := fun p => by
  unfold rateAt
  simp only [List.getD_eq_getElem?_getD]
  cases e : d.wks[p / d.hours.toNat]? with
  | none => simp [wkD]
  | some w => exact (wkOk_iff (hd.wks w (List.mem_of_getElem? e))).2.2.2.2
theorem takeF_keeps {cd : CDay} (hd : DayOk cd.g) {lot : Nat} {m : Ld} (hlot : lot < cd.g.lots.length) (hm : MOk cd.g.lots.length m) : MOk cd.g.lots.length (takeF cd lot m).2 :=
  (putF_keeps cd hd.nl (rate_le hd) (slotsN cd + 1) lot [] m hlot hm).1
def crF (cd : CDay) (i : Nat) : Nat → Ld × Int → Ld × Int
  | 0, s => s
  | n + 1, s => crF cd i n ((takeF cd i s.1).2, if (takeF cd i s.1).1 then s.2 else s.2 + 1)
def dnF (cd : CDay) : List Lot → Nat → Ld × Int → Ld × Int
  | [], _, s => s
  | l :: ls, i, s => dnF cd ls (i + 1) (crF cd i l.crans.toNat s)
def doneF (cd : CDay) : Ld × Int := dnF cd cd.g.lots 0 ([], 0)
def z99 : List A := [.int 0, .sl true .exact [], .sl true .exact [], .sl true .exact [], .int 0, .int 0, .int 0, .int 0, .int 0, .int 0, .int 0, .int 0, .s (.map none)]
theorem nil_under {n : Nat} (b : Bool) (c : Cap) : Under n (.sl b c []) := .sl _ _ _ (fun _ h => by cases h)
theorem z99_under {n : Nat} : ∀ x ∈ z99, Under n x := allC (.s _) (allC (nil_under _ _) (allC (nil_under _ _) (allC (nil_under _ _) (allC (.s _) (allC (.s _) (allC (.s _) (allC (.s _) (allC (.s _) (allC (.s _) (allC (.s _) (allC (.s _) (all1 (.s _)))))))))))))
theorem work_down (cd : CDay) : (workC cd).map A.down = workC cd := by unfold workC; rw [List.map_append, CDay.down]; rfl
theorem work13 (cd : CDay) (h8 : cd.u.length = 8) : A.agg (((List.drop 0 (workC cd)).take 13).map A.down) = .agg (workC cd) := by
  rw [List.drop_zero, List.take_of_length_le (by rw [work_len cd h8]; exact Nat.le_refl _), work_down]
theorem done_t (cd : CDay) (hd : DayOk cd.g) (h8 : cd.u.length = 8) :
    SCall Try.prog 62 [.agg cd.c] (fun _ => none) 0 (fun v H' _ => v = .tup [.agg (workC cd), .int (doneF cd).2] ∧ H' = ofH (ldH cd (doneF cd).1)) := by
  have nl := hd.nl
  unfold doneF
  generalize hR : dnF cd cd.g.lots 0 ([], 0) = R
  refine SCall.drop (post := fun v H' _ => v = .tup [.agg (workC cd), .int R.2] ∧ HasH H' (ldH cd R.1)) (SCall.of_bodyN tab_ok Try.func62 rfl Try.ntmps62 (Nat.le_of_ble_eq_true rfl) (all1 fun _ => rfl) fun E hE => ?_)
    (fun v H' c' h => ⟨_, h.2.ofH, h.1, rfl⟩)
  obtain ⟨a, b, c, d, e, f, g, h, hu⟩ : ∃ a b c d e f g h, cd.u = [a, b, c, d, e, f, g, h] := by
    match cd.u, h8 with
    | [a, b, c, d, e, f, g, h], _ => exact ⟨a, b, c, d, e, f, g, h, rfl⟩
  obtain ⟨dy, us⟩ := cd
  simp only at hu
  subst hu
  refine Aw.sm tab_ok mb0 [] rfl rfl ?zo ?zk
  case zo =>
    repeat' apply AllP.cons
    all_goals first | exact trivial
  case zk =>
  refine Aw.sm tab_ok mb0 [] rfl rfl ?zo ?zk
  case zo =>
    repeat' apply AllP.cons
    all_goals first | exact trivial | exact rfl | exact Nat.le_of_ble_eq_true rfl
  case zk =>
  have h3E : ∀ id, 3 ≤ id → E.φ0 id = none := fun id h => hE id (by omega)
  generalize hcd : (⟨dy, [a, b, c, d, e, f, g, h]⟩ : CDay) = cd at *
  refine Aw.keep (n := 3) (cst := [(1, .pt cd.c), (2, .ref 0 0), (4, .ref 2 0)]) (v := [(5, .int 0)]) (Hl := [(0, .cells z99), (1, .map []), (2, .cells (workC cd))]) h3E ⟨.pt _ fun x hx => (cd.free x hx).under, .ref _ _ (by decide), .ref _ _ (by decide), trivial⟩ ⟨.s _, trivial⟩
    ⟨⟨by decide, .cells _ z99_under⟩, ⟨by decide, .map _ (fun _ h => by cases h)⟩, ⟨by decide, .cells _ (work_under cd (by decide))⟩, trivial⟩
    ⟨⟨.of_eq (by rw [← hcd]; rfl), .refl _, .refl _, trivial⟩, ⟨.refl _, trivial⟩, ⟨rfl, rfl, by rw [← hcd]; rfl, trivial⟩, Nat.le_of_ble_eq_true rfl⟩ ?_
  refine Aw.seq ?_
  refine Aw.sm tab_ok mb0 [] rfl rfl ?zo ?zk
  case zo =>
    repeat' apply AllP.cons
    all_goals first | exact trivial | exact Nat.le_of_ble_eq_true rfl
  case zk =>
  have ll : ((cd.g.lots.map Lot.c).length : Int) = cd.g.lots.length := by simp
  have w13 := work13 cd h8
  have l13 : 0 + 13 ≤ (workC cd).length := by rw [work_len cd h8]; decide
  have ulots : Under 3 cd.g.lotsA := (free_map Lot.free _ _ _).under
  have HU : ∀ m : Ld, UnderH 3 [(0, .cells z99), (1, .map (encM (slotE cd.g) valL m)), (2, .cells (workC cd))] := fun m => ⟨⟨by decide, .cells _ z99_under⟩, ⟨by decide, encL_under _ _ _⟩, ⟨by decide, .cells _ (work_under cd (by decide))⟩, trivial⟩
  refine Aw.block (Aw.rounds (ι := Nat × Ld × Int) 3 h3E [(2, .ref 0 0), (4, .ref 2 0), (13, cd.g.lotsA), (14, .int (cd.g.lots.map Lot.c).length)] (fun i => [(5, .int i.2.2), (15, .int i.1)])
    (fun i => [(0, .cells z99), (1, .map (encM (slotE cd.g) valL i.2.1)), (2, .cells (workC cd))])
    (fun i => i.1 ≤ cd.g.lots.length ∧ MOk cd.g.lots.length i.2.1 ∧ 0 ≤ i.2.2 ∧ i.2.2 ≤ 50 * i.1 ∧ dnF cd (cd.g.lots.drop i.1) i.1 (i.2.1, i.2.2) = R) (fun i => cd.g.lots.length - i.1) (0, [], 0)
    ⟨Nat.zero_le _, (fun _ _ h => by cases h), Int.le_refl _, Int.le_refl _, by rw [List.drop_zero]; exact hR⟩ ⟨⟨.refl _, .refl _, .refl _, .refl _, trivial⟩, ⟨.refl _, .refl _, trivial⟩, ⟨rfl, rfl, rfl, trivial⟩, Nat.le_of_ble_eq_true rfl⟩
    ⟨.ref _ _ (by decide), .ref _ _ (by decide), ulots, .s _, trivial⟩ (fun _ _ => ⟨.s _, .s _, trivial⟩) (fun i _ => HU i.2.1) ?_)
  rintro ⟨k, m, lost⟩ ⟨hk, hm, h0, h50, hrun⟩
  simp only at hk hm h0 h50 hrun
  refine Aw.sm tab_ok mb0 [] rfl rfl ?zo ?zk
  case zo =>
    repeat' apply AllP.cons
    all_goals first | exact trivial
  case zk =>
  refine Aw.seq (Aw.cond rfl (fun h1 => Aw.skip1 ?_) (fun h1 => Aw.exit2 ?_))
  · have hlt : k < cd.g.lots.length := by have := of_decide_eq_true h1; omega
    have hdrop : cd.g.lots.drop k = cd.g.lots[k] :: cd.g.lots.drop (k + 1) := List.drop_eq_getElem_cons hlt
    rw [hdrop, dnF] at hrun
    have lo := lotOk_iff (hd.lots _ (List.getElem_mem hlt))
    generalize hl : cd.g.lots[k] = l at *
    have hlget : (cd.g.lots.map Lot.c)[k]? = some l.c := by rw [← hl]; exact get_map hlt
    refine Aw.seq (Aw.block ?_)
    refine Aw.sm tab_ok mb0 [(1, l.c)] rfl rfl ?zo ?zk
    case zo =>
      repeat' apply AllP.cons
      all_goals first | exact trivial | exact rfl | exact Nat.le_of_ble_eq_true rfl | exact Int.natCast_nonneg _ | exact hlget
    case zk =>
    refine Aw.sm tab_ok mb0 [] rfl rfl ?zo ?zk
    case zo =>
      repeat' apply AllP.cons
      all_goals first | exact trivial | exact Nat.le_of_ble_eq_true rfl
    case zk =>
    refine Aw.block (Aw.rounds (ι := Nat × Ld × Int) 3 h3E [(2, .ref 0 0), (4, .ref 2 0), (6, .int k), (13, cd.g.lotsA), (14, .int (cd.g.lots.map Lot.c).length), (15, .int k), (21, .int l.crans)] (fun i => [(5, .int i.2.2), (22, .int i.1)])
      (fun i => [(0, .cells z99), (1, .map (encM (slotE cd.g) valL i.2.1)), (2, .cells (workC cd))])
      (fun i => (i.1 : Int) ≤ l.crans ∧ MOk cd.g.lots.length i.2.1 ∧ 0 ≤ i.2.2 ∧ i.2.2 ≤ 50 * k + i.1 ∧ dnF cd (cd.g.lots.drop (k + 1)) (k + 1) (crF cd k (l.crans.toNat - i.1) (i.2.1, i.2.2)) = R) (fun i => l.crans.toNat - i.1) (0, m, lost)
      ⟨by show (0 : Int) ≤ _; omega, hm, h0, by show lost ≤ 50 * k + ((0 : Nat) : Int); omega, hrun⟩ ⟨⟨.refl _, .refl _, .refl _, .refl _, .refl _, .refl _, .refl _, trivial⟩, ⟨.refl _, .refl _, trivial⟩, ⟨rfl, rfl, rfl, trivial⟩, Nat.le_of_ble_eq_true rfl⟩
      ⟨.ref _ _ (by decide), .ref _ _ (by decide), .s _, ulots, .s _, .s _, .s _, trivial⟩ (fun _ _ => ⟨.s _, .s _, trivial⟩) (fun i _ => HU i.2.1) ?_)
    rintro ⟨j, m2, lost2⟩ ⟨hj, hm2, h02, h502, hrun2⟩
    simp only at hj hm2 h02 h502 hrun2
    refine Aw.sm tab_ok mb0 [] rfl rfl ?zo ?zk
    case zo =>
      repeat' apply AllP.cons
      all_goals first | exact trivial
    case zk =>
    refine Aw.seq (Aw.cond rfl (fun h3 => Aw.skip1 ?_) (fun h3 => Aw.exit2 ?_))
    · have hjl : (j : Int) < l.crans := of_decide_eq_true h3
      have hsucc : l.crans.toNat - j = (l.crans.toNat - (j + 1)) + 1 := by omega
      rw [hsucc, crF] at hrun2
      refine Aw.seq (Aw.block ?_)
      refine Aw.ss rfl ?_
      refine RegL.partE tab_ok mb0 false 2 0 [(0, [.agg (workC cd)])] ?_
      conv => arg 5; whnf
      refine PartK.mk ?zo ?zk
      case zo =>
        repeat' apply AllP.cons
        all_goals first | exact trivial | exact w13 | exact l13
      case zk =>
      refine Does.raw rfl (DoesR.call rfl rfl (enters_of Try.func71 rfl rfl) (take_frame cd hd h8 k m2 hlt hm2 (H := _) (c := _) ⟨rfl, trivial⟩) ?_)
      rintro v H' c' ⟨rfl, rfl, rfl⟩
      have hkp := takeF_keeps hd hlt hm2
      generalize takeF cd k m2 = T at *
      obtain ⟨tb, tm⟩ := T
      refine RegL.partE tab_ok mb0 false 9 3 [] ?_
      conv => arg 5; whnf
      refine PartK.mk ?zo ?zk
      case zo =>
        repeat' apply AllP.cons
        all_goals first | exact trivial
      case zk =>
      cases tb with
      | true =>
        refine Aw.cond rfl (fun h => by cases h) (fun _ => Aw.skip ?_)
        refine Aw.em tab_ok mb0 [] rfl rfl ?zo ?zk
        case zo =>
          repeat' apply AllP.cons
          all_goals first | exact trivial | exact (by simp only [Ob.of, inR]; omega)
        case zk =>
        exact ⟨(j + 1, tm, lost2), ⟨by show ((j + 1 : Nat) : Int) ≤ _; omega, hkp, h02, by show lost2 ≤ 50 * k + ((j + 1 : Nat) : Int); omega, hrun2⟩, by show l.crans.toNat - (j + 1) < l.crans.toNat - j; omega, ⟨.refl _, .refl _, .refl _, .refl _, .refl _, .refl _, .refl _, trivial⟩, ⟨.refl _, .refl _, trivial⟩, ⟨rfl, rfl, rfl, trivial⟩, Nat.le_of_ble_eq_true rfl⟩
      | false =>
        refine Aw.cond rfl (fun _ => ?_) (fun h => by cases h)
        refine Aw.em tab_ok mb0 [] rfl rfl ?zo ?zk
        case zo =>
          repeat' apply AllP.cons
          all_goals first | exact trivial | exact (by simp only [Ob.of, inR]; omega)
        case zk =>
        refine Aw.em tab_ok mb0 [] rfl rfl ?zo ?zk
        case zo =>
          repeat' apply AllP.cons
          all_goals first | exact trivial | exact (by simp only [Ob.of, inR]; omega)
        case zk =>
        exact ⟨(j + 1, tm, lost2 + 1), ⟨by show ((j + 1 : Nat) : Int) ≤ _; omega, hkp, by show 0 ≤ lost2 + 1; omega, by show lost2 + 1 ≤ 50 * k + ((j + 1 : Nat) : Int); omega, hrun2⟩, by show l.crans.toNat - (j + 1) < l.crans.toNat - j; omega, ⟨.refl _, .refl _, .refl _, .refl _, .refl _, .refl _, .refl _, trivial⟩, ⟨.refl _, .refl _, trivial⟩, ⟨rfl, rfl, rfl, trivial⟩, Nat.le_of_ble_eq_true rfl⟩
    · have hend : l.crans.toNat - j = 0 := by have := of_decide_eq_false h3; omega
      rw [hend, crF] at hrun2
      refine Aw.em tab_ok mb0 [] rfl rfl ?zo ?zk
      case zo =>
        repeat' apply AllP.cons
        all_goals first | exact trivial | exact (by simp only [Ob.of, inR]; omega)
      case zk =>
      exact ⟨(k + 1, m2, lost2), ⟨hlt, hm2, h02, by show lost2 ≤ 50 * ((k + 1 : Nat) : Int); omega, hrun2⟩, by show cd.g.lots.length - (k + 1) < cd.g.lots.length - k; omega, ⟨.refl _, .refl _, .refl _, .refl _, trivial⟩, ⟨.refl _, .refl _, trivial⟩, ⟨rfl, rfl, rfl, trivial⟩, Nat.le_of_ble_eq_true rfl⟩
  · have hend : k = cd.g.lots.length := by have := of_decide_eq_false h1; omega
    subst hend
    rw [List.drop_length, dnF] at hrun
    subst hrun
    have hz : setSeg z99 0 ((workC cd).map A.down) = workC cd := by rw [work_down]; exact setSeg_all (by rw [work_len cd h8]; rfl)
    refine Aw.sm tab_ok mb0 [(0, [.agg (workC cd)])] rfl rfl ?zo ?zk
    case zo =>
      repeat' apply AllP.cons
      all_goals first | exact trivial | exact Nat.le_of_ble_eq_true rfl | exact w13 | exact l13 | exact work_len cd h8
    case zk =>
    exact Aw.ret ⟨_, .cons (resC rfl rfl rfl (show Nat.ble (0 + 13) (setSeg z99 0 ((workC cd).map A.down)).length = true by rw [hz, work_len cd h8]; rfl) (show A.agg (((List.drop 0 (setSeg z99 0 ((workC cd).map A.down))).take 13).map A.down) = _ by rw [hz]; exact w13)) (.cons (.tmp _) .nil), rfl, ⟨rfl, trivial⟩⟩
end Go.Proofs.Ytimikmfkdaoaaaa
namespace Go.Proofs.Ytimikmfkdaoaaaa
open Go Go.AL
def ia (l : List Int) : Value := .agg (l.map (Value.int .i64)).toArray
set_option maxRecDepth 100000 in
theorem eqA (t : Nat) (h1 : pureRun Try.prog (underlying t) = some (.array 8 3)) (l m : List Int) (hl : l.length = 8) (hm : m.length = 8) : pureRun Try.prog (Op.equal t (ia l) (ia m)) = some (l == m) := by
  have h4 : pureRun Try.prog (sizeOf 3) = some 1 := rfl
  have h5 : pureRun Try.prog (isAgg 3) = some false := rfl
  have pp : ∀ {α : Type} (x : α), pureRun Try.prog (pure x) = some x := fun x => rfl
  have pt : ∀ (xs : Array Value) (i : Nat) (x : Value), xs[i]? = some x → pureRun Try.prog (part 3 xs i) = some x := fun xs i x h => by
    simp [part, pureRun_bind, h5, h, pp]
  rw [Op.equal, Op.maxDepth, show (10000 : Nat) = 9999 + 1 from rfl, Op.equalIn, pureRun_bind, h1]
  match l, m, hl, hm with
  | [a0, a1, a2, a3, a4, a5, a6, a7], [b0, b1, b2, b3, b4, b5, b6, b7], _, _ =>
  simp only [Option.bind_some, ia, pureRun_bind, h4, List.map]
  simp only [Std.Legacy.Range.forIn_eq_forIn_range', Std.Legacy.Range.size]
  have pts : ∀ (c0 c1 c2 c3 c4 c5 c6 c7 : Int) (i : Nat) (x : Value), [Value.int .i64 c0, Value.int .i64 c1, .int .i64 c2, .int .i64 c3, .int .i64 c4, .int .i64 c5, .int .i64 c6, .int .i64 c7][i]? = some x →
    pureRun Try.prog (part 3 (List.toArray [Value.int .i64 c0, Value.int .i64 c1, .int .i64 c2, .int .i64 c3, .int .i64 c4, .int .i64 c5, .int .i64 c6, .int .i64 c7]) i) = some x := fun c0 c1 c2 c3 c4 c5 c6 c7 i x h => pt _ _ _ (by simpa using h)
  have r8 : List.range' 0 ((8 - 0 + 1 - 1) / 1) = [0, 1, 2, 3, 4, 5, 6, 7] := rfl
  rw [r8]
  by_cases e0 : a0 = b0
  · subst e0
    by_cases e1 : a1 = b1
    · subst e1
      by_cases e2 : a2 = b2
      · subst e2
        by_cases e3 : a3 = b3
        · subst e3
          by_cases e4 : a4 = b4
          · subst e4
            by_cases e5 : a5 = b5
            · subst e5
              by_cases e6 : a6 = b6
              · subst e6
                by_cases e7 : a7 = b7
                · subst e7
                  simp [pureRun_bind, pts, eq3, pp]
                · simp [pureRun_bind, pts, eq3, pp, e7]
              · simp [pureRun_bind, pts, eq3, pp, e6]
            · simp [pureRun_bind, pts, eq3, pp, e5]
          · simp [pureRun_bind, pts, eq3, pp, e4]
        · simp [pureRun_bind, pts, eq3, pp, e3]
      · simp [pureRun_bind, pts, eq3, pp, e2]
    · simp [pureRun_bind, pts, eq3, pp, e1]
  · simp [pureRun_bind, pts, eq3, pp, e0]
theorem conc_ints : ∀ l : List Int, concA (.agg (l.map A.int)) = some (ia l) := by
  have h : ∀ l : List Int, concCells (l.map A.int) = some (l.map (Value.int .i64)) := fun l => by
    induction l with
    | nil => rfl
    | cons a l ih => simp only [List.map_cons, concCells, concA, ih]
  intro l
  simp only [concA, h]; rfl
set_option maxRecDepth 100000 in
theorem und79 : pureRun Try.prog (underlying 79) = some (.array 8 3) := by
  have h : pureRun Try.prog (underlying 79) = Try.prog.underlying 79 := rfl
  rw [h, Try.underlying79]
set_option maxRecDepth 100000 in
theorem und104 : pureRun Try.prog (underlying 104) = some (.array 8 3) := by
  have h : pureRun Try.prog (underlying 104) = Try.prog.underlying 104 := rfl
  rw [h, Try.underlying104]
theorem eg79 : Try.prog.eqGuardType Try.prog.depth 79 = false := by kernel_rfl
theorem eg104 : Try.prog.eqGuardType Try.prog.depth 104 = false := by kernel_rfl
set_option maxRecDepth 100000 in
theorem neA {t : Nat} (h1 : pureRun Try.prog (underlying t) = some (.array 8 3)) (hg : Try.prog.eqGuardType Try.prog.depth t = false) (x y : Operand) {l m : List Int} (hl : l.length = 8) (hm : m.length = 8) : EqIs tab .neq t x y (.agg (l.map A.int)) (.agg (m.map A.int)) (!(l == m)) := by
  refine ⟨_, _, conc_ints l, conc_ints m, (congrFun (congrFun (congrFun (congrFun (congrFun (congrFun (show tab.eqv = pureEq Try.prog from rfl) _) _) _) _) _) _).trans ?_⟩
  show pureEq Try.prog .neq t x y (ia l) (ia m) = _
  have h2 := eqA t h1 l m hl hm
  have hp : pureRun Try.prog program = some Try.prog := rfl
  have pp : ∀ {α : Type} (x : α), pureRun Try.prog (pure x) = some x := fun x => rfl
  have e1 : pureRun Try.prog (eqGuard .neq t x y (ia l) (ia m)) = some () := by
    simp [eqGuard, ia, pureRun_bind, hp, hg, pp]
  have e2 : pureRun Try.prog (binOp .neq t (ia l) (ia m)) = some (.bool (!(l == m))) := by
    have : binOp .neq t (ia l) (ia m) = (Op.equal t (ia l) (ia m) >>= fun b => pure (.bool (!b))) := rfl
    rw [this, pureRun_bind, h2]; rfl
  unfold pureEq
  rw [pureRun_bind, e1]
  exact e2
theorem work_ren {φ φ' : Names} {Z : Still} {w : World} {c : List A} {x : A} {k nm b : Nat} {u : Value} (hc : ∀ y ∈ c, Free y) (hx : Free x) (h1 : φ k = some b) (h2 : φ' nm = some b)
    (h : VR φ Z w (.tup [.agg (c ++ [.mp k]), x]) u) : VR φ' Z w (.tup [.agg (c ++ [.mp nm]), x]) u := by
  obtain ⟨vs, rfl, q1, q2⟩ := inv_tup h
  refine .tup _ _ q1 fun i hi => ?_
  have q3 := q2 i hi
  match i, hi with
  | 0, _ =>
    have q3 : VR φ Z w (.agg (c ++ [.mp k])) (vs.getD 0 undef) := q3
    show VR φ' Z w (.agg (c ++ [.mp nm])) (vs.getD 0 undef)
    obtain ⟨us, e, r1, r2, r3⟩ := inv_agg q3
    rw [e]
    refine .agg _ _ (by simpa using r1) (fun j hj => r2 j (by simpa using hj)) fun j hj => ?_
    have r := r3 j (by simpa using hj)
    by_cases hjc : j < c.length
    · have g : ∀ y : A, (c ++ [y]).getD j .un = c[j] := fun y => by rw [List.getD_eq_getElem?_getD, List.getElem?_append_left hjc]; simp [hjc]
      rw [g] at r ⊢
      exact r.nms (D := fun _ => False) (hc _ (List.getElem_mem hjc)).nms fun _ _ h => h.elim
    · have hje : j = c.length := by simp at hj; omega
      subst hje
      have g : ∀ y : A, (c ++ [y]).getD c.length .un = y := fun y => by simp [List.getD_eq_getElem?_getD]
      rw [g] at r ⊢
      obtain ⟨b', e', h3⟩ := inv_mp r
      rw [h1] at h3; cases h3
      rw [e']; exact .mp _ _ h2
  | 1, _ => exact VR.nms (D := fun _ => False) (show VR φ Z w x (vs.getD 1 undef) from q3) hx.nms fun _ _ h => h.elim
theorem done_p (cd : CDay) (hd : DayOk cd.g) (h8 : cd.u.length = 8) : Ans Try.prog 62 [.agg cd.c] (.tup [.agg (List.replicate 13 .un), .int (doneF cd).2]) := by
  refine told Try.func62 rfl rfl (Pure.of_scall (all1 (.agg _ cd.free)) ((done_t cd hd h8).le fun v H' c' h => ⟨_, ?_, rfl⟩) (.tup _ (allC (.agg _ fun x hx => by rw [(List.mem_replicate.1 hx).2]; exact .un) (all1 (.s _)))))
  obtain ⟨rfl, _⟩ := h
  refine ⟨fun φ Z w u hv => ?_, fun u p h => by simp [spareOf] at h⟩
  obtain ⟨vs, rfl, h1, h2⟩ := inv_tup hv
  refine .tup _ _ h1 fun i hi => ?_
  match i, hi with
  | 0, _ =>
    have q3 : VR φ Z w (.agg (workC cd)) (vs.getD 0 undef) := h2 0 (Nat.le_of_ble_eq_true rfl)
    show VR φ Z w (.agg (List.replicate 13 .un)) (vs.getD 0 undef)
    obtain ⟨us, e, r1, r2, r3⟩ := inv_agg q3
    rw [e]
    have h13 := work_len cd h8
    refine .agg _ _ (by rw [r1, h13]; simp) (fun j hj => r2 j (by rw [h13]; simpa using hj)) fun j hj => ?_
    have : (List.replicate 13 A.un).getD j .un = .un := by rw [List.getD_eq_getElem?_getD, List.getElem?_replicate]; split <;> rfl
    rw [this]; exact .un _
  | 1, _ => exact h2 1 (Nat.le_of_ble_eq_true rfl)
theorem done_n (cd : CDay) (hd : DayOk cd.g) (h8 : cd.u.length = 8) (nm : Nat) : NewMap Try.prog 62 [.agg cd.c] nm (.tup [.agg (cd.c ++ [.mp nm]), .int (doneF cd).2]) (encM (slotE cd.g) valL (doneF cd).1) :=
  NewMap.of (k := 1) (enters_of Try.func62 rfl rfl) (all1 (.agg _ cd.free)) (fun p hp => encM_free valL_free _ p hp) (done_t cd hd h8)
    (fun φ φ' Z w u b h1 h2 h3 => work_ren cd.free (.s _) h1 h2 h3) fun u => rfl
end Go.Proofs.Ytimikmfkdaoaaaa
namespace Go.Proofs.Ytimikmfkdaoaaaa
open Go Go.AL
def lostE (d : Day) (f : Spn → Int) : Int := (doneF (opened d f)).2
def toldR (d : Day) : List A := if d.ok then [.agg [.int (lostE d Spn.lo), .int (lostE d Spn.hi)], .int 0] else [.agg [.int 0, .int 0], .int 50]
theorem opened8 {d : Day} (hd : DayOk d) (f : Spn → Int) : (opened d f).u.length = 8 := openU_len d f _ hd.nl (Nat.le_refl _)
theorem day12 (cd : CDay) (h8 : cd.u.length = 8) : A.agg (((List.drop 0 cd.c).take 12).map A.down) = .agg cd.c := by
  rw [List.drop_zero, List.take_of_length_le (by rw [CDay.len h8]; exact Nat.le_refl _), CDay.down]
theorem day_u (cd : CDay) (h8 : cd.u.length = 8) : A.agg (((List.drop 4 cd.c).take 8).map A.down) = .agg (cd.u.map A.int) := by
  have : List.drop 4 cd.c = cd.u.map A.int := rfl
  rw [this, List.take_of_length_le (by simp [h8]), map_down_int]
theorem un13_under {n : Nat} : Under n (.agg (List.replicate 13 .un)) := .agg _ fun x hx => by rw [(List.mem_replicate.1 hx).2]; exact .un
theorem told_t (d : Day) (hs : Small d) : Ans Try.prog 30 [.agg d.c] (.tup (toldR d)) := by
  have hfr : Free (.tup (toldR d)) := .tup _ (by
    unfold toldR; split <;> exact allC (.agg _ (allC (.s _) (all1 (.s _)))) (all1 (.s _)))
  refine told Try.func30 rfl rfl (Pure.of tab_ok Try.func30 rfl Try.ntmps30 rfl (all1 (.agg _ d.free)) (all1 (fun _ => rfl)) (by first | exact .s _ | assumption | exact .tup _ (by intro x hx; simp only [List.mem_cons, List.not_mem_nil, or_false] at hx; rcases hx with rfl | rfl | rfl | rfl <;> first | exact .s _ | (simp_all; done))) fun E hE => ?_)
  refine Aw.sm tab_ok mb0 [] rfl rfl ?zo ?zk
  case zo =>
    repeat' apply AllP.cons
    all_goals first | exact trivial
  case zk =>
  refine Aw.seq ?_
  refine Aw.sm tab_ok mb0 [(1, [.int d.errA])] rfl rfl ?zo ?zk
  case zo =>
    repeat' apply AllP.cons
    all_goals first | exact trivial | exact Nat.le_of_ble_eq_true rfl | exact check_s hs
  case zk =>
  refine Aw.sm tab_ok mb0 [] rfl rfl ?zo ?zk
  case zo =>
    repeat' apply AllP.cons
    all_goals first | exact trivial
  case zk =>
  refine Aw.cond rfl (fun h1 => ?_) (fun h1 => Aw.skip ?_)
  · have hno : d.ok = false := by
      cases h : d.ok with
      | false => rfl
      | true => rw [err_ok h] at h1; exact absurd h1 (by decide)
    refine Aw.sm tab_ok mb0 [] rfl rfl ?zo ?zk
    case zo =>
      repeat' apply AllP.cons
      all_goals first | exact trivial | exact rfl | exact Nat.le_of_ble_eq_true rfl
    case zk =>
    exact Aw.ret ⟨_, .cons (resC rfl rfl rfl rfl rfl) (.cons (.tmp _) .nil), by simp only [toldR, hno]; rw [err_no hno]; rfl⟩
  have hok : d.ok = true := by
    cases h : d.ok with
    | true => rfl
    | false => rw [err_no h] at h1; exact absurd h1 (by decide)
  have hd := DayOk.of hok
  have g8 := opened8 hd
  have e81 : ∀ f, setSeg (List.map A.down (tab.zr 81)) 0 ((opened d f).c.map A.down) = (opened d f).c := fun f => by rw [CDay.down]; exact setSeg_all (by rw [CDay.len (g8 f)]; rfl)
  refine Aw.sd tab_ok mixed mb0 [(1, [.agg (endC 69)]), (2, [.agg (opened d Spn.hi).c]), (4, [.agg (endC 70)]), (5, [.agg (opened d Spn.lo).c])] rfl (by kernel_rfl) rfl rfl ?zo ?zk
  case zo =>
    repeat' apply AllP.cons
    all_goals first | exact trivial | exact Nat.le_of_ble_eq_true rfl | exact surely_t | exact bestE_t | exact opened_t d 69 _ surely_ok hd | exact opened_t d 70 _ best_ok hd | exact CDay.len (g8 _)
  case zk =>
  generalize hhot : opened d Spn.hi = hot at *
  generalize hcool : opened d Spn.lo = cool at *
  have hg1 : hot.g = d := by rw [← hhot]; rfl
  have hg2 : cool.g = d := by rw [← hcool]; rfl
  have h81 : hot.u.length = 8 := by rw [← hhot]; exact g8 _
  have h82 : cool.u.length = 8 := by rw [← hcool]; exact g8 _
  have hd1 : DayOk hot.g := hg1 ▸ hd
  have hd2 : DayOk cool.g := hg2 ▸ hd
  have e1 : setSeg (List.map A.down (tab.zr 81)) 0 (hot.c.map A.down) = hot.c := by rw [← hhot]; exact e81 _
  have e2 : setSeg (List.map A.down (tab.zr 81)) 0 (cool.c.map A.down) = cool.c := by rw [← hcool]; exact e81 _
  have h9 : ∀ id, 9 ≤ id → E.φ0 id = none := fun id h => hE id (by omega)
  have HU : UnderH 9 [(0, .cells [.int 0, .int 0]), (7, .cells hot.c), (8, .cells cool.c)] := ⟨⟨by decide, .cells _ (allC (.s _) (all1 (.s _)))⟩, ⟨by decide, .cells _ fun x hx => (hot.free x hx).under⟩, ⟨by decide, .cells _ fun x hx => (cool.free x hx).under⟩, trivial⟩
  refine Aw.keep (n := 9) (cst := [(2, .ref 0 0), (5, .ref 7 0), (6, .ref 8 0)]) (v := []) (Hl := [(0, .cells [.int 0, .int 0]), (7, .cells hot.c), (8, .cells cool.c)]) h9 ⟨.ref _ _ (by decide), .ref _ _ (by decide), .ref _ _ (by decide), trivial⟩ trivial HU
    ⟨⟨.refl _, .refl _, .refl _, trivial⟩, trivial, ⟨rfl, congrArg (fun x => some (B.cells x)) e1, congrArg (fun x => some (B.cells x)) e2, trivial⟩, Nat.le_of_ble_eq_true rfl⟩ ?_
  have L1 : lostE d Spn.hi = (doneF hot).2 := by rw [← hhot]; rfl
  have L2 : lostE d Spn.lo = (doneF cool).2 := by rw [← hcool]; rfl
  have l12 : ∀ cd : CDay, cd.u.length = 8 → 0 + 12 ≤ cd.c.length := fun cd h => by rw [CDay.len h]; exact Nat.le_refl _
  refine Aw.sm tab_ok mb0 [(0, [.agg hot.c]), (1, [.tup [.agg (List.replicate 13 .un), .int (doneF hot).2]])] rfl rfl ?zo ?zk
  case zo =>
    repeat' apply AllP.cons
    all_goals first | exact trivial | exact rfl | exact Nat.le_of_ble_eq_true rfl | exact done_p hot hd1 h81 | exact day12 hot h81 | exact l12 hot h81
  case zk =>
  refine Aw.keep (n := 9) (cst := [(2, .ref 0 0), (5, .ref 7 0), (6, .ref 8 0)]) (v := [(8, .int (doneF hot).2)]) (Hl := [(0, .cells [.int 0, .int 0]), (7, .cells hot.c), (8, .cells cool.c)]) h9 ⟨.ref _ _ (by decide), .ref _ _ (by decide), .ref _ _ (by decide), trivial⟩ ⟨.s _, trivial⟩ HU
    ⟨⟨.refl _, .refl _, .refl _, trivial⟩, ⟨.refl _, trivial⟩, ⟨rfl, rfl, rfl, trivial⟩, Nat.le_of_ble_eq_true rfl⟩ ?_
  refine Aw.sm tab_ok mb0 [] rfl rfl ?zo ?zk
  case zo =>
    repeat' apply AllP.cons
    all_goals first | exact trivial
  case zk =>
  refine Aw.seq ?_
  have u12 : ∀ cd : CDay, cd.u.length = 8 → 4 + 8 ≤ cd.c.length := fun cd h => by rw [CDay.len h]; exact Nat.le_refl _
  refine Aw.sm tab_ok mb0 [(1, [.agg (cool.u.map A.int)]), (3, [.agg (hot.u.map A.int)]), (4, [.bool (!(cool.u == hot.u))])] rfl rfl ?zo ?zk
  case zo =>
    repeat' apply AllP.cons
    all_goals first | exact trivial | exact neA und79 eg79 _ _ h82 h81 | exact day_u cool h82 | exact day_u hot h81 | exact u12 cool h82 | exact u12 hot h81
  case zk =>
  have fin : ∀ x : Int, x = (doneF cool).2 → A.tup [.agg [.int x, .int (doneF hot).2], .int 0] = .tup (toldR d) := fun x hx => by simp only [toldR, hok, L1, L2, hx]; rfl
  refine Aw.cond rfl (fun h2 => ?_) (fun h2 => Aw.skip ?_)
  · refine Aw.em tab_ok mb0 [(0, [.agg cool.c]), (1, [.tup [.agg (List.replicate 13 .un), .int (doneF cool).2]])] rfl rfl ?zo ?zk
    case zo =>
      repeat' apply AllP.cons
      all_goals first | exact trivial | exact done_p cool hd2 h82 | exact day12 cool h82 | exact l12 cool h82
    case zk =>
    refine Aw.sm tab_ok mb0 [] rfl rfl ?zo ?zk
    case zo =>
      repeat' apply AllP.cons
      all_goals first | exact trivial | exact rfl | exact Nat.le_of_ble_eq_true rfl
    case zk =>
    exact Aw.ret ⟨_, .cons (resC rfl rfl rfl rfl rfl) (.cons (.tmp _) .nil), fin _ rfl⟩
  · have heq : cool.u = hot.u := by simpa using h2
    have hce : cool = hot := by
      obtain ⟨a, b⟩ := cool; obtain ⟨a', b'⟩ := hot
      simp only at heq hg1 hg2; rw [heq, hg1, hg2]
    refine Aw.sm tab_ok mb0 [] rfl rfl ?zo ?zk
    case zo =>
      repeat' apply AllP.cons
      all_goals first | exact trivial | exact rfl | exact Nat.le_of_ble_eq_true rfl
    case zk =>
    exact Aw.ret ⟨_, .cons (resC rfl rfl rfl rfl rfl) (.cons (.tmp _) .nil), fin _ (by rw [hce])⟩
end Go.Proofs.Ytimikmfkdaoaaaa
namespace Go.Proofs.Ytimikmfkdaoaaaa
open Go Go.AL
def hire (d : Day) (w : Wk) : Day := { d with wn := false, wks := d.wks ++ [w] }
def helpF (d : Day) : List Wk → Nat → Int × Int → Int × Int
  | [], _, s => s
  | w :: ws, i, s => helpF d ws (i + 1) (if i = 0 ∨ lostE (hire d w) Spn.hi < s.2 then ((i : Int), lostE (hire d w) Spn.hi) else s)
def helpOk (d : Day) (ws : List Wk) : Bool := cond (wi (ws.map Wk.c).length 1 6) (ws.all fun w => isWorker w d.hours) false
def helpR (d : Day) (ws : List Wk) : List A := if d.ok then (if helpOk d ws then [.int (helpF d ws 0 (0, 0)).1, .int (helpF d ws 0 (0, 0)).2, .int 0] else [.int 0, .int 0, .int 52]) else [.int 0, .int 0, .int 50]
theorem DayOk.hire {d : Day} (h : d.ok = true) {w : Wk} (hw : isWorker w d.hours = true) : DayOk (hire d w) := by
  have hd := DayOk.of h
  have h4 := ac1 (ac1 (ac1 h))
  have g1 := ac2 h4
  simp only [List.length_map, decide_eq_true_eq] at g1
  refine ⟨hd.hours, hd.heat, hd.nl, ?_, hd.heats, hd.lots, fun x hx => ?_⟩
  · show (d.wks ++ [w]).length ≤ 7
    rw [List.length_append, List.length_singleton]; omega
  · have hx : x ∈ d.wks ++ [w] := hx
    rcases List.mem_append.1 hx with h1 | h1
    · exact hd.wks x h1
    · simp at h1; subst h1; exact hw
theorem help_t (d : Day) (b : Bool) (ws : List Wk) (hs : Small d) (hw : (ws.length : Int) ≤ 9223372036854775807) : Ans Try.prog 32 [.agg d.c, .sl b .any (ws.map Wk.c)] (.tup (helpR d ws)) := by
  have hfr : Free (.tup (helpR d ws)) := .tup _ (by
    unfold helpR; split
    · split <;> exact allC (.s _) (allC (.s _) (all1 (.s _)))
    · exact allC (.s _) (allC (.s _) (all1 (.s _))))
  have hwf : Free (.sl b .any (ws.map Wk.c)) := free_map Wk.free _ _ _
  refine told Try.func32 rfl rfl (Pure.of tab_ok Try.func32 rfl Try.ntmps32 rfl (allC (.agg _ d.free) (all1 (hwf))) (allC (fun _ => rfl) (all1 (fun _ => rfl))) (by first | exact .s _ | assumption | exact .tup _ (by intro x hx; simp only [List.mem_cons, List.not_mem_nil, or_false] at hx; rcases hx with rfl | rfl | rfl | rfl <;> first | exact .s _ | (simp_all; done))) fun E hE => ?_)
  refine Aw.sm tab_ok (fun t => Nat.beq t 2) [] rfl rfl ?zo ?zk
  case zo =>
    repeat' apply AllP.cons
    all_goals first | exact trivial
  case zk =>
  refine Aw.seq ?_
  refine Aw.sm tab_ok (fun t => Nat.beq t 2) [(0, [.agg d.c]), (1, [.int d.errA])] rfl rfl ?zo ?zk
  case zo =>
    repeat' apply AllP.cons
    all_goals first | exact trivial | exact rfl | exact Nat.le_of_ble_eq_true rfl | exact check_s hs
  case zk =>
  refine Aw.sm tab_ok (fun t => Nat.beq t 2) [] rfl rfl ?zo ?zk
  case zo =>
    repeat' apply AllP.cons
    all_goals first | exact trivial
  case zk =>
  refine Aw.cond rfl (fun h1 => ?_) (fun h1 => Aw.skip ?_)
  · have hno : d.ok = false := by
      cases h : d.ok with
      | false => rfl
      | true => rw [err_ok h] at h1; exact absurd h1 (by decide)
    refine Aw.sm tab_ok (fun t => Nat.beq t 2) [] rfl rfl ?zo ?zk
    case zo =>
      repeat' apply AllP.cons
      all_goals first | exact trivial
    case zk =>
    exact Aw.ret ⟨_, .cons (.tmp _) (.cons (.tmp _) (.cons (.tmp _) .nil)), by simp only [helpR, hno]; rw [err_no hno]; rfl⟩
  have hok : d.ok = true := by
    cases h : d.ok with
    | true => rfl
    | false => rw [err_no h] at h1; exact absurd h1 (by decide)
  have hd := DayOk.of hok
  have lw : ((ws.map Wk.c).length : Int) = ws.length := by simp
  have inr : ∀ k : Nat, (k : Int) ≤ 9223372036854775806 → inR ((k : Int) + 1) := fun k hk => by simp only [inR]; omega
  have h1E : ∀ id, 1 ≤ id → E.φ0 id = none := fun id h => hE id (by omega)
  have udc : UnderB 1 (.cells d.c) := .cells _ fun x hx => (d.free x hx).under
  refine Aw.sm tab_ok (fun t => Nat.beq t 2) [(2, [.bool (wi (ws.map Wk.c).length 1 6)])] rfl rfl ?zo ?zk
  case zo =>
    repeat' apply AllP.cons
    all_goals first | exact trivial | exact within_t _ _ _
  case zk =>
  refine Aw.seq ?_
  refine Aw.sm tab_ok (fun t => Nat.beq t 2) [] rfl rfl ?zo ?zk
  case zo =>
    repeat' apply AllP.cons
    all_goals first | exact trivial
  case zk =>
  refine Aw.block (Aw.rounds 1 h1E [(1, .sl b .any (ws.map Wk.c)), (2, .ref 0 0), (4, .int 0), (5, .int 0), (24, .sl b .any (ws.map Wk.c)), (25, .int (ws.map Wk.c).length)] (fun k : Nat => [(8, .bool (cond (wi (ws.map Wk.c).length 1 6) ((ws.take k).all fun w => isWorker w d.hours) false)), (26, .int k)]) (fun _ => [(0, .cells d.c)]) (fun k => k ≤ ws.length) (fun k => ws.length - k) 0
    (Nat.zero_le _) ⟨⟨.refl _, .refl _, .refl _, .refl _, .refl _, .refl _, trivial⟩, ⟨.of_eq (show A.bool (cond (wi (ws.map Wk.c).length 1 6) ((ws.take 0).all fun w => isWorker w d.hours) false) = A.bool (wi (ws.map Wk.c).length 1 6) by simp [c_and]), .refl _, trivial⟩, ⟨rfl, trivial⟩, Nat.le_refl _⟩
    ⟨hwf.under, .ref _ _ (by decide), .s _, .s _, hwf.under, .s _, trivial⟩ (fun _ _ => ⟨.s _, .s _, trivial⟩) (fun _ _ => ⟨⟨by decide, udc⟩, trivial⟩) fun k hk => ?_)
  refine Aw.sm tab_ok (fun t => Nat.beq t 2) [] rfl rfl ?zo ?zk
  case zo =>
    repeat' apply AllP.cons
    all_goals first | exact trivial
  case zk =>
  refine Aw.seq (Aw.cond rfl (fun h1 => Aw.skip1 ?_) (fun h1 => Aw.exit2 ?_))
  · have hlt : k < ws.length := by have := of_decide_eq_true h1; omega
    refine Aw.seq (Aw.block ?_)
    refine Aw.sm tab_ok (fun t => Nat.beq t 2) [(0, ws[k].c)] rfl rfl ?zo ?zk
    case zo =>
      repeat' apply AllP.cons
      all_goals first | exact trivial | exact rfl | exact Nat.le_of_ble_eq_true rfl | exact Int.natCast_nonneg _ | exact get_map hlt
    case zk =>
    refine Aw.em tab_ok (fun t => Nat.beq t 2) [(2, [.agg ws[k].c]), (5, [.bool (isWorker ws[k] d.hours)])] rfl rfl ?zo ?zk
    case zo =>
      repeat' apply AllP.cons
      all_goals first | exact trivial | exact id | exact fun _ => rfl | exact fun _ => Nat.le_of_ble_eq_true rfl | exact fun h => isWorker_t _ _ (inr1 _ hd.hours)
    case zk =>
    refine Aw.em tab_ok (fun t => Nat.beq t 2) [] rfl rfl ?zo ?zk
    case zo =>
      repeat' apply AllP.cons
      all_goals first | exact trivial | exact inr k (by omega)
    case zk =>
    exact ⟨k + 1, hlt, by omega, ⟨.refl _, .refl _, .refl _, .refl _, .refl _, .refl _, trivial⟩, ⟨.of_eq (show A.bool (cond (wi (ws.map Wk.c).length 1 6) ((ws.take (k + 1)).all fun w => isWorker w d.hours) false) = A.bool (cond (cond (wi (ws.map Wk.c).length 1 6) ((ws.take k).all fun w => isWorker w d.hours) false) (isWorker ws[k] d.hours) false) by rw [all_take_succ hlt]; simp only [c_and, Bool.and_assoc]), .refl _, trivial⟩, ⟨rfl, trivial⟩, Nat.le_of_ble_eq_true rfl⟩
  have hle : k = ws.length := by have := of_decide_eq_false h1; omega
  subst hle
  rw [List.take_length]
  have hho : cond (wi (ws.map Wk.c).length 1 6) (ws.all fun w => isWorker w d.hours) false = helpOk d ws := rfl
  rw [hho]
  refine Aw.seq ?_
  refine Aw.sm tab_ok (fun t => Nat.beq t 2) [] rfl rfl ?zo ?zk
  case zo =>
    repeat' apply AllP.cons
    all_goals first | exact trivial
  case zk =>
  refine Aw.cond rfl (fun h2 => ?_) (fun h2 => Aw.skip ?_)
  · have h2' : helpOk d ws = false := by simpa using h2
    refine Aw.sm tab_ok (fun t => Nat.beq t 2) [] rfl rfl ?zo ?zk
    case zo =>
      repeat' apply AllP.cons
      all_goals first | exact trivial
    case zk =>
    exact Aw.ret ⟨_, .cons (.tmp _) (.cons (.tmp _) (.cons (.tmp _) .nil)), by simp only [helpR, hok, h2']; rfl⟩
  have h2' : helpOk d ws = true := by simpa using h2
  have hall : ∀ w ∈ ws, isWorker w d.hours = true := List.all_eq_true.1 (ac2 h2')
  generalize hR : helpF d ws 0 (0, 0) = R
  refine Aw.sm tab_ok (fun t => Nat.beq t 2) [] rfl rfl ?zo ?zk
  case zo =>
    repeat' apply AllP.cons
    all_goals first | exact trivial | exact rfl | exact Nat.le_of_ble_eq_true rfl | exact Int.natCast_nonneg _ | exact Int.le_refl _
  case zk =>
  refine Aw.seq ?_
  refine Aw.sm tab_ok (fun t => Nat.beq t 2) [] rfl rfl ?zo ?zk
  case zo =>
    repeat' apply AllP.cons
    all_goals first | exact trivial
  case zk =>
  have uds : ∀ X : A, Under 1 X → UnderB 1 (.cells [.int d.hours, d.heatA, d.lotsA, X]) := fun X hX => .cells _ (allC (.s _) (allC (free_map Spn.free _ _ _).under (allC (free_map Lot.free _ _ _).under (all1 hX))))
  refine Aw.block (Aw.rounds (ι := Nat × Int × Int × A) 1 h1E [(2, .ref 0 0), (11, .sl d.wn .exact (d.wks.map Wk.c)), (49, .sl b .any (ws.map Wk.c)), (50, .int (ws.map Wk.c).length)] (fun i => [(4, .int i.2.1), (5, .int i.2.2.1), (51, .int i.1)]) (fun i => [(0, .cells [.int d.hours, d.heatA, d.lotsA, i.2.2.2])])
    (fun i => i.1 ≤ ws.length ∧ Under 1 i.2.2.2 ∧ helpF d (ws.drop i.1) i.1 (i.2.1, i.2.2.1) = R) (fun i => ws.length - i.1) (0, 0, 0, d.wksA)
    ⟨Nat.zero_le _, (free_map Wk.free _ _ _).under, by rw [List.drop_zero]; exact hR⟩ ⟨⟨.refl _, .of_eq (show A.sl d.wn .exact (d.wks.map Wk.c) = .sl d.wn .exact ((d.wks.map Wk.c).take (Int.toNat ((d.wks.map Wk.c).length : Int))) by rw [Int.toNat_natCast, List.take_length]), .refl _, .refl _, trivial⟩, ⟨.refl _, .refl _, .refl _, trivial⟩, ⟨rfl, trivial⟩, Nat.le_refl _⟩
    ⟨.ref _ _ (by decide), (free_map Wk.free _ _ _).under, hwf.under, .s _, trivial⟩ (fun _ _ => ⟨.s _, .s _, .s _, trivial⟩) (fun i h => ⟨⟨by decide, uds _ h.2.1⟩, trivial⟩) ?_)
  rintro ⟨k, which, lost, X⟩ ⟨hk, hX, hrun⟩
  simp only at hk hX hrun
  refine Aw.sm tab_ok (fun t => Nat.beq t 2) [] rfl rfl ?zo ?zk
  case zo =>
    repeat' apply AllP.cons
    all_goals first | exact trivial
  case zk =>
  refine Aw.seq (Aw.cond rfl (fun h3 => Aw.skip1 ?_) (fun h3 => Aw.exit2 ?_))
  · have hlt : k < ws.length := by have := of_decide_eq_true h3; omega
    rw [List.drop_eq_getElem_cons hlt, helpF] at hrun
    have hwk := hall _ (List.getElem_mem hlt)
    have hget := get_map (f := Wk.c) hlt
    generalize ws[k] = w at *
    have hd' := DayOk.hire hok hwk
    refine Aw.seq (Aw.block ?_)
    refine Aw.sm tab_ok (fun t => Nat.beq t 2) [(1, w.c)] rfl rfl ?zo ?zk
    case zo =>
      repeat' apply AllP.cons
      all_goals first | exact trivial | exact rfl | exact Nat.le_of_ble_eq_true rfl | exact Int.natCast_nonneg _ | exact hget
    case zk =>
    have hcs : ∀ z ∈ d.wks.map Wk.c ++ [w.c], z.length = 4 := fun z hz => by
      rcases List.mem_append.1 hz with h | h
      · obtain ⟨y, _, rfl⟩ := List.mem_map.1 h; rfl
      · simp at h; subst h; rfl
    have nw := hd.nw
    have hln : (d.wks.map Wk.c).length ≤ 7 := by rw [List.length_map]; exact nw
    have hmx : (d.wks.map Wk.c).length + [w.c].length ≤ maxLen := by simp [maxLen]; omega
    have hmb : ((d.wks.map Wk.c).length + [w.c].length) * 32 ≤ 140737488355328 := by simp; omega
    rcases Bool.eq_false_or_eq_true d.wn with hwn | hwn <;> rw [hwn]
    all_goals
      refine Aw.sm tab_ok (fun t => Nat.beq t 2) [(1, [.agg w.c])] rfl rfl ?zo ?zk
      case zo =>
        repeat' apply AllP.cons
        all_goals first | exact trivial | exact rfl | exact Nat.le_of_ble_eq_true rfl | exact hcs | exact hmx | exact hmb
      case zk =>
      have hld : A.agg (((List.drop 0 (setSeg [.int d.hours, d.heatA, d.lotsA, X] (0 + 3) [.sl false (.own 61) (d.wks.map Wk.c ++ [w.c])])).take 4).map A.down) = .agg (hire d w).c := by
        have : (d.wks.map Wk.c ++ [w.c]) = (d.wks ++ [w]).map Wk.c := by simp
        rw [this]; rfl
      have uX : Under 1 (.sl false (.own 61) (d.wks.map Wk.c ++ [w.c])) := .sl _ _ _ fun e he x hx => by
        rcases List.mem_append.1 he with h | h
        · obtain ⟨y, _, rfl⟩ := List.mem_map.1 h; exact (Wk.free _ x hx).under
        · simp at h; subst h; exact (Wk.free _ x hx).under
      refine Aw.sd tab_ok mixed (fun t => Nat.beq t 2) [(0, [.agg (hire d w).c]), (1, [.agg (endC 69)]), (2, [.agg (opened (hire d w) Spn.hi).c]), (3, [.tup [.agg (List.replicate 13 .un), .int (lostE (hire d w) Spn.hi)]])] rfl (by kernel_rfl) rfl rfl ?zo ?zk
      case zo =>
        repeat' apply AllP.cons
        all_goals first | exact trivial | exact rfl | exact Nat.le_of_ble_eq_true rfl | exact hld | exact surely_t | exact opened_t _ 69 _ surely_ok hd' | exact done_p _ hd' (opened8 hd' _)
      case zk =>
      refine Aw.sm tab_ok (fun t => Nat.beq t 2) [] rfl rfl ?zo ?zk
      case zo =>
        repeat' apply AllP.cons
        all_goals first | exact trivial | exact id | exact fun _ => rfl | exact (fun h => by rw [h]; rfl)
      case zk =>
      generalize hn : lostE (hire d w) Spn.hi = n at *
      have hcond : (cond ((k : Int) == 0) true (decide (n < lost))) = decide (k = 0 ∨ n < lost) := by
        by_cases hk0 : k = 0
        · subst hk0; simp
        · have : ((k : Int) == 0) = false := by simp [hk0]
          rw [this]; simp [hk0]
      refine Aw.cond rfl (fun h4 => ?_) (fun h4 => Aw.skip ?_)
      · have h4' : k = 0 ∨ n < lost := of_decide_eq_true (hcond.symm.trans h4)
        rw [if_pos h4'] at hrun
        refine Aw.em tab_ok (fun t => Nat.beq t 2) [] rfl rfl ?zo ?zk
        case zo =>
          repeat' apply AllP.cons
          all_goals first | exact trivial
        case zk =>
        refine Aw.em tab_ok (fun t => Nat.beq t 2) [] rfl rfl ?zo ?zk
        case zo =>
          repeat' apply AllP.cons
          all_goals first | exact trivial | exact inr k (by omega)
        case zk =>
        exact ⟨(k + 1, k, n, .sl false (.own 61) (d.wks.map Wk.c ++ [w.c])), ⟨hlt, uX, hrun⟩, by show ws.length - (k + 1) < ws.length - k; omega, ⟨.refl _, .refl _, .refl _, .refl _, trivial⟩, ⟨.refl _, .refl _, .refl _, trivial⟩, ⟨rfl, trivial⟩, Nat.le_of_ble_eq_true rfl⟩
      · have h4' : ¬ (k = 0 ∨ n < lost) := of_decide_eq_false (hcond.symm.trans h4)
        rw [if_neg h4'] at hrun
        refine Aw.em tab_ok (fun t => Nat.beq t 2) [] rfl rfl ?zo ?zk
        case zo =>
          repeat' apply AllP.cons
          all_goals first | exact trivial | exact inr k (by omega)
        case zk =>
        exact ⟨(k + 1, which, lost, .sl false (.own 61) (d.wks.map Wk.c ++ [w.c])), ⟨hlt, uX, hrun⟩, by show ws.length - (k + 1) < ws.length - k; omega, ⟨.refl _, .refl _, .refl _, .refl _, trivial⟩, ⟨.refl _, .refl _, .refl _, trivial⟩, ⟨rfl, trivial⟩, Nat.le_of_ble_eq_true rfl⟩
  · have hend : k = ws.length := by have := of_decide_eq_false h3; omega
    subst hend
    rw [List.drop_length, helpF] at hrun
    subst hrun
    refine Aw.sm tab_ok (fun t => Nat.beq t 2) [] rfl rfl ?zo ?zk
    case zo =>
      repeat' apply AllP.cons
      all_goals first | exact trivial
    case zk =>
    exact Aw.ret ⟨_, .cons (.tmp _) (.cons (.tmp _) (.cons (.tmp _) .nil)), by simp only [helpR, hok, h2', hR]; rfl⟩
end Go.Proofs.Ytimikmfkdaoaaaa
namespace Go.Proofs.Ytimikmfkdaoaaaa
open Go Go.AL
structure Task where
  lot : Int
  worker : Int
  hour : Int
  crans : Int
  deriving DecidableEq
def Task.c (t : Task) : List A := [.int t.lot, .int t.worker, .int t.hour, .int t.crans]
theorem Task.free (w : Task) : ∀ x ∈ w.c, Free x := allC (.s _) (allC (.s _) (allC (.s _) (all1 (.s _))))
def taskAt (d : Day) (m : Ld) (i p : Nat) : Task := ⟨i, (p / d.hours.toNat : Nat), (p % d.hours.toNat : Nat), (ld m p).getD i 0⟩
def tasksF (d : Day) (m : Ld) (i : Nat) : List Nat → List Task
  | [] => []
  | p :: ps => if (!(ld m p == zeros8)) = true ∧ 0 < (ld m p).getD i 0 then taskAt d m i p :: tasksF d m i ps else tasksF d m i ps
def planL (cd : CDay) (m : Ld) : List Nat → List Task
  | [] => []
  | i :: is => tasksF cd.g m i (slotsOf cd i) ++ planL cd m is
def planF (d : Day) : List Task := planL (opened d Spn.hi) (doneF (opened d Spn.hi)).1 (List.range d.lots.length)
def planA (l : List Task) : A := .sl l.isEmpty .exact (l.map Task.c)
def bestR (d : Day) : List A := if d.ok then [planA (planF d), .int (lostE d Spn.hi), .int 0] else [planA [], .int 0, .int 50]
def planG (l : List Task) : A := grown 56 l.length (l.map Task.c)
theorem planG_under {n : Nat} (l : List Task) : Under n (planG l) := grown_under fun e he x hx => by
  obtain ⟨y, _, rfl⟩ := List.mem_map.1 he; exact (Task.free _ x hx).under
def workN (cd : CDay) (nm : Nat) : List A := cd.c ++ [.mp nm]
theorem workN_under (cd : CDay) {n nm : Nat} (h : nm < n) : ∀ x ∈ workN cd nm, Under n x := fun x hx => by
  rcases List.mem_append.1 hx with h1 | h1
  · exact (cd.free x h1).under
  · simp at h1; subst h1; exact .mp _ h
theorem workN_len (cd : CDay) (h8 : cd.u.length = 8) (nm : Nat) : (workN cd nm).length = 13 := by simp [workN, CDay.len h8]
theorem workN_down (cd : CDay) (nm : Nat) : (workN cd nm).map A.down = workN cd nm := by unfold workN; rw [List.map_append, CDay.down]; rfl
theorem workN_day (cd : CDay) (h8 : cd.u.length = 8) (nm : Nat) : A.agg (((List.drop 0 (workN cd nm)).take 12).map A.down) = .agg cd.c := by
  rw [List.drop_zero, workN, List.take_append_of_le_length (by rw [CDay.len h8]; exact Nat.le_refl _), List.take_of_length_le (by rw [CDay.len h8]; exact Nat.le_refl _), CDay.down]
theorem workN_map (cd : CDay) (h8 : cd.u.length = 8) (nm : Nat) : (List.getD (workN cd nm) 12 .un).down = .mp nm := by
  rw [workN, List.getD_eq_getElem?_getD, List.getElem?_append_right (by rw [CDay.len h8]; exact Nat.le_refl _), CDay.len h8]; rfl
def bestH (cd : CDay) (m : Ld) (pl : List Task) : List (Nat × B) := [(0, .cells [planG pl]), (4, .map (encM (slotE cd.g) valL m)), (8, .cells (workN cd 4))]
theorem bestH_under (cd : CDay) (m : Ld) (pl : List Task) {n : Nat} (h : 9 ≤ n) : UnderH n (bestH cd m pl) :=
  ⟨⟨by omega, .cells _ (all1 (planG_under _))⟩, ⟨by omega, encL_under _ _ _⟩, ⟨by omega, .cells _ (workN_under cd (by omega))⟩, trivial⟩
theorem crF_keeps {cd : CDay} (hd : DayOk cd.g) {i : Nat} (hi : i < cd.g.lots.length) : ∀ (n : Nat) (s : Ld × Int), MOk cd.g.lots.length s.1 → MOk cd.g.lots.length (crF cd i n s).1
  | 0, s, h => h
  | n + 1, s, h => crF_keeps hd hi n _ (takeF_keeps hd hi h)
theorem dnF_keeps {cd : CDay} (hd : DayOk cd.g) : ∀ (ls : List Lot) (i : Nat) (s : Ld × Int), i + ls.length ≤ cd.g.lots.length → MOk cd.g.lots.length s.1 → MOk cd.g.lots.length (dnF cd ls i s).1
  | [], i, s, _, h => h
  | l :: ls, i, s, hi, h => dnF_keeps hd ls (i + 1) _ (by simp at hi; omega) (crF_keeps hd (by simp at hi; omega) _ _ h)
theorem doneF_keeps {cd : CDay} (hd : DayOk cd.g) : MOk cd.g.lots.length (doneF cd).1 := dnF_keeps hd _ 0 _ (by simp) (fun _ _ h => by cases h)
theorem tasksF_len (d : Day) (m : Ld) (i : Nat) : ∀ ps : List Nat, (tasksF d m i ps).length ≤ ps.length
  | [] => Nat.le_refl _
  | p :: ps => by
    have := tasksF_len d m i ps
    unfold tasksF; split <;> simp only [List.length_cons] <;> omega
theorem slotL_len (d : Day) (l : Lot) (u : Int) (hd : DayOk d) : (slotL d l u).length ≤ 168 := by
  refine Nat.le_trans (List.length_filter_le _ _) ?_
  rw [List.length_range]
  have h1 := hd.nw
  have h2 : d.hours.toNat ≤ 24 := by have := hd.hours; omega
  exact Nat.mul_le_mul h1 h2
theorem best_t (d : Day) (hs : Small d) : Ans Try.prog 23 [.agg d.c] (.tup (bestR d)) := by
  have hpf : ∀ l : List Task, Free (planA l) := fun l => free_map Task.free _ _ _
  have hfr : Free (.tup (bestR d)) := .tup _ (by
    unfold bestR; split <;> exact allC (hpf _) (allC (.s _) (all1 (.s _))))
  refine told Try.func23 rfl rfl (Pure.of tab_ok Try.func23 rfl Try.ntmps23 rfl (all1 (.agg _ d.free)) (all1 (fun _ => rfl)) (by first | exact .s _ | assumption | exact .tup _ (by intro x hx; simp only [List.mem_cons, List.not_mem_nil, or_false] at hx; rcases hx with rfl | rfl | rfl | rfl <;> first | exact .s _ | (simp_all; done))) fun E hE => ?_)
  refine Aw.sm tab_ok mb0 [] rfl rfl ?zo ?zk
  case zo =>
    repeat' apply AllP.cons
    all_goals first | exact trivial
  case zk =>
  refine Aw.seq ?_
  refine Aw.sm tab_ok mb0 [(1, [.int d.errA])] rfl rfl ?zo ?zk
  case zo =>
    repeat' apply AllP.cons
    all_goals first | exact trivial | exact Nat.le_of_ble_eq_true rfl | exact check_s hs
  case zk =>
  refine Aw.sm tab_ok mb0 [] rfl rfl ?zo ?zk
  case zo =>
    repeat' apply AllP.cons
    all_goals first | exact trivial
  case zk =>
  refine Aw.cond rfl (fun h1 => ?_) (fun h1 => Aw.skip ?_)
  · have hno : d.ok = false := by
      cases h : d.ok with
      | false => rfl
      | true => rw [err_ok h] at h1; exact absurd h1 (by decide)
    refine Aw.sm tab_ok mb0 [] rfl rfl ?zo ?zk
    case zo =>
      repeat' apply AllP.cons
      all_goals first | exact trivial | exact rfl | exact Nat.le_of_ble_eq_true rfl
    case zk =>
    exact Aw.ret ⟨_, .cons (resO rfl rfl (by decide) rfl rfl rfl) (.cons (.tmp _) (.cons (.tmp _) .nil)), by simp only [bestR, hno]; rw [err_no hno]; rfl⟩
  have hok : d.ok = true := by
    cases h : d.ok with
    | true => rfl
    | false => rw [err_no h] at h1; exact absurd h1 (by decide)
  have hd := DayOk.of hok
  have g8 := opened8 hd Spn.hi
  have hop : ∀ cd, cd = opened d Spn.hi → Ans Try.prog 50 [.agg d.c, .agg (endC 69)] (.agg cd.c) := fun cd h => h ▸ opened_t d 69 _ surely_ok hd
  have hR : bestR d = [planA (planL (opened d Spn.hi) (doneF (opened d Spn.hi)).1 (List.range d.lots.length)), .int (doneF (opened d Spn.hi)).2, .int 0] := by simp only [bestR, hok]; rfl
  rw [hR]
  have hcg : (opened d Spn.hi).g = d := rfl
  generalize hcd : opened d Spn.hi = cd at *
  have hd' : DayOk cd.g := hcg ▸ hd
  refine Aw.sd tab_ok mixed mb0 [(1, [.agg (endC 69)]), (2, [.agg cd.c]), (3, [.tup [.agg (cd.c ++ [.mp 4]), .int (doneF cd).2], .sl false .any (kvsTo (encM (slotE cd.g) valL (doneF cd).1))])] rfl (by kernel_rfl) rfl rfl ?zo ?zk
  case zo =>
    repeat' apply AllP.cons
    all_goals first | exact trivial | exact Nat.le_of_ble_eq_true rfl | exact surely_t | exact hop _ rfl | exact (kvs_to (encM (slotE cd.g) valL (doneF cd).1)).symm ▸ done_n cd hd' g8 4 | exact workN_len cd g8 4
  case zk =>
  have hmk := doneF_keeps hd'
  generalize (doneF cd).1 = m at *
  generalize (doneF cd).2 = L at *
  have h9E : ∀ id, 9 ≤ id → E.φ0 id = none := fun id h => hE id (by omega)
  have e99 : setSeg (List.map A.down (tab.zr 99)) 0 ((cd.c ++ [A.mp 4]).map A.down) = workN cd 4 := by
    have : (cd.c ++ [A.mp 4]).map A.down = workN cd 4 := workN_down cd 4
    rw [this]; exact setSeg_all (by rw [workN_len cd g8]; rfl)
  refine Aw.keep (n := 9) (cst := [(2, .ref 0 0), (3, .int L), (6, .ref 8 0)]) (v := []) (Hl := bestH cd m []) h9E ⟨.ref _ _ (by decide), .s _, .ref _ _ (by decide), trivial⟩ trivial (bestH_under cd m [] (Nat.le_refl _))
    ⟨⟨.refl _, .refl _, .refl _, trivial⟩, trivial, ⟨rfl, congrArg (fun x => some (B.map x)) (kvs_to _), congrArg (fun x => some (B.cells x)) e99, trivial⟩, Nat.le_of_ble_eq_true rfl⟩ ?_
  refine Aw.seq ?_
  refine Aw.sm tab_ok mb0 [] rfl rfl ?zo ?zk
  case zo =>
    repeat' apply AllP.cons
    all_goals first | exact trivial | exact Nat.le_of_ble_eq_true rfl
  case zk =>
  have nl := hd'.nl
  have ll : ((cd.g.lots.map Lot.c).length : Int) = cd.g.lots.length := by simp
  have hdl : d.lots.length = cd.g.lots.length := by rw [hcg]
  rw [hdl]
  generalize hP : planL cd m (List.range cd.g.lots.length) = P
  refine Aw.block (Aw.rounds (ι := Nat × List Task) 9 h9E [(2, .ref 0 0), (3, .int L), (6, .ref 8 0), (26, .int (cd.g.lots.map Lot.c).length)] (fun i => [(27, .int i.1)]) (fun i => bestH cd m i.2)
    (fun i => i.1 ≤ cd.g.lots.length ∧ i.2.length ≤ 168 * i.1 ∧ i.2 ++ planL cd m ((List.range cd.g.lots.length).drop i.1) = P) (fun i => cd.g.lots.length - i.1) (0, [])
    ⟨Nat.zero_le _, Nat.zero_le _, hP⟩ ⟨⟨.refl _, .refl _, .refl _, .refl _, trivial⟩, ⟨.refl _, trivial⟩, ⟨rfl, rfl, rfl, trivial⟩, Nat.le_of_ble_eq_true rfl⟩
    ⟨.ref _ _ (by decide), .s _, .ref _ _ (by decide), .s _, trivial⟩ (fun _ _ => ⟨.s _, trivial⟩) (fun i _ => bestH_under cd m i.2 (Nat.le_refl _)) ?_)
  rintro ⟨i, pl⟩ ⟨hi, hlen, hrun⟩
  simp only at hi hlen hrun
  refine Aw.sm tab_ok mb0 [] rfl rfl ?zo ?zk
  case zo =>
    repeat' apply AllP.cons
    all_goals first | exact trivial
  case zk =>
  refine Aw.seq (Aw.cond rfl (fun h1 => Aw.skip1 ?_) (fun h1 => Aw.exit2 ?_))
  · have hlt : i < cd.g.lots.length := by have := of_decide_eq_true h1; omega
    obtain ⟨l, hl⟩ : ∃ l, cd.g.lots[i]? = some l := ⟨cd.g.lots[i], by simp [hlt]⟩
    obtain ⟨u, hu⟩ : ∃ u, cd.u[i]? = some u := ⟨cd.u[i]'(by omega), by simp [show i < cd.u.length by omega]⟩
    have hso : slotsOf cd i = slotL cd.g l u := by simp only [slotsOf, hl, hu]
    have hdr : (List.range cd.g.lots.length).drop i = i :: (List.range cd.g.lots.length).drop (i + 1) := by
      rw [List.drop_eq_getElem_cons (by simpa using hlt)]; simp
    rw [hdr, planL, hso] at hrun
    refine Aw.seq (Aw.block ?_)
    refine Aw.sm tab_ok mb0 [] rfl rfl ?zo ?zk
    case zo =>
      repeat' apply AllP.cons
      all_goals first | exact trivial | exact rfl | exact Nat.le_of_ble_eq_true rfl
    case zk =>
    refine Aw.sm tab_ok mb0 [(1, [.agg cd.c]), (3, [.fn (.func 72) [] [.pt cd.c, .pt [.int i]]])] rfl rfl ?zo ?zk
    case zo =>
      repeat' apply AllP.cons
      all_goals first | exact trivial | exact Nat.le_of_ble_eq_true rfl | exact slots_t cd i | exact workN_day cd g8 4 | exact (show 0 + 12 ≤ (workN cd 4).length by rw [workN_len cd g8]; decide)
    case zk =>
    have h10E : ∀ id, 10 ≤ id → E.φ0 id = none := fun id h => hE id (by omega)
    have ufn : Under 10 (A.fn (.func 72) [] [.pt cd.c, .pt [.int i]]) := .fn _ _ _ (fun _ h => by cases h) (allC (.pt _ fun x hx => (cd.free x hx).under) (all1 (.pt _ (all1 (.s _)))))
    have ucst : UnderL 10 [(2, .ref 0 0), (3, .int L), (6, .ref 8 0), (7, .ref 9 0), (26, .int (cd.g.lots.map Lot.c).length), (27, .int i)] := ⟨.ref _ _ (by decide), .s _, .ref _ _ (by decide), .ref _ _ (by decide), .s _, .s _, trivial⟩
    have HU : ∀ q : List Task, UnderH 10 ((9, .cells [.int i]) :: bestH cd m q) := fun q => ⟨⟨by decide, .cells _ (all1 (.s _))⟩, bestH_under cd m q (by decide)⟩
    refine Aw.keep (n := 10) (cst := [(2, .ref 0 0), (3, .int L), (6, .ref 8 0), (7, .ref 9 0), (26, .int (cd.g.lots.map Lot.c).length), (27, .int i)]) (v := [(33, .fn (.func 72) [] [.pt cd.c, .pt [.int i]])]) (Hl := (9, .cells [.int i]) :: bestH cd m pl) h10E ucst ⟨ufn, trivial⟩ (HU pl)
      ⟨⟨.refl _, .refl _, .refl _, .refl _, .refl _, .refl _, trivial⟩, ⟨.refl _, trivial⟩, ⟨rfl, rfl, rfl, rfl, trivial⟩, Nat.le_of_ble_eq_true rfl⟩ ?_
    have hlm : ((slotL cd.g l u).map fun p => [slotA cd.g p]).length = (slotL cd.g l u).length := List.length_map _
    refine Aw.block (Aw.iter rfl (enters_of Try.func72 rfl rfl) ((slotL cd.g l u).map fun p => [slotA cd.g p])
      (fun k H => ∃ q, H = ofH ((9, .cells [.int i]) :: bestH cd m q) ∧ q.length ≤ 168 * i + k ∧ q ++ (tasksF cd.g m i ((slotL cd.g l u).drop k) ++ planL cd m ((List.range cd.g.lots.length).drop (i + 1))) = P)
      (fun _ _ => False) rfl (fun z h => by obtain ⟨p, _, rfl⟩ := List.mem_map.1 h; rfl) (ofL2_under (UnderL.app (l := [(33, .fn (.func 72) [] [.pt cd.c, .pt [.int i]])]) ⟨ufn, trivial⟩ ucst))
      (by rintro k H ⟨q, rfl, _⟩; exact UnderH.ofH (HU q)) (fun _ _ h => h.elim)
      (fun it H hI => by rw [hlm]; exact slots1_t cd i l u hd' (Int.natCast_nonneg _) (by simpa using hl) (by simpa using hu) g8 it (Nat.lt_succ_self _) hI)
      ⟨pl, rfl, hlen, by rw [List.drop_zero]; exact hrun⟩ ?_ ?_ (fun _ _ _ _ ⟨_, h, _⟩ => h.elim))
    · intro lpB ulp k as' ha H hI E2 b hE2
      obtain ⟨q, rfl, hql, hrun'⟩ := hI
      obtain ⟨p, hp, rfl⟩ : ∃ p, (slotL cd.g l u)[k]? = some p ∧ [slotA cd.g p] = as' := by
        rw [List.getElem?_map] at ha
        cases e : (slotL cd.g l u)[k]? with
        | none => rw [e] at ha; cases ha
        | some p => rw [e] at ha; exact ⟨p, rfl, by simpa using ha⟩
      obtain ⟨hk, e⟩ := List.getElem?_eq_some_iff.1 hp
      have hdrop : (slotL cd.g l u).drop k = p :: (slotL cd.g l u).drop (k + 1) := by rw [List.drop_eq_getElem_cons hk, e]
      rw [hdrop, tasksF] at hrun'
      have hs168 := slotL_len cd.g l u hd'
      refine Aw.em tab_ok mb0 [] rfl rfl ?zo ?zk
      case zo =>
        repeat' apply AllP.cons
        all_goals first | exact trivial | exact rfl | exact Nat.le_of_ble_eq_true rfl
      case zk =>
      refine ⟨rfl, rfl, ?_⟩
      have uslot : UnderB 12 (.cells [.int ((p / cd.g.hours.toNat : Nat) : Int), .int ((p % cd.g.hours.toNat : Nat) : Int)]) := .cells _ (allC (.s _) (all1 (.s _)))
      have h12 : ∀ id, 12 ≤ id → E2.φ0 id = none := fun id h => hE2 id (Nat.le_trans (Nat.le_of_ble_eq_true rfl) h)
      have ulp12 : UnderB 12 (lpB .busy none) := (ulp _ _).mono (Nat.le_of_ble_eq_true rfl)
      refine Aw.keep (n := 12) (cst := [(2, .ref 0 0), (6, .ref 8 0), (7, .ref 9 0)]) (v := [(8, .ref 11 0)]) (Hl := (10, lpB .busy none) :: (11, .cells [.int ((p / cd.g.hours.toNat : Nat) : Int), .int ((p % cd.g.hours.toNat : Nat) : Int)]) :: (9, .cells [.int i]) :: bestH cd m q) h12
        ⟨.ref _ _ (by decide), .ref _ _ (by decide), .ref _ _ (by decide), trivial⟩ ⟨.ref _ _ (by decide), trivial⟩ ⟨⟨by decide, ulp12⟩, ⟨by decide, uslot⟩, ⟨by decide, .cells _ (all1 (.s _))⟩, bestH_under cd m q (by decide)⟩
        ⟨⟨.refl _, .refl _, .refl _, trivial⟩, ⟨.refl _, trivial⟩, ⟨rfl, rfl, rfl, rfl, rfl, rfl, trivial⟩, Nat.le_of_ble_eq_true rfl⟩ ?_
      refine Aw.block ?_
      refine Aw.sm tab_ok mb0 [(1, [.mp 4]), (3, [.agg ((ld m p).map A.int), .bool (mget m p).isSome])] rfl rfl ?zo ?zk
      case zo =>
        repeat' apply AllP.cons
        all_goals first | exact trivial | exact Nat.le_of_ble_eq_true rfl | exact workN_map cd g8 4 | exact (show 0 + 12 < (workN cd 4).length by rw [workN_len cd g8]; decide) | exact lk_ld cd m p | exact (show ((ld m p).map A.int).length = 8 by simp [(hmk.at p).len])
      case zk =>
      have hlok := hmk.at p
      have htk : taskAt cd.g m i p = ⟨i, (p / cd.g.hours.toNat : Nat), (p % cd.g.hours.toNat : Nat), (ld m p).getD i 0⟩ := rfl
      generalize hlv : ld m p = lv at *
      have hll := hlok.len
      have hc7 : setSeg (List.map A.down (tab.zr 104)) 0 ((lv.map A.int).map A.down) = lv.map A.int := by rw [map_down_int]; exact setSeg_all (by simp [hll]; rfl)
      have h13 : ∀ id, 13 ≤ id → E2.φ0 id = none := fun id h => h12 id (by omega)
      have ul8 : UnderB 13 (.cells (lv.map A.int)) := .cells _ fun y hy => by obtain ⟨v, _, rfl⟩ := List.mem_map.1 hy; exact .s _
      refine Aw.keep (n := 13) (cst := [(2, .ref 0 0), (7, .ref 9 0)]) (v := [(8, .ref 11 0), (9, .ref 12 0)]) (Hl := (10, lpB .busy none) :: (11, .cells [.int ((p / cd.g.hours.toNat : Nat) : Int), .int ((p % cd.g.hours.toNat : Nat) : Int)]) :: (12, .cells (lv.map A.int)) :: (9, .cells [.int i]) :: bestH cd m q) h13
        ⟨.ref _ _ (by decide), .ref _ _ (by decide), trivial⟩ ⟨.ref _ _ (by decide), .ref _ _ (by decide), trivial⟩ ⟨⟨by decide, ulp12.mono (by decide)⟩, ⟨by decide, uslot.mono (by decide)⟩, ⟨by decide, ul8⟩, ⟨by decide, .cells _ (all1 (.s _))⟩, bestH_under cd m q (by decide)⟩
        ⟨⟨.refl _, .refl _, trivial⟩, ⟨.refl _, .refl _, trivial⟩, ⟨rfl, rfl, congrArg (fun x => some (B.cells x)) hc7, rfl, rfl, rfl, rfl, trivial⟩, Nat.le_of_ble_eq_true rfl⟩ ?_
      have ixi : (List.getD (lv.map A.int) (0 + Int.toNat (i : Int) * 1) .un).down = .int (lv.getD i 0) := by
        rw [Int.toNat_natCast, Nat.mul_one, Nat.zero_add]
        simp [List.getD_eq_getElem?_getD, show i < lv.length by omega, A.down]
      have lti : 0 + Int.toNat (i : Int) * 1 < (lv.map A.int).length := by rw [Int.toNat_natCast, List.length_map]; omega
      have i8 : (i : Int) < (8 : Nat) := by omega
      refine Aw.sm tab_ok mb0 [(0, [.agg (lv.map A.int)]), (2, [.bool (!(lv == zeros8))]), (6, [.int (lv.getD i 0)])] rfl rfl ?zo ?zk
      case zo =>
        repeat' apply AllP.cons
        all_goals first | exact trivial | exact id | exact fun _ => rfl | exact fun _ => Nat.le_of_ble_eq_true rfl | exact fun _ => Int.natCast_nonneg _ | exact ld8 hll | exact (show 0 + 8 ≤ (lv.map A.int).length by simp [hll]) | exact (show EqIs tab .neq 104 (.tmp 39) (.tmp 40) (.agg (lv.map A.int)) (.agg (zeros8.map A.int)) (!(lv == zeros8)) from neA und104 eg104 _ _ hll rfl) | exact fun _ => ixi | exact fun _ => lti | exact fun _ => i8
      case zk =>
      refine Aw.cond rfl (fun h2 => ?_) (fun h2 => Aw.skip ?_)
      · have h2' : (!(lv == zeros8)) = true ∧ 0 < lv.getD i 0 := by
          cases hz : (!(lv == zeros8)) with
          | false => rw [hz] at h2; cases h2
          | true => rw [hz] at h2; exact ⟨rfl, of_decide_eq_true h2⟩
        rw [if_pos h2', htk] at hrun'
        have ht4 : ∀ z ∈ q.map Task.c, z.length = 4 := fun z hz => by obtain ⟨y, _, rfl⟩ := List.mem_map.1 hz; rfl
        generalize htt : (⟨i, (p / cd.g.hours.toNat : Nat), (p % cd.g.hours.toNat : Nat), lv.getD i 0⟩ : Task) = tk at *
        have htc : [A.int i, .int ((p / cd.g.hours.toNat : Nat) : Int), .int ((p % cd.g.hours.toNat : Nat) : Int), .int (lv.getD i 0)] = tk.c := by rw [← htt]; rfl
        have hq : q.length ≤ 1400 := by omega
        have one4 : ∀ z ∈ [] ++ [[A.int (i : Int), .int ((p / cd.g.hours.toNat : Nat) : Int), .int ((p % cd.g.hours.toNat : Nat) : Int), .int (lv.getD i 0)]], z.length = 4 := fun z hz => by simp at hz; subst hz; rfl
        cases q with
        | nil =>
          refine Aw.ed tab_ok mixed mb0 [(0, []), (8, [.int (lv.getD i 0)])] rfl (by kernel_rfl) rfl rfl ?zo ?zk
          case zo =>
            repeat' apply AllP.cons
            all_goals first | exact trivial | exact rfl | exact Nat.le_of_ble_eq_true rfl | exact Int.natCast_nonneg _ | exact ixi | exact lti | exact i8 | exact one4
          case zk =>
          exact ⟨⟨_, _, rfl⟩, Nat.le_of_ble_eq_true rfl, _, ⟨[tk], rfl, by show 1 ≤ _; omega, hrun'⟩, HasH.ofH (l := (9, .cells [.int i]) :: bestH cd m [tk]) ⟨rfl, congrArg (fun x => some (B.cells [.sl false (.own 56) [x]])) htc, rfl, rfl, trivial⟩⟩
        | cons t ts =>
          have hb1 : (((t :: ts).map Task.c).length + 1) * 32 ≤ 140737488355328 := by rw [List.length_map]; omega
          have hb2 : ((t :: ts).map Task.c).length + 1 ≤ maxLen := by rw [List.length_map]; unfold maxLen; omega
          refine Aw.ed tab_ok mixed mb0 [(0, []), (8, [.int (lv.getD i 0)])] rfl (by kernel_rfl) rfl rfl ?zo ?zk
          case zo =>
            repeat' apply AllP.cons
            all_goals first | exact trivial | exact rfl | exact Nat.le_of_ble_eq_true rfl | exact Int.natCast_nonneg _ | exact ixi | exact lti | exact i8 | exact one4 | exact ht4 | exact hb1 | exact hb2
          case zk =>
          have hcell : planG ((t :: ts) ++ [tk]) = .sl false (.own 56) ((t :: ts).map Task.c ++ [[A.int i, .int ((p / cd.g.hours.toNat : Nat) : Int), .int ((p % cd.g.hours.toNat : Nat) : Int), .int (lv.getD i 0)]]) := by
            rw [htc]; unfold planG
            rw [List.map_append]; rfl
          exact ⟨⟨_, _, rfl⟩, Nat.le_of_ble_eq_true rfl, _, ⟨(t :: ts) ++ [tk], rfl, by rw [List.length_append, List.length_singleton]; omega, by rw [List.append_assoc]; exact hrun'⟩, HasH.ofH (l := (9, .cells [.int i]) :: bestH cd m ((t :: ts) ++ [tk])) ⟨rfl, congrArg (fun x => some (B.cells [x])) hcell.symm, rfl, rfl, trivial⟩⟩
      · have h2' : ¬ ((!(lv == zeros8)) = true ∧ 0 < lv.getD i 0) := fun ⟨a, b⟩ => by
          rw [a] at h2
          have : decide (lv.getD i 0 > 0) = true := decide_eq_true b
          have h3 : decide (lv.getD i 0 > 0) = false := h2
          rw [this] at h3; cases h3
        rw [if_neg h2'] at hrun'
        exact ⟨⟨_, _, rfl⟩, Nat.le_of_ble_eq_true rfl, _, ⟨q, rfl, by omega, hrun'⟩, HasH.ofH (l := (9, .cells [.int i]) :: bestH cd m q) ⟨rfl, rfl, rfl, rfl, trivial⟩⟩
    · rintro H c' hc ⟨H0, ⟨q, rfl, hql, hrun'⟩, hs⟩
      rw [hlm] at hql hrun'
      rw [List.drop_length, tasksF, List.nil_append] at hrun'
      have hH := hasH_of_sub (l := (9, B.cells [A.int i]) :: bestH cd m q) rfl hs
      have hs168 := slotL_len cd.g l u hd'
      refine Aw.keep (n := 9) (cst := [(2, .ref 0 0), (3, .int L), (6, .ref 8 0), (26, .int (cd.g.lots.map Lot.c).length)]) (v := [(27, .int i)]) (Hl := bestH cd m q) h9E ⟨.ref _ _ (by decide), .s _, .ref _ _ (by decide), .s _, trivial⟩ ⟨.s _, trivial⟩ (bestH_under cd m q (Nat.le_refl _))
        ⟨⟨.refl _, .refl _, .refl _, .refl _, trivial⟩, ⟨.refl _, trivial⟩, hH.2, Nat.le_trans (Nat.le_of_ble_eq_true rfl : 9 ≤ 10) hc⟩ ?_
      refine Aw.em tab_ok mb0 [] rfl rfl ?zo ?zk
      case zo =>
        repeat' apply AllP.cons
        all_goals first | exact trivial | exact (by simp only [Ob.of, inR]; omega)
      case zk =>
      exact ⟨(i + 1, q), ⟨hlt, by show q.length ≤ 168 * (i + 1); omega, hrun'⟩, by show cd.g.lots.length - (i + 1) < cd.g.lots.length - i; omega, ⟨.refl _, .refl _, .refl _, .refl _, trivial⟩, ⟨.refl _, trivial⟩, ⟨rfl, rfl, rfl, trivial⟩, Nat.le_of_ble_eq_true rfl⟩
  · have hend : i = cd.g.lots.length := by have := of_decide_eq_false h1; omega
    subst hend
    rw [List.drop_of_length_le (by simp), planL, List.append_nil] at hrun
    subst hrun
    cases pl with
    | nil =>
      refine Aw.sm tab_ok mb0 [] rfl rfl ?zo ?zk
      case zo =>
        repeat' apply AllP.cons
        all_goals first | exact trivial | exact rfl | exact Nat.le_of_ble_eq_true rfl | exact Int.natCast_nonneg _
      case zk =>
      exact Aw.ret ⟨_, .cons (resO rfl rfl (by decide) rfl rfl rfl) (.cons (.tmp _) (.cons (.tmp _) .nil)), rfl⟩
    | cons t ts =>
      refine Aw.sm tab_ok mb0 [] rfl rfl ?zo ?zk
      case zo =>
        repeat' apply AllP.cons
        all_goals first | exact trivial | exact rfl | exact Nat.le_of_ble_eq_true rfl | exact Int.natCast_nonneg _ | exact Int.le_refl _
      case zk =>
      refine Aw.ret ⟨_, .cons (resO rfl rfl (by decide) rfl rfl rfl) (.cons (.tmp _) (.cons (.tmp _) .nil)), ?_⟩
      show A.tup [.sl false .exact (((t :: ts).map Task.c).take (Int.toNat (((t :: ts).map Task.c).length : Int))), .int L, .int 0] = _
      rw [Int.toNat_natCast, List.take_length]; rfl
end Go.Proofs.Ytimikmfkdaoaaaa
namespace Go.Proofs.Ytimikmfkdaoaaaa
open Go Go.AL
section
variable {α V : Type} [BEq α] [LawfulBEq α] {P : Program} {kt : TypeId} {enc : α → List Value}
theorem entry_put (h : KeyTy P kt enc) (val : V → A) (m : List (α × V)) (a : α) (v0 : A) (x : V) {kv2 : List (A × A)} {n : Int} (h2 : kv2 = upKV (encM enc val m) (keyA enc a) v0 (ixOf P kt (encM enc val m) (keyA enc a)))
    (hn : n = match ixOf P kt (encM enc val m) (keyA enc a) with | some j => (j : Int) | none => ((encM enc val m).length : Int)) :
    kv2.set n.toNat ((kv2.getD n.toNat (.un, .un)).1, val x) = encM enc val (mput m a x) ∧ 0 ≤ n ∧ n.toNat < kv2.length := by
  rw [h.ix val m a] at h2 hn
  subst h2
  subst hn
  unfold mput
  cases e : ixM m a with
  | none =>
    simp only [Int.toNat_natCast, upKV]
    refine ⟨?_, Int.natCast_nonneg _, by simp⟩
    rw [List.set_append_right _ _ (Nat.le_refl _)]
    simp [encM, List.getD_eq_getElem?_getD]
  | some j =>
    obtain ⟨y, hy⟩ := ixM_some e
    have hj : j < m.length := (List.getElem?_eq_some_iff.1 hy).1
    have hj2 : j < (encM enc val m).length := by simpa [encM] using hj
    simp only [Int.toNat_natCast, upKV]
    refine ⟨?_, Int.natCast_nonneg _, by simpa using hj2⟩
    rw [List.set_set, List.getD_eq_getElem?_getD, List.getElem?_set_self hj2]
    simp only [Option.getD_some, encM, List.map_set]
end
def valI (x : Int) : A := .int x
theorem valI_free (x : Int) : Free (valI x) := .s _
theorem encI_under (d : Day) (m : List (Nat × Int)) (n : Nat) : UnderB n (.map (encM (slotE d) valI m)) := .map _ fun p hp => ⟨(encM_free valI_free m p hp).1.under, (encM_free valI_free m p hp).2.under⟩
def busyAt (b : List (Nat × Int)) (p : Nat) : Int := (mget b p).getD 0
theorem lk_busy (d : Day) (m : List (Nat × Int)) (p : Nat) : LkIs Try.prog tab 93 3 (encM (slotE d) valI m) (keyA (slotE d) p) (.int (busyAt m p)) (mget m p).isSome :=
  (kty d).lk valI m p (by unfold busyAt; cases mget m p <;> rfl) rfl
def canT (cd : CDay) (t : Task) : Bool := match cd.g.lots[t.lot.toNat]?, cd.g.wks[t.worker.toNat]?, cd.u[t.lot.toNat]? with
  | some l, some w, some u => canF l w t.hour u
  | _, _, _ => false
def lotIn (d : Day) (t : Task) : Bool := wi t.lot 0 ((d.lots.map Lot.c).length - 1)
def wkIn (d : Day) (t : Task) : Bool := wi t.worker 0 ((d.wks.map Wk.c).length - 1)
def badT (cd : CDay) (t : Task) : Bool := cond (cond (cond (!lotIn cd.g t) true (!wkIn cd.g t)) true (!canT cd t)) true (!wi t.crans 1 50)
def slotP (d : Day) (t : Task) : Nat := t.worker.toNat * d.hours.toNat + t.hour.toNat
def cransAt (d : Day) (t : Task) : Int := match d.lots[t.lot.toNat]? with | some l => l.crans | none => 0
def wkRate (d : Day) (t : Task) : Int := match d.wks[t.worker.toNat]? with | some w => w.rate | none => 0
def chkF (cd : CDay) : List Task → List Int → List (Nat × Int) → Option (List Int)
  | [], tk, _ => some tk
  | t :: ts, tk, bs => if badT cd t then none else
      if tk.getD t.lot.toNat 0 + t.crans > cransAt cd.g t ∨ busyAt bs (slotP cd.g t) + t.crans > wkRate cd.g t then none else
      chkF cd ts (tk.set t.lot.toNat (tk.getD t.lot.toNat 0 + t.crans)) (mput bs (slotP cd.g t) (busyAt bs (slotP cd.g t) + t.crans))
def planV (d : Day) (pl : List Task) : Option Int := if 400 < pl.length then none else match chkF (opened d Spn.hi) pl (List.replicate d.lots.length 0) [] with
  | some tk => some (cransOf d - tk.sum)
  | none => none
def isPlanR (d : Day) (pl : List Task) : List A := if d.ok then (match planV d pl with | some n => [.int n, .bool true, .int 0] | none => [.int 0, .bool false, .int 0]) else [.int 0, .bool false, .int 50]
theorem canT_t (cd : CDay) (hd : DayOk cd.g) (h8 : cd.u.length = 8) (t : Task) (h1 : lotIn cd.g t = true) (h2 : wkIn cd.g t = true) : Ans Try.prog 57 [.agg cd.c, .int t.lot, .agg [.int t.worker, .int t.hour]] (.bool (canT cd t)) := by
  have g1 := wi_iff.1 h1
  have g2 := wi_iff.1 h2
  simp only [List.length_map] at g1 g2
  have nl := hd.nl
  obtain ⟨l, hl⟩ : ∃ l, cd.g.lots[t.lot.toNat]? = some l := ⟨cd.g.lots[t.lot.toNat]'(by omega), by simp [show t.lot.toNat < cd.g.lots.length by omega]⟩
  obtain ⟨k, hk⟩ : ∃ l, cd.g.wks[t.worker.toNat]? = some l := ⟨cd.g.wks[t.worker.toNat]'(by omega), by simp [show t.worker.toNat < cd.g.wks.length by omega]⟩
  obtain ⟨u, hu⟩ : ∃ l, cd.u[t.lot.toNat]? = some l := ⟨cd.u[t.lot.toNat]'(by omega), by simp [show t.lot.toNat < cd.u.length by omega]⟩
  have : canT cd t = canF l k t.hour u := by simp only [canT, hl, hk, hu]
  rw [this]
  exact can_t cd _ _ _ u l k g1.1 hl g2.1 hk hu h8 (wkOk_iff (hd.wks k (List.mem_of_getElem? hk))).1.1
theorem isPlan_t (d : Day) (b : Bool) (pl : List Task) (hs : Small d) (hw : (pl.length : Int) ≤ 9223372036854775807) : Ans Try.prog 21 [.agg d.c, .sl b .any (pl.map Task.c)] (.tup (isPlanR d pl)) := by
  have hfr : Free (.tup (isPlanR d pl)) := .tup _ (by
    unfold isPlanR; split
    · split <;> exact allC (.s _) (allC (.s _) (all1 (.s _)))
    · exact allC (.s _) (allC (.s _) (all1 (.s _))))
  have hpf : Free (.sl b .any (pl.map Task.c)) := free_map Task.free _ _ _
  refine told Try.func21 rfl rfl (Pure.of tab_ok Try.func21 rfl Try.ntmps21 rfl (allC (.agg _ d.free) (all1 (hpf))) (allC (fun _ => rfl) (all1 (fun _ => rfl))) (by first | exact .s _ | assumption | exact .tup _ (by intro x hx; simp only [List.mem_cons, List.not_mem_nil, or_false] at hx; rcases hx with rfl | rfl | rfl | rfl <;> first | exact .s _ | (simp_all; done))) fun E hE => ?_)
  refine Aw.sm tab_ok mb0 [] rfl rfl ?zo ?zk
  case zo =>
    repeat' apply AllP.cons
    all_goals first | exact trivial
  case zk =>
  refine Aw.seq ?_
  refine Aw.sm tab_ok mb0 [(1, [.int d.errA])] rfl rfl ?zo ?zk
  case zo =>
    repeat' apply AllP.cons
    all_goals first | exact trivial | exact Nat.le_of_ble_eq_true rfl | exact check_s hs
  case zk =>
  refine Aw.sm tab_ok mb0 [] rfl rfl ?zo ?zk
  case zo =>
    repeat' apply AllP.cons
    all_goals first | exact trivial
  case zk =>
  refine Aw.cond rfl (fun h1 => ?_) (fun h1 => Aw.skip ?_)
  · have hno : d.ok = false := by
      cases h : d.ok with
      | false => rfl
      | true => rw [err_ok h] at h1; exact absurd h1 (by decide)
    refine Aw.sm tab_ok mb0 [] rfl rfl ?zo ?zk
    case zo =>
      repeat' apply AllP.cons
      all_goals first | exact trivial
    case zk =>
    exact Aw.ret ⟨_, .cons (.tmp _) (.cons (.tmp _) (.cons (.tmp _) .nil)), by simp only [isPlanR, hno]; rw [err_no hno]; rfl⟩
  have hok : d.ok = true := by
    cases h : d.ok with
    | true => rfl
    | false => rw [err_no h] at h1; exact absurd h1 (by decide)
  have hd := DayOk.of hok
  have g8 := opened8 hd Spn.hi
  have hop : ∀ cd, cd = opened d Spn.hi → Ans Try.prog 50 [.agg d.c, .agg (endC 69)] (.agg cd.c) := fun cd h => h ▸ opened_t d 69 _ surely_ok hd
  have hcg : (opened d Spn.hi).g = d := rfl
  have hpv : planV d pl = if 400 < pl.length then none else match chkF (opened d Spn.hi) pl (List.replicate (opened d Spn.hi).g.lots.length 0) [] with
    | some tk => some (cransOf (opened d Spn.hi).g - tk.sum)
    | none => none := rfl
  generalize hcd : opened d Spn.hi = cd at *
  have hd' : DayOk cd.g := hcg ▸ hd
  refine Aw.sd tab_ok mixed mb0 [(1, [.agg (endC 69)]), (2, [.agg cd.c])] rfl (by kernel_rfl) rfl rfl ?zo ?zk
  case zo =>
    repeat' apply AllP.cons
    all_goals first | exact trivial | exact Nat.le_of_ble_eq_true rfl | exact surely_t | exact hop _ rfl | exact CDay.len g8
  case zk =>
  have e81 : setSeg (List.map A.down (tab.zr 81)) 0 (cd.c.map A.down) = cd.c := by rw [CDay.down]; exact setSeg_all (by rw [CDay.len g8]; rfl)
  have h4E : ∀ id, 4 ≤ id → E.φ0 id = none := fun id h => hE id (by omega)
  have udc : UnderB 4 (.cells cd.c) := .cells _ fun x hx => (cd.free x hx).under
  refine Aw.keep (n := 4) (cst := [(1, .sl b .any (pl.map Task.c)), (8, .ref 3 0)]) (v := []) (Hl := [(3, .cells cd.c)]) h4E ⟨hpf.under, .ref _ _ (by decide), trivial⟩ trivial ⟨⟨by decide, udc⟩, trivial⟩
    ⟨⟨.refl _, .refl _, trivial⟩, trivial, ⟨congrArg (fun x => some (B.cells x)) e81, trivial⟩, Nat.le_of_ble_eq_true rfl⟩ ?_
  have lp : ((pl.map Task.c).length : Int) = pl.length := by simp
  refine Aw.seq ?_
  refine Aw.sm tab_ok mb0 [] rfl rfl ?zo ?zk
  case zo =>
    repeat' apply AllP.cons
    all_goals first | exact trivial
  case zk =>
  refine Aw.cond rfl (fun h2 => ?_) (fun h2 => Aw.skip ?_)
  · have h2' : 400 < pl.length := by have := of_decide_eq_true h2; omega
    refine Aw.sm tab_ok mb0 [] rfl rfl ?zo ?zk
    case zo =>
      repeat' apply AllP.cons
      all_goals first | exact trivial
    case zk =>
    exact Aw.ret ⟨_, .cons (.tmp _) (.cons (.tmp _) (.cons (.tmp _) .nil)), by simp only [isPlanR, hok, hpv, if_pos h2']; rfl⟩
  have h2' : ¬ 400 < pl.length := by have := of_decide_eq_false h2; omega
  rw [if_neg h2'] at hpv
  have w12 : A.agg (((List.drop 0 cd.c).take 12).map A.down) = .agg cd.c := day12 cd g8
  have l12 : 0 + 12 ≤ cd.c.length := by rw [CDay.len g8]; exact Nat.le_refl _
  refine Aw.sm tab_ok mb0 [(0, [.agg cd.c])] rfl rfl ?zo ?zk
  case zo =>
    repeat' apply AllP.cons
    all_goals first | exact trivial | exact w12 | exact l12
  case zk =>
  have nl := hd'.nl
  have ll : ((cd.g.lots.map Lot.c).length : Int) = cd.g.lots.length := by simp
  refine Aw.sm tab_ok mb0 [] rfl rfl ?zo ?zk
  case zo =>
    repeat' apply AllP.cons
    all_goals first | exact trivial | exact rfl | exact Nat.le_of_ble_eq_true rfl | exact Int.natCast_nonneg _ | exact (by simp only [Ob.of]; rw [ll]; unfold maxLen; omega) | exact (show ((8 : Nat) : Int) * ((cd.g.lots.map Lot.c).length : Int) ≤ 140737488355328 by rw [ll]; omega)
  case zk =>
  have e41 : ((List.range (Int.toNat ((cd.g.lots.map Lot.c).length : Int) * 1)).map fun j => (tab.zr 3).getD (j % 1) .un).map A.down = (List.replicate cd.g.lots.length 0).map A.int := by
    rw [Int.toNat_natCast, List.length_map, Nat.mul_one, List.map_map, List.map_replicate]
    refine List.eq_replicate_iff.2 ⟨by simp, fun x hx => ?_⟩
    obtain ⟨j, _, rfl⟩ := List.mem_map.1 hx
    simp only [Function.comp, Nat.mod_one]; rfl
  have h6E : ∀ id, 6 ≤ id → E.φ0 id = none := fun id h => hE id (by omega)
  have hgo : (match chkF cd (pl.drop 0) (List.replicate cd.g.lots.length 0) [] with
    | some tk => some (cransOf cd.g - tk.sum)
    | none => none) = planV d pl := by rw [List.drop_zero]; exact hpv.symm
  have hR : isPlanR d pl = match planV d pl with | some n => [.int n, .bool true, .int 0] | none => [.int 0, .bool false, .int 0] := by simp only [isPlanR, hok]; rfl
  rw [hR]
  generalize planV d pl = R at *
  have ufn : Under 6 (A.fn (.func 57) [.agg cd.c] []) := .fn _ _ _ (all1 (.agg _ fun x hx => (cd.free x hx).under)) (fun _ h => by cases h)
  have uints : ∀ (n : Nat) (x : List Int), UnderB n (.cells (x.map A.int)) := fun n x => .cells _ fun y hy => by obtain ⟨v, _, rfl⟩ := List.mem_map.1 hy; exact .s _
  have HU : ∀ (n : Nat) (tk : List Int) (bs : List (Nat × Int)), 6 ≤ n → UnderH n [(3, .cells cd.c), (4, .cells (tk.map A.int)), (5, .map (encM (slotE cd.g) valI bs))] := fun n tk bs h =>
    ⟨⟨by omega, .cells _ fun x hx => (cd.free x hx).under⟩, ⟨by omega, uints _ _⟩, ⟨by omega, encI_under _ _ _⟩, trivial⟩
  refine Aw.seq ?_
  refine Aw.sm tab_ok mb0 [] rfl rfl ?zo ?zk
  case zo =>
    repeat' apply AllP.cons
    all_goals first | exact trivial
  case zk =>
  refine Aw.block (Aw.rounds (ι := Nat × List Int × List (Nat × Int)) 6 h6E [(8, .ref 3 0), (9, .fn (.func 57) [.agg cd.c] []), (10, .ms 4 0 cd.g.lots.length), (11, .mp 5), (34, .sl b .any (pl.map Task.c)), (35, .int (pl.map Task.c).length)] (fun i => [(36, .int i.1)])
    (fun i => [(3, .cells cd.c), (4, .cells (i.2.1.map A.int)), (5, .map (encM (slotE cd.g) valI i.2.2))])
    (fun i => i.1 ≤ pl.length ∧ i.2.1.length = cd.g.lots.length ∧ (∀ x ∈ i.2.1, 0 ≤ x ∧ x ≤ 50) ∧ (∀ p, 0 ≤ busyAt i.2.2 p ∧ busyAt i.2.2 p ≤ 20) ∧ (match chkF cd (pl.drop i.1) i.2.1 i.2.2 with
    | some tk => some (cransOf cd.g - tk.sum)
    | none => none) = R) (fun i => pl.length - i.1) (0, List.replicate cd.g.lots.length 0, [])
    ⟨Nat.zero_le _, by simp, fun x hx => by rw [(List.mem_replicate.1 hx).2]; decide, fun p => by show 0 ≤ (0 : Int) ∧ (0 : Int) ≤ 20; decide, hgo⟩
    ⟨⟨.refl _, .refl _, .of_eq (show A.ms 4 0 cd.g.lots.length = .ms 4 0 (Int.toNat ((cd.g.lots.map Lot.c).length : Int)) by rw [Int.toNat_natCast, List.length_map]), .refl _, .refl _, .refl _, trivial⟩, ⟨.refl _, trivial⟩, ⟨rfl, congrArg (fun x => some (B.cells x)) e41, rfl, trivial⟩, Nat.le_of_ble_eq_true rfl⟩
    ⟨.ref _ _ (by decide), ufn, .ms _ _ _ (by decide), .mp _ (by decide), hpf.under, .s _, trivial⟩ (fun _ _ => ⟨.s _, trivial⟩) (fun i _ => HU 6 i.2.1 i.2.2 (Nat.le_refl _)) ?_)
  rintro ⟨k, tk, bs⟩ ⟨hk, htl, htb, hbb, hrun⟩
  simp only at hk htl htb hbb hrun
  refine Aw.sm tab_ok mb0 [] rfl rfl ?zo ?zk
  case zo =>
    repeat' apply AllP.cons
    all_goals first | exact trivial
  case zk =>
  refine Aw.seq (Aw.cond rfl (fun h3 => Aw.skip1 ?_) (fun h3 => Aw.exit2 ?_))
  · have hlt : k < pl.length := by have := of_decide_eq_true h3; omega
    rw [List.drop_eq_getElem_cons hlt, chkF] at hrun
    have hget := get_map (f := Task.c) hlt
    generalize pl[k] = t at *
    refine Aw.seq (Aw.block ?_)
    refine Aw.sm tab_ok mb0 [(0, t.c)] rfl rfl ?zo ?zk
    case zo =>
      repeat' apply AllP.cons
      all_goals first | exact trivial | exact rfl | exact Nat.le_of_ble_eq_true rfl | exact Int.natCast_nonneg _ | exact hget
    case zk =>
    refine Aw.sm tab_ok mb0 [] rfl rfl ?zo ?zk
    case zo =>
      repeat' apply AllP.cons
      all_goals first | exact trivial | exact rfl | exact Nat.le_of_ble_eq_true rfl
    case zk =>
    have h8E : ∀ id, 8 ≤ id → E.φ0 id = none := fun id h => hE id (by omega)
    have ucst : UnderL 8 [(8, .ref 3 0), (9, .fn (.func 57) [.agg cd.c] []), (10, .ms 4 0 cd.g.lots.length), (11, .mp 5), (13, .ref 6 0), (14, .ref 7 0), (34, .sl b .any (pl.map Task.c)), (35, .int (pl.map Task.c).length), (36, .int k)] :=
      ⟨.ref _ _ (by decide), ufn.mono (by decide), .ms _ _ _ (by decide), .mp _ (by decide), .ref _ _ (by decide), .ref _ _ (by decide), hpf.under, .s _, .s _, trivial⟩
    have ut : ∀ x y : Int, UnderB 8 (.cells [.int x, .int y]) := fun x y => .cells _ (allC (.s _) (all1 (.s _)))
    have utc : UnderB 8 (.cells t.c) := .cells _ fun x hx => (t.free x hx).under
    refine Aw.keep (n := 8) (cst := [(8, .ref 3 0), (9, .fn (.func 57) [.agg cd.c] []), (10, .ms 4 0 cd.g.lots.length), (11, .mp 5), (13, .ref 6 0), (14, .ref 7 0), (34, .sl b .any (pl.map Task.c)), (35, .int (pl.map Task.c).length), (36, .int k)]) (v := [])
      (Hl := (6, .cells t.c) :: (7, .cells [.int t.worker, .int t.hour]) :: [(3, .cells cd.c), (4, .cells (tk.map A.int)), (5, .map (encM (slotE cd.g) valI bs))]) h8E ucst trivial ⟨⟨by decide, utc⟩, ⟨by decide, ut _ _⟩, HU 8 tk bs (by decide)⟩
      ⟨⟨.refl _, .refl _, .refl _, .refl _, .refl _, .refl _, .refl _, .refl _, .refl _, trivial⟩, trivial, ⟨rfl, rfl, rfl, rfl, rfl, trivial⟩, Nat.le_of_ble_eq_true rfl⟩ ?_
    refine Aw.seq ?_
    have nw := hd'.nw
    have lw : ((cd.g.wks.map Wk.c).length : Int) = cd.g.wks.length := by simp
    have il : inR (((cd.g.lots.map Lot.c).length : Int) - 1) := by simp only [inR]; omega
    have iw : inR (((cd.g.wks.map Wk.c).length : Int) - 1) := by simp only [inR]; omega
    have hcan : gq (cond (!lotIn cd.g t) true (!wkIn cd.g t)) false = true → Ans Try.prog 57 [.agg cd.c, .int t.lot, .agg [.int t.worker, .int t.hour]] (.bool (canT cd t)) := fun h => by
      cases h1 : lotIn cd.g t with
      | false => rw [h1] at h; cases h
      | true =>
        cases h2 : wkIn cd.g t with
        | false => rw [h1, h2] at h; cases h
        | true => exact canT_t cd hd' g8 t h1 h2
    refine Aw.sm tab_ok mb0 [(7, [.bool (lotIn cd.g t)]), (17, [.bool (wkIn cd.g t)]), (25, [.bool (canT cd t)]), (31, [.bool (wi t.crans 1 50)])] rfl rfl ?zo ?zk
    case zo =>
      repeat' apply AllP.cons
      all_goals first | exact trivial | exact id | exact fun _ => rfl | exact Nat.le_of_ble_eq_true rfl | exact fun _ => Nat.le_of_ble_eq_true rfl | exact within_t _ _ _ | exact (within_t _ _ _).un | exact il | exact fun _ => iw | exact hcan | exact (fun h => by rw [h]; rfl)
    case zk =>
    refine Aw.cond rfl (fun h4 => ?_) (fun h4 => Aw.skip ?_)
    · have h4' : badT cd t = true := h4
      rw [if_pos h4'] at hrun
      subst hrun
      refine Aw.sm tab_ok mb0 [] rfl rfl ?zo ?zk
      case zo =>
        repeat' apply AllP.cons
        all_goals first | exact trivial
      case zk =>
      exact Aw.ret ⟨_, .cons (.tmp _) (.cons (.tmp _) (.cons (.tmp _) .nil)), rfl⟩
    have h4' : badT cd t = false := h4
    rw [if_neg (by rw [h4']; decide)] at hrun
    have hgood : lotIn cd.g t = true ∧ wkIn cd.g t = true ∧ canT cd t = true ∧ wi t.crans 1 50 = true := by
      unfold badT at h4'
      revert h4'
      cases lotIn cd.g t <;> cases wkIn cd.g t <;> cases canT cd t <;> cases wi t.crans 1 50 <;> simp
    obtain ⟨q1, q2, q3, q4⟩ := hgood
    have g1 := wi_iff.1 q1
    have g2 := wi_iff.1 q2
    have g4 := wi_iff.1 q4
    simp only [List.length_map] at g1 g2
    have hl1 : t.lot.toNat < cd.g.lots.length := by omega
    obtain ⟨l, hl⟩ : ∃ l, cd.g.lots[t.lot.toNat]? = some l := ⟨cd.g.lots[t.lot.toNat], by simp [hl1]⟩
    obtain ⟨wk, hwk⟩ : ∃ l, cd.g.wks[t.worker.toNat]? = some l := ⟨cd.g.wks[t.worker.toNat]'(by omega), by simp [show t.worker.toNat < cd.g.wks.length by omega]⟩
    obtain ⟨u, hu⟩ : ∃ l, cd.u[t.lot.toNat]? = some l := ⟨cd.u[t.lot.toNat]'(by omega), by simp [show t.lot.toNat < cd.u.length by omega]⟩
    have lo := lotOk_iff (hd'.lots l (List.mem_of_getElem? hl))
    have wo := wkOk_iff (hd'.wks wk (List.mem_of_getElem? hwk))
    have hh : wk.fr ≤ t.hour ∧ t.hour ≤ wk.to := by
      have : canF l wk t.hour u = true := by rw [← q3]; simp only [canT, hl, hwk, hu]
      unfold canF at this
      exact wi_iff.1 (ac2 (ac1 this))
    have hcr : cransAt cd.g t = l.crans := by simp only [cransAt, hl]
    have hrt : wkRate cd.g t = wk.rate := by simp only [wkRate, hwk]
    rw [hcr, hrt] at hrun
    have hH : 0 < cd.g.hours.toNat := by have := hd'.hours; omega
    have hp1 : ((slotP cd.g t / cd.g.hours.toNat : Nat) : Int) = t.worker := by
      unfold slotP
      rw [Nat.mul_comm, Nat.mul_add_div hH, Nat.div_eq_of_lt (by omega)]; omega
    have hp2 : ((slotP cd.g t % cd.g.hours.toNat : Nat) : Int) = t.hour := by
      unfold slotP
      rw [Nat.mul_comm, Nat.mul_add_mod, Nat.mod_eq_of_lt (by omega)]; omega
    generalize slotP cd.g t = p at *
    have hcell : [A.int t.worker, .int t.hour] = [A.int ((p / cd.g.hours.toNat : Nat) : Int), .int ((p % cd.g.hours.toNat : Nat) : Int)] := by rw [hp1, hp2]
    have htk := getD_pos (fun x hx => (htb x hx).1) t.lot.toNat
    have htk2 : tk.getD t.lot.toNat 0 ≤ 50 := by
      rw [List.getD_eq_getElem?_getD, List.getElem?_eq_getElem (by omega)]
      exact (htb _ (List.getElem_mem _)).2
    have htc : t.c = [A.int t.lot, .int t.worker, .int t.hour, .int t.crans] := rfl
    have ldl : (List.getD (tk.map A.int) (0 + Int.toNat t.lot * 1) .un).down = .int (tk.getD t.lot.toNat 0) := by
      rw [Nat.mul_one, Nat.zero_add]
      simp [List.getD_eq_getElem?_getD, show t.lot.toNat < tk.length by omega, A.down]
    have ltl : 0 + Int.toNat t.lot * 1 < (tk.map A.int).length := by rw [List.length_map]; omega
    have ltl2 : t.lot < (cd.g.lots.length : Nat) := by omega
    have hx0 : inR (tk.getD t.lot.toNat 0 + t.crans) := by simp only [inR]; omega
    generalize hx : tk.getD t.lot.toNat 0 + t.crans = x at *
    refine Aw.sd tab_ok mixed mb0 [(4, [.int (tk.getD t.lot.toNat 0)])] rfl (by kernel_rfl) rfl rfl ?zo ?zk
    case zo =>
      repeat' apply AllP.cons
      all_goals first | exact trivial | exact rfl | exact Nat.le_of_ble_eq_true rfl | exact ldl | exact ltl | exact ltl2 | exact g1.1 | exact hx ▸ hx0
    case zk =>
    have hst : setSeg (tk.map A.int) (0 + Int.toNat t.lot * 1) [A.int (tk.getD t.lot.toNat 0 + t.crans)] = (tk.set t.lot.toNat x).map A.int := by
      rw [Nat.mul_one, Nat.zero_add, setSeg_set (by omega), hx]
    have htl2 : (tk.set t.lot.toNat x).length = cd.g.lots.length := by simp [htl]
    have htx : (tk.set t.lot.toNat x).getD t.lot.toNat 0 = x := by rw [getD_set' _ _ _ _ (by omega), if_pos rfl]
    have htb2 : x ≤ 50 → ∀ y ∈ tk.set t.lot.toNat x, 0 ≤ y ∧ y ≤ 50 := fun hx50 y hy => by
      rcases List.mem_or_eq_of_mem_set hy with h | h
      · exact htb y h
      · subst h; omega
    generalize htk' : tk.set t.lot.toNat x = tk2 at *
    refine Aw.keep (n := 8) (cst := [(8, .ref 3 0), (9, .fn (.func 57) [.agg cd.c] []), (10, .ms 4 0 cd.g.lots.length), (11, .mp 5), (13, .ref 6 0), (14, .ref 7 0), (34, .sl b .any (pl.map Task.c)), (35, .int (pl.map Task.c).length), (36, .int k)]) (v := [])
      (Hl := (6, .cells t.c) :: (7, .cells [.int ((p / cd.g.hours.toNat : Nat) : Int), .int ((p % cd.g.hours.toNat : Nat) : Int)]) :: [(3, .cells cd.c), (4, .cells (tk2.map A.int)), (5, .map (encM (slotE cd.g) valI bs))]) h8E ucst trivial ⟨⟨by decide, utc⟩, ⟨by decide, ut _ _⟩, HU 8 tk2 bs (by decide)⟩
      ⟨⟨.refl _, .refl _, .refl _, .refl _, .refl _, .refl _, .refl _, .refl _, .refl _, trivial⟩, trivial, ⟨rfl, congrArg (fun x => some (B.cells x)) hcell, rfl, congrArg (fun x => some (B.cells x)) hst, rfl, trivial⟩, Nat.le_of_ble_eq_true rfl⟩ ?_
    have hb0 := hbb p
    have hlka : A.int (busyAt bs p) = lkA tab 3 (encM (slotE cd.g) valI bs) (ixOf Try.prog 93 (encM (slotE cd.g) valI bs) (keyA (slotE cd.g) p)) := by
      obtain ⟨j, hj, hv, _⟩ := lk_busy cd.g bs p
      rw [hj.ix]; exact hv
    have hep := entry_put (kty cd.g) valI bs p (.int (busyAt bs p)) (busyAt bs p + t.crans) rfl rfl
    have hyr : inR (busyAt bs p + t.crans) := by simp only [inR]; omega
    have hkv2 : LkIs Try.prog tab 93 3 (upKV (encM (slotE cd.g) valI bs) (keyA (slotE cd.g) p) (.int (busyAt bs p)) (ixOf Try.prog 93 (encM (slotE cd.g) valI bs) (keyA (slotE cd.g) p))) (keyA (slotE cd.g) p) (.int (busyAt bs p)) true := by
      have := (kty cd.g).up valI bs p (busyAt bs p)
      have e : upKV (encM (slotE cd.g) valI bs) (keyA (slotE cd.g) p) (.int (busyAt bs p)) (ixOf Try.prog 93 (encM (slotE cd.g) valI bs) (keyA (slotE cd.g) p)) = encM (slotE cd.g) valI (mput bs p (busyAt bs p)) := this
      rw [e]
      have hg : mget (mput bs p (busyAt bs p)) p = some (busyAt bs p) := by rw [mget_put]; simp
      have h := lk_busy cd.g (mput bs p (busyAt bs p)) p
      have hb : busyAt (mput bs p (busyAt bs p)) p = busyAt bs p := by
        show (mget (mput bs p (busyAt bs p)) p).getD 0 = _
        rw [hg]; rfl
      rw [hb, hg] at h
      exact h
    refine Aw.sdS 2 tab_ok mixed mb0 [(2, [.int (busyAt bs p), .bool (mget bs p).isSome]), (6, [.int (busyAt bs p)])] rfl (by kernel_rfl) rfl rfl ?zo ?soft ?zk
    case zo =>
      repeat' apply AllP.cons
      all_goals first | exact trivial | exact id | exact rfl | exact Nat.le_of_ble_eq_true rfl | exact lk_busy cd.g bs p | exact (kty cd.g).has valI bs p | exact hlka | exact hyr | exact hep.2.1 | exact hep.2.2
    case soft =>
      intro o f L ho hf hL
      have ho := Option.some.inj ho
      have hf := Option.some.inj hf
      subst ho
      subst hf
      have hL8 : L 8 = false := hL 8 (by decide) (by decide) (by kernel_rfl)
      refine lookup_soft tab_ok (kt := 93) (et := 3) (id := 5) rfl rfl rfl rfl (by decide) rfl fun H' hH => ?_
      subst hH
      cases h6 : L 6 with
      | false =>
        refine ⟨_, _, (LH_congr (L' := fun _ => false) rfl ?_).trans rfl, lk_busy cd.g bs p⟩
        intro k f hk ht
        rw [Nat.zero_add]
        rcases k with _ | _ | _ | _ | _ | _ | _ | _ | _ | k
        all_goals first | exact h6 | exact hL8 | (have e := Option.some.inj hk; subst e; cases ht; done) | (cases hk; done)
      | true =>
        refine ⟨_, _, (LH_congr (L' := fun k => Nat.beq k 6) rfl ?_).trans rfl, hkv2⟩
        intro k f hk ht
        rw [Nat.zero_add]
        rcases k with _ | _ | _ | _ | _ | _ | _ | _ | _ | k
        all_goals first | exact h6 | exact hL8 | (have e := Option.some.inj hk; subst e; cases ht; done) | (cases hk; done)
    case zk =>
    have hy0 : busyAt bs p + t.crans ≤ 70 ∧ 0 ≤ busyAt bs p + t.crans := by omega
    have hbput : ∀ q, busyAt (mput bs p (busyAt bs p + t.crans)) q = if p == q then busyAt bs p + t.crans else busyAt bs q := fun q => by
      show (mget (mput bs p (busyAt bs p + t.crans)) q).getD 0 = _
      rw [mget_put]; split <;> rfl
    have hep1 := hep.1
    generalize busyAt bs p + t.crans = y at *
    generalize hbs2 : mput bs p y = bs2 at *
    have hby : busyAt bs2 p = y := by rw [hbput]; simp
    refine Aw.keep (n := 8) (cst := [(8, .ref 3 0), (9, .fn (.func 57) [.agg cd.c] []), (10, .ms 4 0 cd.g.lots.length), (11, .mp 5), (13, .ref 6 0), (14, .ref 7 0), (34, .sl b .any (pl.map Task.c)), (35, .int (pl.map Task.c).length), (36, .int k)]) (v := [])
      (Hl := (6, .cells t.c) :: (7, .cells [.int ((p / cd.g.hours.toNat : Nat) : Int), .int ((p % cd.g.hours.toNat : Nat) : Int)]) :: [(3, .cells cd.c), (4, .cells (tk2.map A.int)), (5, .map (encM (slotE cd.g) valI bs2))]) h8E ucst trivial ⟨⟨by decide, utc⟩, ⟨by decide, ut _ _⟩, HU 8 tk2 bs2 (by decide)⟩
      ⟨⟨.refl _, .refl _, .refl _, .refl _, .refl _, .refl _, .refl _, .refl _, .refl _, trivial⟩, trivial, ⟨rfl, rfl, rfl, rfl, congrArg (fun x => some (B.map x)) hep1, trivial⟩, Nat.le_of_ble_eq_true rfl⟩ ?_
    have ldl2 : (List.getD (tk2.map A.int) (0 + Int.toNat t.lot * 1) .un).down = .int x := by
      rw [Nat.mul_one, Nat.zero_add, ← htx]
      simp [List.getD_eq_getElem?_getD, show t.lot.toNat < tk2.length by omega, A.down]
    have ltl3 : 0 + Int.toNat t.lot * 1 < (tk2.map A.int).length := by rw [List.length_map]; omega
    have hlget : (cd.g.lots.map Lot.c)[t.lot.toNat]? = some l.c := by rw [List.getElem?_map, hl]; rfl
    have hwget : (cd.g.wks.map Wk.c)[t.worker.toNat]? = some wk.c := by rw [List.getElem?_map, hwk]; rfl
    have hlk2 : LkIs Try.prog tab 93 3 (encM (slotE cd.g) valI bs2) (keyA (slotE cd.g) p) (.int y) (mget bs2 p).isSome := hby ▸ lk_busy cd.g bs2 p
    refine Aw.sd tab_ok mixed mb0 [(4, [.int x]), (10, l.c), (17, [.int y, .bool (mget bs2 p).isSome]), (23, wk.c)] rfl (by kernel_rfl) rfl rfl ?zo ?zk
    case zo =>
      repeat' apply AllP.cons
      all_goals first | exact trivial | exact id | exact rfl | exact fun _ => rfl | exact Nat.le_of_ble_eq_true rfl | exact fun _ => Nat.le_of_ble_eq_true rfl | exact ldl2 | exact ltl3 | exact ltl2 | exact g1.1 | exact hlget | exact fun _ => hwget | exact fun _ => hlk2 | exact fun _ => g2.1 | exact (fun h => by rw [h]; rfl)
    case zk =>
    refine Aw.cond rfl (fun h5 => ?_) (fun h5 => Aw.skip ?_)
    · have h5' : x > l.crans ∨ y > wk.rate := by
        by_cases hx1 : x > l.crans
        · exact .inl hx1
        · have e : decide (x > l.crans) = false := decide_eq_false hx1
          have h5 : cond (decide (x > l.crans)) true (decide (y > wk.rate)) = true := h5
          rw [e] at h5; exact .inr (of_decide_eq_true h5)
      rw [if_pos h5'] at hrun
      subst hrun
      refine Aw.sm tab_ok mb0 [] rfl rfl ?zo ?zk
      case zo =>
        repeat' apply AllP.cons
        all_goals first | exact trivial
      case zk =>
      exact Aw.ret ⟨_, .cons (.tmp _) (.cons (.tmp _) (.cons (.tmp _) .nil)), rfl⟩
    have h5' : ¬ (x > l.crans ∨ y > wk.rate) := by
      have h5 : cond (decide (x > l.crans)) true (decide (y > wk.rate)) = false := h5
      rintro (h | h)
      · rw [show decide (x > l.crans) = true from decide_eq_true h] at h5; cases h5
      · rw [show decide (y > wk.rate) = true from decide_eq_true h] at h5
        cases e : decide (x > l.crans) <;> rw [e] at h5 <;> cases h5
    rw [if_neg h5'] at hrun
    refine Aw.em tab_ok mb0 [] rfl rfl ?zo ?zk
    case zo =>
      repeat' apply AllP.cons
      all_goals first | exact trivial | exact (by simp only [Ob.of, inR]; omega)
    case zk =>
    exact ⟨(k + 1, tk2, bs2), ⟨hlt, htl2, htb2 (by omega), fun q => by show 0 ≤ busyAt bs2 q ∧ busyAt bs2 q ≤ 20; rw [hbput]; split; (· omega); (· exact hbb q), hrun⟩, by show pl.length - (k + 1) < pl.length - k; omega,
      ⟨.refl _, .refl _, .refl _, .refl _, .refl _, .refl _, trivial⟩, ⟨.refl _, trivial⟩, ⟨rfl, rfl, rfl, trivial⟩, Nat.le_of_ble_eq_true rfl⟩
  · have hend : k = pl.length := by have := of_decide_eq_false h3; omega
    subst hend
    rw [List.drop_length, chkF] at hrun
    subst hrun
    have hsumA : Ans Try.prog 59 [.sl false .any (ints tk)] (.int tk.sum) := sum_t false tk (by omega) fun j _ => by
      have h1 := (sum_bd (b := 50) fun x hx => htb x (List.mem_of_mem_take hx) : 0 ≤ (tk.take j).sum ∧ _)
      have h3 : (tk.take j).length ≤ 8 := by rw [List.length_take]; omega
      simp only [inR]; omega
    have hsnap : AnsS Try.prog (ofH [(3, .cells cd.c), (4, .cells (tk.map A.int)), (5, .map (encM (slotE cd.g) valI bs))]) 59 [.ms 4 0 cd.g.lots.length] [.sl false .any (ints tk)] (.int tk.sum) :=
      ⟨hsumA.ent, hsumA.pure, .s _, .cons (.ms (sz := 1) rfl (by simp [ints, htl]) (fun z hz => by obtain ⟨i, _, rfl⟩ := List.mem_map.1 hz; rfl) (by simp [htl]) fun i j hi hj => ints_flat tk i j (by omega) hj) .nil⟩
    have hcr := crans_t cd hd'
    have hsub : inR (cransOf cd.g - tk.sum) := by
      have h1 := sum_bd (b := 50) (l := cd.g.lots.map Lot.crans) fun x hx => by
        obtain ⟨l, hl, rfl⟩ := List.mem_map.1 hx
        have := (lotOk_iff (hd'.lots l hl)).1; omega
      have h2 := sum_bd (b := 50) htb
      rw [List.length_map] at h1
      show inR ((cd.g.lots.map Lot.crans).sum - tk.sum)
      simp only [inR]; omega
    refine Aw.sm tab_ok mb0 [(0, [.agg cd.c]), (1, [.int (cransOf cd.g)]), (3, [.int tk.sum, .agg [.sl false .any (ints tk)]])] rfl rfl ?zo ?zk
    case zo =>
      repeat' apply AllP.cons
      all_goals first | exact trivial | exact w12 | exact l12 | exact hcr | exact hsnap | exact hsub
    case zk =>
    exact Aw.ret ⟨_, .cons (.tmp _) (.cons (.tmp _) (.cons (.tmp _) .nil)), rfl⟩
end Go.Proofs.Ytimikmfkdaoaaaa
