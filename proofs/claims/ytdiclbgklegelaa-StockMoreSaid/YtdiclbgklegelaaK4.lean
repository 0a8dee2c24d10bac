/- What the proof leans on, part 4: ST S1 S2 S3 S4 S5 S6 S7 S8. -/
import Derived.Test.YtdiclbgklegelaaK3
import Derived.KernelRfl
import Derived.Test.YtdiclbgklegelaaProg
set_option linter.all false
namespace Go.Proofs.Ytdiclbgklegelaa
open Go Go.AL
def tyT : Nat → Ty
  | 1 => .func
  | 2 => .int
  | 3 => .int
  | 4 => .bool
  | 15 => .ptr 143
  | 16 => .ptr 146
  | 17 => .ptr 156
  | 18 => .struct [(17, 0)]
  | 19 => .struct [(17, 0)]
  | 22 => .slice 62
  | 23 => .arr 2 3
  | 24 => .struct [(3, 0), (3, 1)]
  | 25 => .struct [(3, 0), (3, 1)]
  | 26 => .int
  | 28 => .func
  | 29 => .func
  | 30 => .func
  | 31 => .slice 32
  | 32 => .slice 25
  | 34 => .func
  | 35 => .func
  | 36 => .func
  | 37 => .slice 3
  | 38 => .struct [(37, 0), (37, 1), (37, 2), (3, 3), (3, 4)]
  | 39 => .struct [(37, 0), (37, 1), (37, 2), (3, 3), (3, 4)]
  | 41 => .func
  | 42 => .func
  | 43 => .func
  | 44 => .slice 39
  | 45 => .slice 55
  | 46 => .struct [(44, 0), (37, 1), (45, 2)]
  | 47 => .struct [(44, 0), (37, 1), (45, 2)]
  | 49 => .func
  | 50 => .func
  | 52 => .func
  | 53 => .func
  | 54 => .slice 122
  | 55 => .slice 37
  | 57 => .func
  | 58 => .func
  | 59 => .func
  | 60 => .func
  | 61 => .struct [(3, 0), (25, 1)]
  | 62 => .struct [(3, 0), (25, 1)]
  | 63 => .func
  | 64 => .func
  | 65 => .func
  | 66 => .func
  | 67 => .func
  | 68 => .func
  | 69 => .func
  | 70 => .func
  | 71 => .func
  | 72 => .arr 3 3
  | 73 => .func
  | 74 => .func
  | 75 => .func
  | 76 => .func
  | 77 => .func
  | 78 => .func
  | 79 => .func
  | 80 => .arr 4 3
  | 81 => .func
  | 82 => .func
  | 84 => .func
  | 85 => .func
  | 86 => .func
  | 87 => .func
  | 88 => .func
  | 89 => .slice 47
  | 90 => .func
  | 91 => .func
  | 92 => .func
  | 93 => .func
  | 94 => .func
  | 95 => .func
  | 96 => .func
  | 97 => .func
  | 98 => .struct [(97, 0)]
  | 99 => .struct [(97, 0)]
  | 100 => .func
  | 101 => .func
  | 102 => .func
  | 103 => .func
  | 104 => .func
  | 105 => .struct [(39, 0)]
  | 106 => .struct [(39, 0)]
  | 107 => .func
  | 108 => .func
  | 109 => .arr 6 3
  | 110 => .arr 6 3
  | 111 => .func
  | 113 => .func
  | 114 => .func
  | 115 => .func
  | 116 => .struct [(47, 0)]
  | 117 => .struct [(47, 0)]
  | 119 => .func
  | 120 => .func
  | 121 => .struct [(3, 0), (3, 1)]
  | 122 => .struct [(3, 0), (3, 1)]
  | 123 => .slice 125
  | 124 => .struct [(3, 0)]
  | 125 => .struct [(3, 0)]
  | 126 => .map 125 122
  | 127 => .struct [(54, 0), (126, 1)]
  | 128 => .struct [(54, 0), (126, 1)]
  | 129 => .func
  | 130 => .func
  | 131 => .slice 4
  | 132 => .func
  | 133 => .func
  | 134 => .func
  | 135 => .func
  | 136 => .func
  | 137 => .func
  | 138 => .func
  | 140 => .func
  | 141 => .func
  | 147 => .func
  | 151 => .func
  | 152 => .ptr 5
  | _ => .none
def szT : Nat → Nat
  | 23 => 2
  | 24 => 2
  | 25 => 2
  | 38 => 5
  | 39 => 5
  | 46 => 3
  | 47 => 3
  | 61 => 3
  | 62 => 3
  | 72 => 3
  | 80 => 4
  | 105 => 5
  | 106 => 5
  | 109 => 6
  | 110 => 6
  | 116 => 3
  | 117 => 3
  | 121 => 2
  | 122 => 2
  | 127 => 2
  | 128 => 2
  | _ => 1
def byT : Nat → Nat
  | 1 => 8
  | 2 => 8
  | 3 => 8
  | 4 => 1
  | 15 => 8
  | 16 => 8
  | 17 => 8
  | 18 => 8
  | 19 => 8
  | 22 => 24
  | 23 => 16
  | 24 => 16
  | 25 => 16
  | 26 => 8
  | 28 => 8
  | 29 => 8
  | 30 => 8
  | 31 => 24
  | 32 => 24
  | 34 => 8
  | 35 => 8
  | 36 => 8
  | 37 => 24
  | 38 => 88
  | 39 => 88
  | 41 => 8
  | 42 => 8
  | 43 => 8
  | 44 => 24
  | 45 => 24
  | 46 => 72
  | 47 => 72
  | 49 => 8
  | 50 => 8
  | 52 => 8
  | 53 => 8
  | 54 => 24
  | 55 => 24
  | 57 => 8
  | 58 => 8
  | 59 => 8
  | 60 => 8
  | 61 => 24
  | 62 => 24
  | 63 => 8
  | 64 => 8
  | 65 => 8
  | 66 => 8
  | 67 => 8
  | 68 => 8
  | 69 => 8
  | 70 => 8
  | 71 => 8
  | 72 => 24
  | 73 => 8
  | 74 => 8
  | 75 => 8
  | 76 => 8
  | 77 => 8
  | 78 => 8
  | 79 => 8
  | 80 => 32
  | 81 => 8
  | 82 => 8
  | 84 => 8
  | 85 => 8
  | 86 => 8
  | 87 => 8
  | 88 => 8
  | 89 => 24
  | 90 => 8
  | 91 => 8
  | 92 => 8
  | 93 => 8
  | 94 => 8
  | 95 => 8
  | 96 => 8
  | 97 => 8
  | 98 => 8
  | 99 => 8
  | 100 => 8
  | 101 => 8
  | 102 => 8
  | 103 => 8
  | 104 => 8
  | 105 => 88
  | 106 => 88
  | 107 => 8
  | 108 => 8
  | 109 => 48
  | 110 => 48
  | 111 => 8
  | 113 => 8
  | 114 => 8
  | 115 => 8
  | 116 => 72
  | 117 => 72
  | 119 => 8
  | 120 => 8
  | 121 => 16
  | 122 => 16
  | 123 => 24
  | 124 => 8
  | 125 => 8
  | 126 => 8
  | 127 => 32
  | 128 => 32
  | 129 => 8
  | 130 => 8
  | 131 => 24
  | 132 => 8
  | 133 => 8
  | 134 => 8
  | 135 => 8
  | 136 => 8
  | 137 => 8
  | 138 => 8
  | 140 => 8
  | 141 => 8
  | 147 => 8
  | 151 => 8
  | 152 => 8
  | _ => 0
def zrT : Nat → List A
  | 1 => [.s .nilFunc]
  | 2 => [.s (.int .i64 0)]
  | 3 => [.s (.int .i64 0)]
  | 4 => [.s (.bool false)]
  | 15 => [.s (.pointer none)]
  | 16 => [.s (.pointer none)]
  | 17 => [.s (.pointer none)]
  | 18 => [.s (.pointer none)]
  | 19 => [.s (.pointer none)]
  | 22 => [.sl true .exact []]
  | 23 => [.s (.int .i64 0), .s (.int .i64 0)]
  | 24 => [.s (.int .i64 0), .s (.int .i64 0)]
  | 25 => [.s (.int .i64 0), .s (.int .i64 0)]
  | 26 => [.s (.int .i64 0)]
  | 28 => [.s .nilFunc]
  | 29 => [.s .nilFunc]
  | 30 => [.s .nilFunc]
  | 31 => [.sl true .exact []]
  | 32 => [.sl true .exact []]
  | 34 => [.s .nilFunc]
  | 35 => [.s .nilFunc]
  | 36 => [.s .nilFunc]
  | 37 => [.sl true .exact []]
  | 38 => [.sl true .exact [], .sl true .exact [], .sl true .exact [], .s (.int .i64 0), .s (.int .i64 0)]
  | 39 => [.sl true .exact [], .sl true .exact [], .sl true .exact [], .s (.int .i64 0), .s (.int .i64 0)]
  | 41 => [.s .nilFunc]
  | 42 => [.s .nilFunc]
  | 43 => [.s .nilFunc]
  | 44 => [.sl true .exact []]
  | 45 => [.sl true .exact []]
  | 46 => [.sl true .exact [], .sl true .exact [], .sl true .exact []]
  | 47 => [.sl true .exact [], .sl true .exact [], .sl true .exact []]
  | 49 => [.s .nilFunc]
  | 50 => [.s .nilFunc]
  | 52 => [.s .nilFunc]
  | 53 => [.s .nilFunc]
  | 54 => [.sl true .exact []]
  | 55 => [.sl true .exact []]
  | 57 => [.s .nilFunc]
  | 58 => [.s .nilFunc]
  | 59 => [.s .nilFunc]
  | 60 => [.s .nilFunc]
  | 61 => [.s (.int .i64 0), .s (.int .i64 0), .s (.int .i64 0)]
  | 62 => [.s (.int .i64 0), .s (.int .i64 0), .s (.int .i64 0)]
  | 63 => [.s .nilFunc]
  | 64 => [.s .nilFunc]
  | 65 => [.s .nilFunc]
  | 66 => [.s .nilFunc]
  | 67 => [.s .nilFunc]
  | 68 => [.s .nilFunc]
  | 69 => [.s .nilFunc]
  | 70 => [.s .nilFunc]
  | 71 => [.s .nilFunc]
  | 72 => [.s (.int .i64 0), .s (.int .i64 0), .s (.int .i64 0)]
  | 73 => [.s .nilFunc]
  | 74 => [.s .nilFunc]
  | 75 => [.s .nilFunc]
  | 76 => [.s .nilFunc]
  | 77 => [.s .nilFunc]
  | 78 => [.s .nilFunc]
  | 79 => [.s .nilFunc]
  | 80 => [.s (.int .i64 0), .s (.int .i64 0), .s (.int .i64 0), .s (.int .i64 0)]
  | 81 => [.s .nilFunc]
  | 82 => [.s .nilFunc]
  | 84 => [.s .nilFunc]
  | 85 => [.s .nilFunc]
  | 86 => [.s .nilFunc]
  | 87 => [.s .nilFunc]
  | 88 => [.s .nilFunc]
  | 89 => [.sl true .exact []]
  | 90 => [.s .nilFunc]
  | 91 => [.s .nilFunc]
  | 92 => [.s .nilFunc]
  | 93 => [.s .nilFunc]
  | 94 => [.s .nilFunc]
  | 95 => [.s .nilFunc]
  | 96 => [.s .nilFunc]
  | 97 => [.s .nilFunc]
  | 98 => [.s .nilFunc]
  | 99 => [.s .nilFunc]
  | 100 => [.s .nilFunc]
  | 101 => [.s .nilFunc]
  | 102 => [.s .nilFunc]
  | 103 => [.s .nilFunc]
  | 104 => [.s .nilFunc]
  | 105 => [.sl true .exact [], .sl true .exact [], .sl true .exact [], .s (.int .i64 0), .s (.int .i64 0)]
  | 106 => [.sl true .exact [], .sl true .exact [], .sl true .exact [], .s (.int .i64 0), .s (.int .i64 0)]
  | 107 => [.s .nilFunc]
  | 108 => [.s .nilFunc]
  | 109 => [.s (.int .i64 0), .s (.int .i64 0), .s (.int .i64 0), .s (.int .i64 0), .s (.int .i64 0), .s (.int .i64 0)]
  | 110 => [.s (.int .i64 0), .s (.int .i64 0), .s (.int .i64 0), .s (.int .i64 0), .s (.int .i64 0), .s (.int .i64 0)]
  | 111 => [.s .nilFunc]
  | 113 => [.s .nilFunc]
  | 114 => [.s .nilFunc]
  | 115 => [.s .nilFunc]
  | 116 => [.sl true .exact [], .sl true .exact [], .sl true .exact []]
  | 117 => [.sl true .exact [], .sl true .exact [], .sl true .exact []]
  | 119 => [.s .nilFunc]
  | 120 => [.s .nilFunc]
  | 121 => [.s (.int .i64 0), .s (.int .i64 0)]
  | 122 => [.s (.int .i64 0), .s (.int .i64 0)]
  | 123 => [.sl true .exact []]
  | 124 => [.s (.int .i64 0)]
  | 125 => [.s (.int .i64 0)]
  | 126 => [.s (.map none)]
  | 127 => [.sl true .exact [], .s (.map none)]
  | 128 => [.sl true .exact [], .s (.map none)]
  | 129 => [.s .nilFunc]
  | 130 => [.s .nilFunc]
  | 131 => [.sl true .exact []]
  | 132 => [.s .nilFunc]
  | 133 => [.s .nilFunc]
  | 134 => [.s .nilFunc]
  | 135 => [.s .nilFunc]
  | 136 => [.s .nilFunc]
  | 137 => [.s .nilFunc]
  | 138 => [.s .nilFunc]
  | 140 => [.s .nilFunc]
  | 141 => [.s .nilFunc]
  | 147 => [.s .nilFunc]
  | 151 => [.s .nilFunc]
  | 152 => [.s (.pointer none)]
  | _ => []
noncomputable def tab : Tab := ⟨tyT, szT, byT, zrT, pureEq Try.prog, findIx Try.prog, keyOk Try.prog⟩
theorem tyT_none : ∀ t, 158 ≤ t → tyT t = .none := by
  intro t h
  unfold tyT
  split <;> first | rfl | omega
theorem tab_chk : ((List.range 158).all fun t => tab.chkAt Try.prog t) = true := by kernel_rfl
theorem tab_ok : tab.Ok Try.prog := Tab.ok_of tab_chk tyT_none (by kernel_rfl) (by kernel_rfl) (by kernel_rfl)
end Go.Proofs.Ytdiclbgklegelaa

namespace Go.Proofs.Ytdiclbgklegelaa
open Go Go.AL Go.AL.Q
def mb0 : Nat → Bool := fun _ => false
theorem mixed : Try.prog.follows .mixedOrders = true := by kernel_rfl
theorem told {f : Nat} {fn : Func} {c : Code} {args : List A} {v : A} (hf : Try.prog.funcs[f]? = some fn) (hb : fn.body = some c) (hn : enterOk fn = true) (h : Pure Try.prog f args v) : Ans Try.prog f args v := ⟨enters_of hf hb hn, h⟩
theorem within_t (n a b : Int) : Ans Try.prog 61 [.int n, .int a, .int b] (.bool (wi n a b)) := by
  refine told Try.func61 rfl rfl (Pure.of tab_ok Try.func61 rfl Try.ntmps61 rfl (allC (.s _) (allC (.s _) (all1 (.s _)))) (allC (fun _ => rfl) (allC (fun _ => rfl) (all1 (fun _ => rfl)))) (by first | exact .s _ | assumption | exact .tup _ (by intro x hx; simp only [List.mem_cons, List.not_mem_nil, or_false] at hx; rcases hx with rfl | rfl | rfl | rfl <;> first | exact .s _ | (simp_all; done))) fun E hE => ?_)
  refine Aw.sm tab_ok mb0 [] rfl rfl ?zo ?zk
  case zo =>
    repeat' apply AllP.cons
    all_goals first | exact trivial | exact id | exact rfl | exact fun _ => rfl | exact Nat.le_of_ble_eq_true rfl | exact fun _ => Nat.le_of_ble_eq_true rfl | exact Int.natCast_nonneg _ | exact fun _ => Int.natCast_nonneg _
  case zk =>
  refine Aw.sm tab_ok mb0 [] rfl rfl ?zo ?zk
  case zo =>
    repeat' apply AllP.cons
    all_goals first | exact trivial | exact id | exact rfl | exact fun _ => rfl | exact Nat.le_of_ble_eq_true rfl | exact fun _ => Nat.le_of_ble_eq_true rfl | exact Int.natCast_nonneg _ | exact fun _ => Int.natCast_nonneg _
  case zk =>
  exact Aw.ret ⟨_, .cons (.tmp _) .nil, rfl⟩
theorem spanned_t (lo hi n : Int) : Ans Try.prog 62 [.agg [.int lo, .int hi], .int n] (.bool (spannedF lo hi 0 n)) := by
  have e : spannedF lo hi 0 n = cond (cond (decide (0 ≤ lo)) (decide (lo ≤ hi)) false) (decide (hi ≤ n)) false := by
    rw [Bool.eq_iff_iff]
    simp only [spannedF, c_and, Bool.and_eq_true, wi_iff, decide_eq_true_eq]
    omega
  rw [e]
  refine told Try.func62 rfl rfl (Pure.of tab_ok Try.func62 rfl Try.ntmps62 rfl (allC (.agg _ (allC (.s _) (all1 (.s _)))) (all1 (.s _))) (allC (fun _ => rfl) (all1 (fun _ => rfl))) (by first | exact .s _ | assumption | exact .tup _ (by intro x hx; simp only [List.mem_cons, List.not_mem_nil, or_false] at hx; rcases hx with rfl | rfl | rfl | rfl <;> first | exact .s _ | (simp_all; done))) fun E hE => ?_)
  refine Aw.sm tab_ok mb0 [] rfl rfl ?zo ?zk
  case zo =>
    repeat' apply AllP.cons
    all_goals first | exact trivial | exact id | exact rfl | exact fun _ => rfl | exact Nat.le_of_ble_eq_true rfl | exact fun _ => Nat.le_of_ble_eq_true rfl | exact Int.natCast_nonneg _ | exact fun _ => Int.natCast_nonneg _ | exact within_t _ _ _ | exact (within_t _ _ _).un
  case zk =>
  refine Aw.sm tab_ok mb0 [] rfl rfl ?zo ?zk
  case zo =>
    repeat' apply AllP.cons
    all_goals first | exact trivial | exact id | exact rfl | exact fun _ => rfl | exact Nat.le_of_ble_eq_true rfl | exact fun _ => Nat.le_of_ble_eq_true rfl | exact Int.natCast_nonneg _ | exact fun _ => Int.natCast_nonneg _ | exact within_t _ _ _ | exact (within_t _ _ _).un
  case zk =>
  exact Aw.ret ⟨_, .cons (.tmp _) .nil, rfl⟩
theorem sum_t (b : Bool) (c : Cap) (l : List Int) (hl : (l.length : Int) ≤ 9223372036854775806) (h : ∀ k, k ≤ l.length → inR (l.take k).sum) (hc : ∀ u, spareOf (.sl b c (ints l)) u = none) : Ans Try.prog 89 [.sl b c (ints l)] (.int l.sum) := by
  refine told Try.func89 rfl rfl (Pure.of tab_ok Try.func89 rfl Try.ntmps89 rfl (all1 (free_ints _ _ _)) (all1 hc) (.s _) fun E hE => ?_)
  refine Aw.keep (n := 0) (cst := []) (v := [(0, .sl b .any (ints l))]) (Hl := []) hE trivial ⟨(free_ints _ _ _).under, trivial⟩ trivial ⟨trivial, ⟨.any _ _ _, trivial⟩, trivial, Nat.le_refl _⟩ ?_
  refine Aw.sm tab_ok mb0 [] rfl rfl ?zo ?zk
  case zo =>
    repeat' apply AllP.cons
    all_goals first | exact trivial | exact id | exact rfl | exact fun _ => rfl | exact Nat.le_of_ble_eq_true rfl | exact fun _ => Nat.le_of_ble_eq_true rfl | exact Int.natCast_nonneg _ | exact fun _ => Int.natCast_nonneg _ | exact within_t _ _ _ | exact (within_t _ _ _).un
  case zk =>
  refine Aw.sm tab_ok mb0 [] rfl rfl ?zo ?zk
  case zo =>
    repeat' apply AllP.cons
    all_goals first | exact trivial | exact id | exact rfl | exact fun _ => rfl | exact Nat.le_of_ble_eq_true rfl | exact fun _ => Nat.le_of_ble_eq_true rfl | exact Int.natCast_nonneg _ | exact fun _ => Int.natCast_nonneg _ | exact within_t _ _ _ | exact (within_t _ _ _).un
  case zk =>
  refine Aw.seq ?_
  refine Aw.sm tab_ok mb0 [] rfl rfl ?zo ?zk
  case zo =>
    repeat' apply AllP.cons
    all_goals first | exact trivial | exact id | exact rfl | exact fun _ => rfl | exact Nat.le_of_ble_eq_true rfl | exact fun _ => Nat.le_of_ble_eq_true rfl | exact Int.natCast_nonneg _ | exact fun _ => Int.natCast_nonneg _ | exact within_t _ _ _ | exact (within_t _ _ _).un
  case zk =>
  have hlen : (ints l).length = l.length := by simp [ints]
  refine Aw.block (Aw.rounds 0 hE [(6, .sl b .any (ints l)), (7, .int (ints l).length)] (fun k : Nat => [(3, .int (l.take k).sum), (8, .int k)]) (fun _ => []) (fun k => k ≤ l.length) (fun k => l.length - k) 0
    (Nat.zero_le _) ⟨⟨.refl _, .refl _, trivial⟩, ⟨.refl _, .refl _, trivial⟩, trivial, Nat.le_refl _⟩ ⟨(free_ints _ _ _).under, .s _, trivial⟩ (fun _ _ => ⟨.s _, .s _, trivial⟩) (fun _ _ => trivial) fun k hk => ?_)
  refine Aw.sm tab_ok mb0 [] rfl rfl ?zo ?zk
  case zo =>
    repeat' apply AllP.cons
    all_goals first | exact trivial | exact id | exact rfl | exact fun _ => rfl | exact Nat.le_of_ble_eq_true rfl | exact fun _ => Nat.le_of_ble_eq_true rfl | exact Int.natCast_nonneg _ | exact fun _ => Int.natCast_nonneg _ | exact within_t _ _ _ | exact (within_t _ _ _).un
  case zk =>
  refine Aw.seq (Aw.cond rfl (fun h1 => Aw.skip1 ?_) (fun h1 => Aw.exit2 ?_))
  · have hlt : k < l.length := by have := of_decide_eq_true h1; omega
    have ht := sum_take_succ hlt
    refine Aw.seq (Aw.block ?_)
    refine Aw.sm tab_ok mb0 [(0, [.int l[k]])] rfl rfl ?zo ?zk
    case zo =>
      repeat' apply AllP.cons
      all_goals first | exact trivial | exact id | exact rfl | exact fun _ => rfl | exact Nat.le_of_ble_eq_true rfl | exact fun _ => Nat.le_of_ble_eq_true rfl | exact Int.natCast_nonneg _ | exact fun _ => Int.natCast_nonneg _ | exact within_t _ _ _ | exact (within_t _ _ _).un | exact ints_get hlt
    case zk =>
    refine Aw.em tab_ok mb0 [] rfl rfl ?zo ?zk
    case zo =>
      repeat' apply AllP.cons
      all_goals first | exact trivial | exact id | exact rfl | exact fun _ => rfl | exact Nat.le_of_ble_eq_true rfl | exact fun _ => Nat.le_of_ble_eq_true rfl | exact Int.natCast_nonneg _ | exact fun _ => Int.natCast_nonneg _ | exact within_t _ _ _ | exact (within_t _ _ _).un | exact ht ▸ h (k + 1) hlt
    case zk =>
    refine Aw.em tab_ok mb0 [] rfl rfl ?zo ?zk
    case zo =>
      repeat' apply AllP.cons
      all_goals first | exact trivial | exact id | exact rfl | exact fun _ => rfl | exact Nat.le_of_ble_eq_true rfl | exact fun _ => Nat.le_of_ble_eq_true rfl | exact Int.natCast_nonneg _ | exact fun _ => Int.natCast_nonneg _ | exact within_t _ _ _ | exact (within_t _ _ _).un | exact inrk k (by omega)
    case zk =>
    exact ⟨k + 1, hlt, by omega, ⟨.refl _, .refl _, trivial⟩, ⟨.of_eq (by rw [ht]; rfl), .refl _, trivial⟩, trivial, Nat.le_refl _⟩
  · have hle : k = l.length := by have := of_decide_eq_false h1; omega
    subst hle
    refine Aw.sm tab_ok mb0 [] rfl rfl ?zo ?zk
    case zo =>
      repeat' apply AllP.cons
      all_goals first | exact trivial | exact id | exact rfl | exact fun _ => rfl | exact Nat.le_of_ble_eq_true rfl | exact fun _ => Nat.le_of_ble_eq_true rfl | exact Int.natCast_nonneg _ | exact fun _ => Int.natCast_nonneg _ | exact within_t _ _ _ | exact (within_t _ _ _).un
    case zk =>
    exact Aw.ret ⟨_, .cons (.tmp _) .nil, by rw [List.take_length]; rfl⟩
theorem sum_g (l : List Int) (b : Int) (hl : l.length ≤ 1000) (hb : b ≤ 1000000000000) (h : ∀ x ∈ l, 0 ≤ x ∧ x ≤ b) : ∀ k, k ≤ l.length → inR (l.take k).sum := fun k _ => by
  have h1 := sum_bd (l := l.take k) fun x hx => h x (List.mem_of_mem_take hx)
  have h2 : (l.take k).length ≤ 1000 := by rw [List.length_take]; omega
  have h3 : b * ((l.take k).length : Int) ≤ 1000000000000 * ((l.take k).length : Int) := Int.mul_le_mul_of_nonneg_right hb (by omega)
  have h4 : 1000000000000 * ((l.take k).length : Int) ≤ 1000000000000 * 1000 := Int.mul_le_mul_of_nonneg_left (by omega) (by omega)
  simp only [inR]; omega
theorem sum_out (l : List Int) (h : ∀ k, k ≤ l.length → inR (l.take k).sum) (hl : l.length ≤ 1000) : Ans Try.prog 89 [outA l] (.int l.sum) := by
  cases l with
  | nil => exact sum_t true .exact [] (by simp) (fun _ _ => by simp [inR]) (fun _ => rfl)
  | cons x l => exact sum_t false .any (x :: l) (by simp at hl ⊢; omega) h (fun _ => rfl)
theorem aged_t (b : Bool) (l : List Scale) (f t : Int) (hl : (l.length : Int) ≤ 9223372036854775806) : Ans Try.prog 18 [.sl b .any (l.map Scale.c), .int f, .int t] (.tup (agedR l f t)) := by
  have hfr : Free (.tup (agedR l f t)) := .tup _ (allC (.agg _ (Sp.free _)) (all1 (.s _)))
  have hsl : Free (.sl b .any (l.map Scale.c)) := free_map Scale.free _ _ _
  have lz : ((l.map Scale.c).length : Int) = l.length := by simp
  refine told Try.func18 rfl rfl (Pure.of tab_ok Try.func18 rfl Try.ntmps18 rfl (allC (hsl) (allC (.s _) (all1 (.s _)))) (allC (fun _ => rfl) (allC (fun _ => rfl) (all1 (fun _ => rfl)))) (by first | exact .s _ | assumption | exact .tup _ (by intro x hx; simp only [List.mem_cons, List.not_mem_nil, or_false] at hx; rcases hx with rfl | rfl | rfl | rfl <;> first | exact .s _ | (simp_all; done))) fun E hE => ?_)
  refine Aw.sm tab_ok mb0 [] rfl rfl ?zo ?zk
  case zo =>
    repeat' apply AllP.cons
    all_goals first | exact trivial | exact id | exact rfl | exact fun _ => rfl | exact Nat.le_of_ble_eq_true rfl | exact fun _ => Nat.le_of_ble_eq_true rfl | exact Int.natCast_nonneg _ | exact fun _ => Int.natCast_nonneg _ | exact within_t _ _ _ | exact (within_t _ _ _).un
  case zk =>
  refine Aw.sm tab_ok mb0 [] rfl rfl ?zo ?zk
  case zo =>
    repeat' apply AllP.cons
    all_goals first | exact trivial | exact id | exact rfl | exact fun _ => rfl | exact Nat.le_of_ble_eq_true rfl | exact fun _ => Nat.le_of_ble_eq_true rfl | exact Int.natCast_nonneg _ | exact fun _ => Int.natCast_nonneg _ | exact within_t _ _ _ | exact (within_t _ _ _).un
  case zk =>
  generalize hb0 : decide ((((l.map Scale.c).length : Nat) : Int) ≤ 20) = b0
  have hb0' : b0 = decide ((l.length : Int) ≤ 20) := by rw [← hb0, lz]
  refine Aw.seq ?_
  refine Aw.sm tab_ok mb0 [] rfl rfl ?zo ?zk
  case zo =>
    repeat' apply AllP.cons
    all_goals first | exact trivial | exact id | exact rfl | exact fun _ => rfl | exact Nat.le_of_ble_eq_true rfl | exact fun _ => Nat.le_of_ble_eq_true rfl | exact Int.natCast_nonneg _ | exact fun _ => Int.natCast_nonneg _ | exact within_t _ _ _ | exact (within_t _ _ _).un
  case zk =>
  have cst : UnderL 1 [(0, .sl b .any (l.map Scale.c)), (1, A.int f), (2, A.int t), (6, .ref 0 0), (17, .sl b .any (l.map Scale.c)), (18, .int (l.map Scale.c).length)] := ⟨hsl.under, .s _, .s _, .ref _ _ (by decide), hsl.under, .s _, trivial⟩
  have hE1 : ∀ id, 1 ≤ id → E.φ0 id = none := fun id h => hE id (by omega)
  refine Aw.block (Aw.rounds 1 hE1 [(0, .sl b .any (l.map Scale.c)), (1, .int f), (2, .int t), (6, .ref 0 0), (17, .sl b .any (l.map Scale.c)), (18, .int (l.map Scale.c).length)] (fun k : Nat => [(8, .bool (andAll b0 scaleOk l k)), (19, .int k)]) (fun _ => [(0, .cells [.int 0, .int 0])]) (fun k => k ≤ l.length) (fun k => l.length - k) 0
    (Nat.zero_le _) ⟨⟨.refl _, .refl _, .refl _, .refl _, .refl _, .refl _, trivial⟩, ⟨.of_eq (by rw [andAll_zero]; rfl), .refl _, trivial⟩, ⟨rfl, trivial⟩, Nat.le_of_ble_eq_true rfl⟩ cst (fun _ _ => ⟨.s _, .s _, trivial⟩) (fun _ _ => ⟨⟨by decide, .cells _ (allC (.s _) (all1 (.s _)))⟩, trivial⟩) fun k hk => ?_)
  refine Aw.sm tab_ok mb0 [] rfl rfl ?zo ?zk
  case zo =>
    repeat' apply AllP.cons
    all_goals first | exact trivial | exact id | exact rfl | exact fun _ => rfl | exact Nat.le_of_ble_eq_true rfl | exact fun _ => Nat.le_of_ble_eq_true rfl | exact Int.natCast_nonneg _ | exact fun _ => Int.natCast_nonneg _ | exact within_t _ _ _ | exact (within_t _ _ _).un
  case zk =>
  refine Aw.seq (Aw.cond rfl (fun h1 => Aw.skip1 ?_) (fun h1 => Aw.exit2 ?_))
  · have hlt : k < l.length := by have := of_decide_eq_true h1; omega
    refine Aw.seq (Aw.block ?_)
    refine Aw.sm tab_ok mb0 [(0, l[k].c)] rfl rfl ?zo ?zk
    case zo =>
      repeat' apply AllP.cons
      all_goals first | exact trivial | exact id | exact rfl | exact fun _ => rfl | exact Nat.le_of_ble_eq_true rfl | exact fun _ => Nat.le_of_ble_eq_true rfl | exact Int.natCast_nonneg _ | exact fun _ => Int.natCast_nonneg _ | exact within_t _ _ _ | exact (within_t _ _ _).un | exact get_map hlt
    case zk =>
    refine Aw.em tab_ok mb0 [(4, [.bool (wi l[k].seen 0 10000)]), (9, [.bool (spannedF l[k].lo l[k].hi 0 20)])] rfl rfl ?zo ?zk
    case zo =>
      repeat' apply AllP.cons
      all_goals first | exact trivial | exact id | exact rfl | exact fun _ => rfl | exact Nat.le_of_ble_eq_true rfl | exact fun _ => Nat.le_of_ble_eq_true rfl | exact Int.natCast_nonneg _ | exact fun _ => Int.natCast_nonneg _ | exact within_t _ _ _ | exact (within_t _ _ _).un | exact fun _ => spanned_t _ _ _
    case zk =>
    refine Aw.em tab_ok mb0 [] rfl rfl ?zo ?zk
    case zo =>
      repeat' apply AllP.cons
      all_goals first | exact trivial | exact id | exact rfl | exact fun _ => rfl | exact Nat.le_of_ble_eq_true rfl | exact fun _ => Nat.le_of_ble_eq_true rfl | exact Int.natCast_nonneg _ | exact fun _ => Int.natCast_nonneg _ | exact within_t _ _ _ | exact (within_t _ _ _).un | exact inrk k (by omega)
    case zk =>
    exact ⟨k + 1, hlt, by omega, ⟨.refl _, .refl _, .refl _, .refl _, .refl _, .refl _, trivial⟩, ⟨.of_eq (show A.bool (andAll b0 scaleOk l (k + 1)) = A.bool (cond (cond (andAll b0 scaleOk l k) (wi l[k].seen 0 10000) false) (spannedF l[k].lo l[k].hi 0 20) false) by rw [andAll_step hlt, cond_assoc]; rfl), .refl _, trivial⟩, ⟨rfl, trivial⟩, Nat.le_of_ble_eq_true rfl⟩
  have hle : k = l.length := by have := of_decide_eq_false h1; omega
  subst hle
  have hok : andAll b0 scaleOk l l.length = scalesOk l := by rw [andAll_full, hb0']; rfl
  rw [hok]
  refine Aw.seq ?_
  refine Aw.sm tab_ok mb0 [] rfl rfl ?zo ?zk
  case zo =>
    repeat' apply AllP.cons
    all_goals first | exact trivial | exact id | exact rfl | exact fun _ => rfl | exact Nat.le_of_ble_eq_true rfl | exact fun _ => Nat.le_of_ble_eq_true rfl | exact Int.natCast_nonneg _ | exact fun _ => Int.natCast_nonneg _ | exact within_t _ _ _ | exact (within_t _ _ _).un
  case zk =>
  refine Aw.cond rfl (fun h1 => ?_) (fun h1 => Aw.skip ?_)
  · have hno : scalesOk l = false := by simpa using h1
    refine Aw.sm tab_ok mb0 [] rfl rfl ?zo ?zk
    case zo =>
      repeat' apply AllP.cons
      all_goals first | exact trivial | exact id | exact rfl | exact fun _ => rfl | exact Nat.le_of_ble_eq_true rfl | exact fun _ => Nat.le_of_ble_eq_true rfl | exact Int.natCast_nonneg _ | exact fun _ => Int.natCast_nonneg _ | exact within_t _ _ _ | exact (within_t _ _ _).un
    case zk =>
    exact Aw.ret ⟨_, .cons (resC rfl rfl (by decide) rfl rfl) (.cons (.tmp _) .nil), by simp only [agedR, agedS, agedE, hno]; rfl⟩
  have hok : scalesOk l = true := by simpa using h1
  obtain ⟨hl20, hsc⟩ := scales_in hok
  refine Aw.seq ?_
  refine Aw.sm tab_ok mb0 [(1, [.bool (wi f 0 20)]), (6, [.bool (wi t f 20)])] rfl rfl ?zo ?zk
  case zo =>
    repeat' apply AllP.cons
    all_goals first | exact trivial | exact id | exact rfl | exact fun _ => rfl | exact Nat.le_of_ble_eq_true rfl | exact fun _ => Nat.le_of_ble_eq_true rfl | exact Int.natCast_nonneg _ | exact fun _ => Int.natCast_nonneg _ | exact within_t _ _ _ | exact (within_t _ _ _).un | exact gq_f
  case zk =>
  have hro : cond (!wi f 0 20) true (!wi t f 20) = !rangeOk f t := by unfold rangeOk; cases wi f 0 20 <;> cases wi t f 20 <;> rfl
  rw [hro]
  refine Aw.cond rfl (fun h1 => ?_) (fun h1 => Aw.skip ?_)
  · have hno : rangeOk f t = false := by simpa using h1
    refine Aw.sm tab_ok mb0 [] rfl rfl ?zo ?zk
    case zo =>
      repeat' apply AllP.cons
      all_goals first | exact trivial | exact id | exact rfl | exact fun _ => rfl | exact Nat.le_of_ble_eq_true rfl | exact fun _ => Nat.le_of_ble_eq_true rfl | exact Int.natCast_nonneg _ | exact fun _ => Int.natCast_nonneg _ | exact within_t _ _ _ | exact (within_t _ _ _).un
    case zk =>
    exact Aw.ret ⟨_, .cons (resC rfl rfl (by decide) rfl rfl) (.cons (.tmp _) .nil), by simp only [agedR, agedS, agedE, hok, hno]; rfl⟩
  have hrg : rangeOk f t = true := by simpa using h1
  have hR : agedR l f t = [.agg (Sp.c ⟨agedL f t l, agedH f t l⟩), .int 0] := by simp only [agedR, agedS, agedE, hok, hrg]; rfl
  rw [hR]
  refine Aw.sm tab_ok mb0 [] rfl rfl ?zo ?zk
  case zo =>
    repeat' apply AllP.cons
    all_goals first | exact trivial | exact id | exact rfl | exact fun _ => rfl | exact Nat.le_of_ble_eq_true rfl | exact fun _ => Nat.le_of_ble_eq_true rfl | exact Int.natCast_nonneg _ | exact fun _ => Int.natCast_nonneg _ | exact within_t _ _ _ | exact (within_t _ _ _).un
  case zk =>
  refine Aw.seq ?_
  refine Aw.sm tab_ok mb0 [] rfl rfl ?zo ?zk
  case zo =>
    repeat' apply AllP.cons
    all_goals first | exact trivial | exact id | exact rfl | exact fun _ => rfl | exact Nat.le_of_ble_eq_true rfl | exact fun _ => Nat.le_of_ble_eq_true rfl | exact Int.natCast_nonneg _ | exact fun _ => Int.natCast_nonneg _ | exact within_t _ _ _ | exact (within_t _ _ _).un
  case zk =>
  have hE2 : ∀ id, 2 ≤ id → E.φ0 id = none := fun id h => hE id (by omega)
  have bdL : ∀ k, 0 ≤ agedL f t (l.take k) ∧ agedL f t (l.take k) ≤ 200000 := fun k => by
    have := filt_sum (p := isLow f t) (l := l.take k) fun s hs => (hsc s (List.mem_of_mem_take hs)).1
    have h2 : (l.take k).length ≤ 20 := by rw [List.length_take]; omega
    unfold agedL; omega
  have bdH : ∀ k, 0 ≤ agedH f t (l.take k) ∧ agedH f t (l.take k) ≤ 200000 := fun k => by
    have := filt_sum (p := isHigh f t) (l := l.take k) fun s hs => (hsc s (List.mem_of_mem_take hs)).1
    have h2 : (l.take k).length ≤ 20 := by rw [List.length_take]; omega
    unfold agedH; omega
  refine Aw.block (Aw.rounds 2 hE2 [(1, .int f), (2, .int t), (6, .ref 0 0), (11, .ref 1 0), (48, .sl b .any (l.map Scale.c)), (49, .int (l.map Scale.c).length)] (fun k : Nat => [(50, .int k)]) (fun k => [(0, .cells [.int 0, .int 0]), (1, .cells [.int (agedL f t (l.take k)), .int (agedH f t (l.take k))])]) (fun k => k ≤ l.length) (fun k => l.length - k) 0
    (Nat.zero_le _) ⟨⟨.refl _, .refl _, .refl _, .refl _, .refl _, .refl _, trivial⟩, ⟨.refl _, trivial⟩, ⟨rfl, rfl, trivial⟩, Nat.le_of_ble_eq_true rfl⟩ ⟨.s _, .s _, .ref _ _ (by decide), .ref _ _ (by decide), hsl.under, .s _, trivial⟩ (fun _ _ => ⟨.s _, trivial⟩) (fun _ _ => ⟨⟨by decide, .cells _ (allC (.s _) (all1 (.s _)))⟩, ⟨by decide, .cells _ (allC (.s _) (all1 (.s _)))⟩, trivial⟩) fun k hk => ?_)
  refine Aw.sm tab_ok mb0 [] rfl rfl ?zo ?zk
  case zo =>
    repeat' apply AllP.cons
    all_goals first | exact trivial | exact id | exact rfl | exact fun _ => rfl | exact Nat.le_of_ble_eq_true rfl | exact fun _ => Nat.le_of_ble_eq_true rfl | exact Int.natCast_nonneg _ | exact fun _ => Int.natCast_nonneg _ | exact within_t _ _ _ | exact (within_t _ _ _).un
  case zk =>
  refine Aw.seq (Aw.cond rfl (fun h1 => Aw.skip1 ?_) (fun h1 => Aw.exit2 ?_))
  · have hlt : k < l.length := by have := of_decide_eq_true h1; omega
    have b1 := bdL k
    have b2 := bdH k
    have b3 := hsc l[k] (List.getElem_mem hlt)
    have s1 := agedL_step f t l k hlt
    have s2 := agedH_step f t l k hlt
    have gl : agedL f t (l.take k) + l[k].seen ≤ 210000 := by omega
    generalize agedL f t (l.take k) = x1 at *
    generalize agedH f t (l.take k) = x2 at *
    refine Aw.seq (Aw.block ?_)
    refine Aw.sm tab_ok mb0 [(0, l[k].c)] rfl rfl ?zo ?zk
    case zo =>
      repeat' apply AllP.cons
      all_goals first | exact trivial | exact id | exact rfl | exact fun _ => rfl | exact Nat.le_of_ble_eq_true rfl | exact fun _ => Nat.le_of_ble_eq_true rfl | exact Int.natCast_nonneg _ | exact fun _ => Int.natCast_nonneg _ | exact within_t _ _ _ | exact (within_t _ _ _).un | exact get_map hlt
    case zk =>
    have hE3 : ∀ id, 3 ≤ id → E.φ0 id = none := fun id h => hE id (by omega)
    have uc3 : UnderL 3 [(1, A.int f), (2, .int t), (6, .ref 0 0), (11, .ref 1 0), (13, .ref 2 0), (48, .sl b .any (l.map Scale.c)), (49, .int (l.map Scale.c).length), (50, .int k)] := ⟨.s _, .s _, .ref _ _ (by decide), .ref _ _ (by decide), .ref _ _ (by decide), hsl.under, .s _, .s _, trivial⟩
    have uh3 : ∀ y1 y2 : Int, UnderH 3 [(0, .cells [.int 0, .int 0]), (1, .cells [.int y1, .int y2]), (2, .cells l[k].c)] := fun y1 y2 => ⟨⟨by decide, .cells _ (allC (.s _) (all1 (.s _)))⟩, ⟨by decide, .cells _ (allC (.s _) (all1 (.s _)))⟩, ⟨by decide, .cells _ fun x hx => (l[k].free x hx).under⟩, trivial⟩
    refine Aw.join1 3 hE3 [(1, .int f), (2, .int t), (6, .ref 0 0), (11, .ref 1 0), (13, .ref 2 0), (48, .sl b .any (l.map Scale.c)), (49, .int (l.map Scale.c).length), (50, .int k)] [] [(0, .cells [.int 0, .int 0]), (1, .cells [.int (addIf (isLow f t l[k]) x1 l[k].seen), .int x2]), (2, .cells l[k].c)] uc3 trivial (uh3 _ _) ?_ ?_
    · refine Aw.sm tab_ok mb0 [] rfl rfl ?zo ?zk
      case zo =>
        repeat' apply AllP.cons
        all_goals first | exact trivial | exact id | exact rfl | exact fun _ => rfl | exact Nat.le_of_ble_eq_true rfl | exact fun _ => Nat.le_of_ble_eq_true rfl | exact Int.natCast_nonneg _ | exact fun _ => Int.natCast_nonneg _ | exact within_t _ _ _ | exact (within_t _ _ _).un
      case zk =>
      refine Aw.cond rfl (fun h2 => ?_) (fun h2 => Aw.skip ?_)
      · have h2' : isLow f t l[k] = true := (c_and _ _).symm.trans h2
        rw [h2']
        refine Aw.em tab_ok mb0 [] rfl rfl ?zo ?zk
        case zo =>
          repeat' apply AllP.cons
          all_goals first | exact trivial | exact id | exact rfl | exact fun _ => rfl | exact Nat.le_of_ble_eq_true rfl | exact fun _ => Nat.le_of_ble_eq_true rfl | exact Int.natCast_nonneg _ | exact fun _ => Int.natCast_nonneg _ | exact within_t _ _ _ | exact (within_t _ _ _).un | exact (by simp only [Ob.of, inR]; omega)
        case zk =>
        exact ⟨⟨.refl _, .refl _, .refl _, .refl _, .refl _, .refl _, .refl _, .refl _, trivial⟩, trivial, ⟨rfl, rfl, rfl, trivial⟩, Nat.le_of_ble_eq_true rfl⟩
      · have h2' : isLow f t l[k] = false := (c_and _ _).symm.trans h2
        rw [h2']
        exact ⟨⟨.refl _, .refl _, .refl _, .refl _, .refl _, .refl _, .refl _, .refl _, trivial⟩, trivial, ⟨rfl, rfl, rfl, trivial⟩, Nat.le_of_ble_eq_true rfl⟩
    rw [← s1]
    refine Aw.sm tab_ok mb0 [] rfl rfl ?zo ?zk
    case zo =>
      repeat' apply AllP.cons
      all_goals first | exact trivial | exact id | exact rfl | exact fun _ => rfl | exact Nat.le_of_ble_eq_true rfl | exact fun _ => Nat.le_of_ble_eq_true rfl | exact Int.natCast_nonneg _ | exact fun _ => Int.natCast_nonneg _ | exact within_t _ _ _ | exact (within_t _ _ _).un
    case zk =>
    refine Aw.cond rfl (fun h2 => ?_) (fun h2 => Aw.skip ?_)
    · have h2' : isHigh f t l[k] = true := (c_and _ _).symm.trans h2
      rw [h2'] at s2
      refine Aw.em tab_ok mb0 [] rfl rfl ?zo ?zk
      case zo =>
        repeat' apply AllP.cons
        all_goals first | exact trivial | exact id | exact rfl | exact fun _ => rfl | exact Nat.le_of_ble_eq_true rfl | exact fun _ => Nat.le_of_ble_eq_true rfl | exact Int.natCast_nonneg _ | exact fun _ => Int.natCast_nonneg _ | exact within_t _ _ _ | exact (within_t _ _ _).un | exact (by simp only [Ob.of, inR]; omega)
      case zk =>
      refine Aw.em tab_ok mb0 [] rfl rfl ?zo ?zk
      case zo =>
        repeat' apply AllP.cons
        all_goals first | exact trivial | exact id | exact rfl | exact fun _ => rfl | exact Nat.le_of_ble_eq_true rfl | exact fun _ => Nat.le_of_ble_eq_true rfl | exact Int.natCast_nonneg _ | exact fun _ => Int.natCast_nonneg _ | exact within_t _ _ _ | exact (within_t _ _ _).un | exact inrk k (by omega)
      case zk =>
      exact ⟨k + 1, hlt, by omega, ⟨.refl _, .refl _, .refl _, .refl _, .refl _, .refl _, trivial⟩, ⟨.refl _, trivial⟩, ⟨rfl, by rw [s2]; rfl, trivial⟩, Nat.le_of_ble_eq_true rfl⟩
    · have h2' : isHigh f t l[k] = false := (c_and _ _).symm.trans h2
      rw [h2'] at s2
      refine Aw.em tab_ok mb0 [] rfl rfl ?zo ?zk
      case zo =>
        repeat' apply AllP.cons
        all_goals first | exact trivial | exact id | exact rfl | exact fun _ => rfl | exact Nat.le_of_ble_eq_true rfl | exact fun _ => Nat.le_of_ble_eq_true rfl | exact Int.natCast_nonneg _ | exact fun _ => Int.natCast_nonneg _ | exact within_t _ _ _ | exact (within_t _ _ _).un | exact inrk k (by omega)
      case zk =>
      exact ⟨k + 1, hlt, by omega, ⟨.refl _, .refl _, .refl _, .refl _, .refl _, .refl _, trivial⟩, ⟨.refl _, trivial⟩, ⟨rfl, by rw [s2]; rfl, trivial⟩, Nat.le_of_ble_eq_true rfl⟩
  have hle : k = l.length := by have := of_decide_eq_false h1; omega
  subst hle
  rw [List.take_length]
  refine Aw.sm tab_ok mb0 [] rfl rfl ?zo ?zk
  case zo =>
    repeat' apply AllP.cons
    all_goals first | exact trivial | exact id | exact rfl | exact fun _ => rfl | exact Nat.le_of_ble_eq_true rfl | exact fun _ => Nat.le_of_ble_eq_true rfl | exact Int.natCast_nonneg _ | exact fun _ => Int.natCast_nonneg _ | exact within_t _ _ _ | exact (within_t _ _ _).un
  case zk =>
  exact Aw.ret ⟨_, .cons (resC rfl rfl (by decide) rfl rfl) (.cons (.tmp _) .nil), rfl⟩
end Go.Proofs.Ytdiclbgklegelaa

namespace Go.Proofs.Ytdiclbgklegelaa
open Go Go.AL Go.AL.Q
theorem isRace_t (r : Rce) (hf : r.Fit) : Ans Try.prog 72 [.agg r.c] (.bool r.ok) := by
  have h1 := hf.n
  have h2 := hf.k
  have h3 := hf.s
  have ln := ints_lenI r.numbers
  have lk := ints_lenI r.keep
  have ls := ints_lenI r.spawn
  have lm : (r.many : Int) = r.numbers.length := rfl
  have hm : r.many = r.numbers.length := rfl
  have urc : Under 0 (A.pt r.c) := (Free.pt _ r.free).under
  refine told Try.func72 rfl rfl (Pure.of tab_ok Try.func72 rfl Try.ntmps72 rfl (all1 (.agg _ r.free)) (all1 (fun _ => rfl)) (by first | exact .s _ | assumption | exact .tup _ (by intro x hx; simp only [List.mem_cons, List.not_mem_nil, or_false] at hx; rcases hx with rfl | rfl | rfl | rfl <;> first | exact .s _ | (simp_all; done))) fun E hE => ?_)
  refine Aw.sm tab_ok mb0 [] rfl rfl ?zo ?zk
  case zo =>
    repeat' apply AllP.cons
    all_goals first | exact trivial | exact id | exact rfl | exact fun _ => rfl | exact Nat.le_of_ble_eq_true rfl | exact fun _ => Nat.le_of_ble_eq_true rfl | exact Int.natCast_nonneg _ | exact fun _ => Int.natCast_nonneg _ | exact within_t _ _ _ | exact (within_t _ _ _).un
  case zk =>
  refine Aw.sm tab_ok mb0 [] rfl rfl ?zo ?zk
  case zo =>
    repeat' apply AllP.cons
    all_goals first | exact trivial | exact id | exact rfl | exact fun _ => rfl | exact Nat.le_of_ble_eq_true rfl | exact fun _ => Nat.le_of_ble_eq_true rfl | exact Int.natCast_nonneg _ | exact fun _ => Int.natCast_nonneg _ | exact within_t _ _ _ | exact (within_t _ _ _).un
  case zk =>
  refine Aw.keep (n := 0) (cst := [(1, .pt r.c), (3, .int r.many)]) (v := []) (Hl := []) hE ⟨urc, .s _, trivial⟩ trivial trivial ⟨⟨.refl _, .of_eq (congrArg A.int ln.symm), trivial⟩, trivial, trivial, Nat.zero_le _⟩ ?_
  refine Aw.sm tab_ok mb0 [(1, [.bool (wi r.many 1 6)]), (22, [.bool (wi r.line 0 100000000)]), (30, [.bool (wi r.mesh 0 ((r.many:Int) - 1))])] rfl rfl ?zo ?zk
  case zo =>
    repeat' apply AllP.cons
    all_goals first | exact trivial | exact id | exact rfl | exact fun _ => rfl | exact Nat.le_of_ble_eq_true rfl | exact fun _ => Nat.le_of_ble_eq_true rfl | exact Int.natCast_nonneg _ | exact fun _ => Int.natCast_nonneg _ | exact within_t _ _ _ | exact (within_t _ _ _).un | exact fun _ => (by simp only [Ob.of, inR]; omega)
  case zk =>
  have hd : A.bool r.head = A.bool (cond (cond (cond (cond (wi r.many 1 6) (((ints r.keep).length : Int) == r.many) false) (((ints r.spawn).length : Int) == r.many) false) (wi r.line 0 100000000) false) (wi r.mesh 0 ((r.many:Int) - 1)) false) := by rw [lk, ls]; rfl
  refine Aw.seq ?_
  refine Aw.sm tab_ok mb0 [] rfl rfl ?zo ?zk
  case zo =>
    repeat' apply AllP.cons
    all_goals first | exact trivial | exact id | exact rfl | exact fun _ => rfl | exact Nat.le_of_ble_eq_true rfl | exact fun _ => Nat.le_of_ble_eq_true rfl | exact Int.natCast_nonneg _ | exact fun _ => Int.natCast_nonneg _ | exact within_t _ _ _ | exact (within_t _ _ _).un
  case zk =>
  have lr : (List.range r.many).length = r.many := List.length_range
  refine Aw.block (Aw.rounds 0 hE [(1, .pt r.c), (3, .int r.many)] (fun k : Nat => [(4, .bool (andAll r.head r.ageOk (List.range r.many) k)), (5, .int k)]) (fun _ => []) (fun k => k ≤ r.many) (fun k => r.many - k) 0
    (Nat.zero_le _) ⟨⟨.refl _, .refl _, trivial⟩, ⟨.of_eq (by rw [andAll_zero]; exact hd), .refl _, trivial⟩, trivial, Nat.le_refl _⟩ ⟨urc, .s _, trivial⟩ (fun _ _ => ⟨.s _, .s _, trivial⟩) (fun _ _ => trivial) fun k hk => ?_)
  refine Aw.seq ?_
  refine Aw.sm tab_ok mb0 [] rfl rfl ?zo ?zk
  case zo =>
    repeat' apply AllP.cons
    all_goals first | exact trivial | exact id | exact rfl | exact fun _ => rfl | exact Nat.le_of_ble_eq_true rfl | exact fun _ => Nat.le_of_ble_eq_true rfl | exact Int.natCast_nonneg _ | exact fun _ => Int.natCast_nonneg _ | exact within_t _ _ _ | exact (within_t _ _ _).un
  case zk =>
  refine Aw.cond rfl (fun h1 => Aw.skip ?_) (fun h1 => ?_)
  · have h1 : cond (andAll r.head r.ageOk (List.range r.many) k) (decide ((k : Int) < r.many)) false = true := h1
    have hb := ac1 h1
    have hlt : k < r.many := by have := of_decide_eq_true (ac2 h1); omega
    have hh : r.head = true := by unfold andAll at hb; exact ac1 hb
    have hk1 : r.keep.length = r.many := by unfold Rce.head at hh; have := eq_of_beq (ac2 (ac1 (ac1 (ac1 hh)))); omega
    have hs1 : r.spawn.length = r.many := by unfold Rce.head at hh; have := eq_of_beq (ac2 (ac1 (ac1 hh))); omega
    refine Aw.seq (Aw.block ?_)
    refine Aw.em tab_ok mb0 [(4, [.int (r.numbers.getD k 0)]), (6, [.bool (wi (r.numbers.getD k 0) 0 100000)]), (12, [.int (r.keep.getD k 0)]), (14, [.bool (wi (r.keep.getD k 0) 0 1000)]), (21, [.int (r.spawn.getD k 0)]), (23, [.bool (wi (r.spawn.getD k 0) 0 100)])] rfl rfl ?zo ?zk
    case zo =>
      repeat' apply AllP.cons
      all_goals first | exact trivial | exact id | exact rfl | exact fun _ => rfl | exact Nat.le_of_ble_eq_true rfl | exact fun _ => Nat.le_of_ble_eq_true rfl | exact Int.natCast_nonneg _ | exact fun _ => Int.natCast_nonneg _ | exact within_t _ _ _ | exact (within_t _ _ _).un | exact ints_getD hlt | exact fun _ => ints_getD (by omega)
    case zk =>
    refine Aw.em tab_ok mb0 [] rfl rfl ?zo ?zk
    case zo =>
      repeat' apply AllP.cons
      all_goals first | exact trivial | exact id | exact rfl | exact fun _ => rfl | exact Nat.le_of_ble_eq_true rfl | exact fun _ => Nat.le_of_ble_eq_true rfl | exact Int.natCast_nonneg _ | exact fun _ => Int.natCast_nonneg _ | exact within_t _ _ _ | exact (within_t _ _ _).un | exact inrk k (by omega)
    case zk =>
    have e : andAll r.head r.ageOk (List.range r.many) (k + 1) = r.ageOk k := by
      rw [andAll_succ (by rw [lr]; exact hlt) hb, List.getElem_range]
    exact ⟨k + 1, hlt, by omega, ⟨.refl _, .refl _, trivial⟩, ⟨.of_eq (congrArg A.bool e), .refl _, trivial⟩, trivial, Nat.zero_le _⟩
  have h1 : cond (andAll r.head r.ageOk (List.range r.many) k) (decide ((k : Int) < r.many)) false = false := h1
  have hend : andAll r.head r.ageOk (List.range r.many) k = r.ok := (andAll_end (by
    cases e : andAll r.head r.ageOk (List.range r.many) k with
    | false => exact .inl rfl
    | true => rw [e] at h1; have := of_decide_eq_false h1; exact .inr (by rw [lr]; omega)) (by rw [lr]; exact hk)).trans rfl
  rw [hend]
  refine Aw.exit2 ?_
  refine Aw.sm tab_ok mb0 [] rfl rfl ?zo ?zk
  case zo =>
    repeat' apply AllP.cons
    all_goals first | exact trivial | exact id | exact rfl | exact fun _ => rfl | exact Nat.le_of_ble_eq_true rfl | exact fun _ => Nat.le_of_ble_eq_true rfl | exact Int.natCast_nonneg _ | exact fun _ => Int.natCast_nonneg _ | exact within_t _ _ _ | exact (within_t _ _ _).un
  case zk =>
  exact Aw.ret ⟨_, .cons (.tmp _) .nil, rfl⟩
def padL (l : List Int) : List Int := l ++ List.replicate (6 - l.length) 0
def arr (l : List Int) : A := .agg ((padL l).map A.int)
theorem padL_len {l : List Int} (h : l.length ≤ 6) : (padL l).length = 6 := by simp [padL]; omega
theorem padL_getD (l : List Int) (k : Nat) : (padL l).getD k 0 = l.getD k 0 := by
  unfold padL
  simp only [List.getD_eq_getElem?_getD, List.getElem?_append]
  split
  · rfl
  · rename_i h
    rw [List.getElem?_eq_none (by omega : l.length ≤ k), List.getElem?_replicate]
    split <;> rfl
theorem padL_set {l : List Int} {k : Nat} (h : k < l.length) (v : Int) : (padL l).set k v = padL (l.set k v) := by
  unfold padL
  rw [List.set_append_left _ _ h, List.length_set]
theorem arr_free (l : List Int) : Free (arr l) := .agg _ fun x hx => by obtain ⟨n, _, rfl⟩ := List.mem_map.1 hx; exact .s _
theorem cells_under {n : Nat} (l : List Int) : UnderB n (.cells (l.map A.int)) := .cells _ fun x hx => by obtain ⟨n, _, rfl⟩ := List.mem_map.1 hx; exact .s _
theorem cells_get {l : List Int} {k : Nat} (h : k < l.length) : ((l.map A.int).getD k .un).down = .int (l.getD k 0) := by simp [List.getD_eq_getElem?_getD, h, A.down]
theorem padL_inj {a b : List Int} (h : a.length = b.length) (e : padL a = padL b) : a = b := by
  unfold padL at e
  exact (List.append_inj e h).1
theorem six : ((tab.zr 110).map A.down) = (List.replicate 6 (0 : Int)).map A.int := rfl
theorem first_t (r : Rce) (hr : RceOk r) : Ans Try.prog 74 [.agg r.c] (arr r.numbers) := by
  have hfr := arr_free r.numbers
  have h1 := hr.m1
  have h6 := hr.m6
  have hm : r.many = r.numbers.length := rfl
  refine told Try.func74 rfl rfl (Pure.of tab_ok Try.func74 rfl Try.ntmps74 rfl (all1 (.agg _ r.free)) (all1 (fun _ => rfl)) (by first | exact .s _ | assumption | exact .tup _ (by intro x hx; simp only [List.mem_cons, List.not_mem_nil, or_false] at hx; rcases hx with rfl | rfl | rfl | rfl <;> first | exact .s _ | (simp_all; done))) fun E hE => ?_)
  refine Aw.sm tab_ok mb0 [] rfl rfl ?zo ?zk
  case zo =>
    repeat' apply AllP.cons
    all_goals first | exact trivial | exact id | exact rfl | exact fun _ => rfl | exact Nat.le_of_ble_eq_true rfl | exact fun _ => Nat.le_of_ble_eq_true rfl | exact Int.natCast_nonneg _ | exact fun _ => Int.natCast_nonneg _ | exact within_t _ _ _ | exact (within_t _ _ _).un
  case zk =>
  refine Aw.sm tab_ok mb0 [] rfl rfl ?zo ?zk
  case zo =>
    repeat' apply AllP.cons
    all_goals first | exact trivial | exact id | exact rfl | exact fun _ => rfl | exact Nat.le_of_ble_eq_true rfl | exact fun _ => Nat.le_of_ble_eq_true rfl | exact Int.natCast_nonneg _ | exact fun _ => Int.natCast_nonneg _ | exact within_t _ _ _ | exact (within_t _ _ _).un
  case zk =>
  refine Aw.seq (SegW.start mixed ?_)
  refine SegW.run (b := 0) tab_ok mb0 4 [] rfl (by kernel_rfl) rfl rfl ?zo ?zk
  case zo =>
    repeat' apply AllP.cons
    all_goals first | exact trivial | exact id | exact rfl | exact Nat.le_of_ble_eq_true rfl | trace_state
  case zk =>
  refine SegW.step rfl (by kernel_rfl) rfl (fun i h1 h2 => by have h2 : i < 5 := h2; omega) (Does.raw rfl (DoesP.toR (DoesP.copyMs tab_ok rfl rfl rfl (by decide) rfl rfl rfl rfl (fun e => by
    have := congrArg List.length e
    rw [ints_len] at this
    simp at this
    have : r.numbers.length = 0 := by simp [this]
    omega) (ints_one _) (by rw [ints_len]; omega) (by rw [ints_len]; show 0 + _ ≤ 6; omega) ?_)))
  refine SegW.done (by kernel_rfl) (Nat.le_of_ble_eq_true rfl) ?_
  have hs : setSeg ((tab.zr 110).map A.down) 0 ((ints r.numbers).flatten.map A.down) = (padL r.numbers).map A.int := by
    rw [ints_flatten, six]
    unfold setSeg padL
    rw [List.take_zero, List.nil_append, ← List.map_drop, List.length_map, Nat.zero_add, List.drop_replicate, List.map_append]
  refine Aw.keep (n := 2) (cst := [(2, .ref 0 0), (3, .ref 1 0)]) (v := []) (Hl := [(0, .cells ((List.replicate 6 (0 : Int)).map A.int)), (1, .cells ((padL r.numbers).map A.int))]) (fun id h => hE id (by omega)) ⟨.ref _ _ (by decide), .ref _ _ (by decide), trivial⟩ trivial ⟨⟨by decide, cells_under _⟩, ⟨by decide, cells_under _⟩, trivial⟩
    ⟨⟨.refl _, .refl _, trivial⟩, trivial, ⟨rfl, congrArg (fun x => some (B.cells x)) hs, trivial⟩, Nat.le_of_ble_eq_true rfl⟩ ?_
  have pl := padL_len (l := r.numbers) (by omega)
  have pm : ((padL r.numbers).map A.int).length = 6 := by rw [List.length_map, pl]
  have hld : A.agg (((((padL r.numbers).map A.int).drop 0).take 6).map A.down) = arr r.numbers := by
    rw [List.drop_zero, List.take_of_length_le (by omega), map_down_int]; rfl
  refine Aw.sm tab_ok mb0 [(0, [arr r.numbers])] rfl rfl ?zo ?zk
  case zo =>
    repeat' apply AllP.cons
    all_goals first | exact trivial | exact id | exact rfl | exact fun _ => rfl | exact Nat.le_of_ble_eq_true rfl | exact fun _ => Nat.le_of_ble_eq_true rfl | exact Int.natCast_nonneg _ | exact fun _ => Int.natCast_nonneg _ | exact within_t _ _ _ | exact (within_t _ _ _).un | exact hld | exact (show 0 + 6 ≤ ((padL r.numbers).map A.int).length by omega) | exact (show ((padL r.numbers).map A.int).length = 6 from pm)
  case zk =>
  have hst : setSeg ((List.replicate 6 (0 : Int)).map A.int) 0 ((((padL r.numbers).map A.int)).map A.down) = (padL r.numbers).map A.int := by
    rw [map_down_int]
    unfold setSeg
    rw [List.take_zero, List.nil_append, Nat.zero_add, pm, List.drop_eq_nil_of_le (by simp), List.append_nil]
  refine Aw.ret ⟨_, .cons (resC rfl (congrArg (fun x => some (B.cells x)) hst) (by decide) ?_ ?_) .nil, rfl⟩
  · show Nat.ble (0 + 6) ((padL r.numbers).map A.int).length = true
    rw [pm]; rfl
  · exact hld
end Go.Proofs.Ytdiclbgklegelaa

namespace Go.Proofs.Ytdiclbgklegelaa
open Go Go.AL Go.AL.Q
def dn : Nat → Int
  | 0 => -1
  | j + 1 => j
theorem dn_eq (k : Nat) : dn k = (k : Int) - 1 := by cases k <;> simp [dn]
theorem minI (a b : Int) : (if b < a then b else a) = min a b := by rw [Int.min_def]; split <;> split <;> omega
theorem padL_zero {n : Nat} (h : n ≤ 6) : padL (List.replicate n 0) = List.replicate 6 0 := by
  unfold padL
  rw [List.length_replicate, List.replicate_append_replicate]
  congr 1; omega
theorem spawnN_succ (r : Rce) (l : List Int) (k : Nat) : spawnN r l (k + 1) = spawnN r l k ++ [l.getD k 0 * r.spawn.getD k 0] := by
  unfold spawnN; rw [List.range_succ, List.map_append]; rfl
theorem spawnN_len (r : Rce) (l : List Int) (k : Nat) : (spawnN r l k).length = k := by simp [spawnN]
theorem mul_bd {a b x y : Int} (ha : 0 ≤ a ∧ a ≤ x) (hb : 0 ≤ b ∧ b ≤ y) : 0 ≤ a * b ∧ a * b ≤ x * y := by
  refine ⟨Int.mul_nonneg ha.1 hb.1, ?_⟩
  exact Int.le_trans (Int.mul_le_mul_of_nonneg_left hb.2 ha.1) (Int.mul_le_mul_of_nonneg_right ha.2 (by omega))
theorem year_t (r : Rce) (hr : RceOk r) (l : List Int) (b take x : Int) (hp : Pop r b l) (hb : b ≤ 10000000) (ht : 0 ≤ take ∧ take ≤ 1000000000) (hx : 0 ≤ x ∧ x ≤ 100000) :
    Ans Try.prog 73 [.agg r.c, arr l, .int take, .int x] (.tup [.int (yearF r l take x).1, arr (yearF r l take x).2]) := by
  have hfr : Free (.tup [.int (yearF r l take x).1, arr (yearF r l take x).2]) := .tup _ (allC (.s _) (all1 (arr_free _)))
  rw [show yearF r l take x = (spawnF r (caughtF r l take), winF r (caughtF r l take) x) from rfl] at hfr ⊢
  have m1 := hr.m1
  have m6 := hr.m6
  have hmesh := hr.h
  have hm : r.many = r.numbers.length := rfl
  have ln := ints_lenI r.numbers
  have z6 : UnderB 3 (.cells ((List.replicate 6 (0 : Int)).map A.int)) := cells_under _
  refine told Try.func73 rfl rfl (Pure.of tab_ok Try.func73 rfl Try.ntmps73 rfl (allC (.agg _ r.free) (allC (arr_free l) (allC (.s _) (all1 (.s _))))) (allC (fun _ => rfl) (allC (fun _ => rfl) (allC (fun _ => rfl) (all1 (fun _ => rfl))))) (by first | exact .s _ | assumption | exact .tup _ (by intro x hx; simp only [List.mem_cons, List.not_mem_nil, or_false] at hx; rcases hx with rfl | rfl | rfl | rfl <;> first | exact .s _ | (simp_all; done))) fun E hE => ?_)
  have hE2 : ∀ id, 2 ≤ id → E.φ0 id = none := fun id h => hE id (by omega)
  have hE3 : ∀ id, 3 ≤ id → E.φ0 id = none := fun id h => hE id (by omega)
  have urc : Under 2 (A.pt r.c) := (Free.pt _ r.free).under
  refine Aw.sm tab_ok (fun d => Nat.beq d 5) [] rfl rfl ?zo ?zk
  case zo =>
    repeat' apply AllP.cons
    all_goals first | exact trivial | exact id | exact rfl | exact fun _ => rfl | exact Nat.le_of_ble_eq_true rfl | exact fun _ => Nat.le_of_ble_eq_true rfl | exact Int.natCast_nonneg _ | exact fun _ => Int.natCast_nonneg _ | exact within_t _ _ _ | exact (within_t _ _ _).un
  case zk =>
  refine Aw.sm tab_ok (fun d => Nat.beq d 5) [] rfl rfl ?zo ?zk
  case zo =>
    repeat' apply AllP.cons
    all_goals first | exact trivial | exact id | exact rfl | exact fun _ => rfl | exact Nat.le_of_ble_eq_true rfl | exact fun _ => Nat.le_of_ble_eq_true rfl | exact Int.natCast_nonneg _ | exact fun _ => Int.natCast_nonneg _ | exact within_t _ _ _ | exact (within_t _ _ _).un | exact (by simp only [Ob.of, inR]; omega)
  case zk =>
  refine Aw.seq ?_
  refine Aw.sm tab_ok (fun d => Nat.beq d 5) [] rfl rfl ?zo ?zk
  case zo =>
    repeat' apply AllP.cons
    all_goals first | exact trivial | exact id | exact rfl | exact fun _ => rfl | exact Nat.le_of_ble_eq_true rfl | exact fun _ => Nat.le_of_ble_eq_true rfl | exact Int.natCast_nonneg _ | exact fun _ => Int.natCast_nonneg _ | exact within_t _ _ _ | exact (within_t _ _ _).un
  case zk =>
  refine Aw.block (Aw.rounds (ι := Nat × List Int × Int) 2 hE2 [(3, .int x), (4, .pt r.c), (5, .ref 0 0), (9, .ref 1 0), (10, .int (dn r.many))] (fun i => [(2, .int i.2.2), (11, .int (dn i.1))]) (fun i => [(0, .cells ((padL i.2.1).map A.int)), (1, .cells ((List.replicate 6 (0 : Int)).map A.int))])
    (fun i => i.1 ≤ r.many ∧ Pop r b i.2.1 ∧ (0 ≤ i.2.2 ∧ i.2.2 ≤ 1000000000) ∧ catchF i.2.1 r.mesh.toNat i.1 i.2.2 = caughtF r l take) (fun i => i.1) (r.many, l, take)
    ⟨Nat.le_refl _, hp, ht, rfl⟩ ⟨⟨.refl _, .refl _, .refl _, .refl _, .of_eq (congrArg A.int (by rw [dn_eq, ln, ← hm])), trivial⟩, ⟨.refl _, .of_eq (congrArg A.int (by rw [dn_eq, ln, ← hm])), trivial⟩, ⟨congrArg (fun x => some (B.cells x)) (map_down_int (padL l)), rfl, trivial⟩, Nat.le_of_ble_eq_true rfl⟩
    ⟨.s _, urc, .ref _ _ (by decide), .ref _ _ (by decide), .s _, trivial⟩ (fun _ _ => ⟨.s _, .s _, trivial⟩) (fun _ _ => ⟨⟨by decide, cells_under _⟩, ⟨by decide, cells_under _⟩, trivial⟩) ?_)
  rintro ⟨k, l1, tk⟩ ⟨hk, hpop, htk, hrun⟩
  simp only at hk hpop htk hrun
  refine Aw.seq ?_
  refine Aw.sm tab_ok (fun d => Nat.beq d 5) [] rfl rfl ?zo ?zk
  case zo =>
    repeat' apply AllP.cons
    all_goals first | exact trivial | exact id | exact rfl | exact fun _ => rfl | exact Nat.le_of_ble_eq_true rfl | exact fun _ => Nat.le_of_ble_eq_true rfl | exact Int.natCast_nonneg _ | exact fun _ => Int.natCast_nonneg _ | exact within_t _ _ _ | exact (within_t _ _ _).un
  case zk =>
  refine Aw.cond rfl (fun h1 => Aw.skip ?_) (fun h1 => ?_)
  · have h1' : dn k ≥ r.mesh := of_decide_eq_true h1
    obtain ⟨j, rfl⟩ : ∃ j, k = j + 1 := by cases k with
      | zero => have : (-1 : Int) ≥ r.mesh := h1'; omega
      | succ j => exact ⟨j, rfl⟩
    have h2 : r.mesh.toNat ≤ j := by have : (j : Int) ≥ r.mesh := h1'; omega
    rw [catchF, if_pos h2] at hrun
    have p6 := padL_len (l := l1) (by rw [hpop.len]; exact m6)
    have pj : j < ((padL l1).map A.int).length := by rw [List.length_map, p6]; omega
    have jl : j < l1.length := by rw [hpop.len]; omega
    have hg : (((padL l1).map A.int).getD j .un).down = .int (l1.getD j 0) := by rw [cells_get (by omega), padL_getD]
    have nn := getD_pos hpop.pos j
    have ns := sum_ge hpop.pos j
    have nsb := hpop.sum
    have hmn := minI (l1.getD j 0) tk
    have hg' : (((padL l1).map A.int).getD (0 + j * 1) .un).down = .int (l1.getD j 0) := by rw [Nat.zero_add, Nat.mul_one]; exact hg
    have pj' : 0 + j * 1 < ((padL l1).map A.int).length := by omega
    have pj2 : 0 + j * 1 + 1 ≤ ((padL l1).map A.int).length := by omega
    have j6 : (j : Int) < (6 : Nat) := by omega
    refine Aw.seq (Aw.block ?_)
    refine Aw.sm tab_ok (fun d => Nat.beq d 5) [(2, [.int (l1.getD j 0)])] rfl rfl ?zo ?zk
    case zo =>
      repeat' apply AllP.cons
      all_goals first | exact trivial | exact id | exact rfl | exact fun _ => rfl | exact Nat.le_of_ble_eq_true rfl | exact fun _ => Nat.le_of_ble_eq_true rfl | exact Int.natCast_nonneg _ | exact fun _ => Int.natCast_nonneg _ | exact within_t _ _ _ | exact (within_t _ _ _).un | exact hg' | exact pj' | exact j6 | trace_state
    case zk =>
    have ob1 : inR (tk - (if tk < l1.getD j 0 then tk else l1.getD j 0)) := by rw [hmn]; simp only [inR]; omega
    have ob2 : inR (l1.getD j 0 - (if tk < l1.getD j 0 then tk else l1.getD j 0)) := by rw [hmn]; simp only [inR]; omega
    have hst : setSeg ((padL l1).map A.int) (0 + j * 1) [A.int (l1.getD j 0 - (if tk < l1.getD j 0 then tk else l1.getD j 0))] = (padL (l1.set j (l1.getD j 0 - min (l1.getD j 0) tk))).map A.int := by
      rw [hmn, Nat.zero_add, Nat.mul_one, setSeg_set (by rw [p6]; omega), padL_set jl]
    refine Aw.em tab_ok (fun d => Nat.beq d 5) [(3, [.int (l1.getD j 0)])] rfl rfl ?zo ?zk
    case zo =>
      repeat' apply AllP.cons
      all_goals first | exact trivial | exact id | exact rfl | exact fun _ => rfl | exact Nat.le_of_ble_eq_true rfl | exact fun _ => Nat.le_of_ble_eq_true rfl | exact Int.natCast_nonneg _ | exact fun _ => Int.natCast_nonneg _ | exact within_t _ _ _ | exact (within_t _ _ _).un | exact hg' | exact pj' | exact pj2 | exact j6 | exact ob1 | exact ob2
    case zk =>
    refine Aw.em tab_ok (fun d => Nat.beq d 5) [] rfl rfl ?zo ?zk
    case zo =>
      repeat' apply AllP.cons
      all_goals first | exact trivial | exact id | exact rfl | exact fun _ => rfl | exact Nat.le_of_ble_eq_true rfl | exact fun _ => Nat.le_of_ble_eq_true rfl | exact Int.natCast_nonneg _ | exact fun _ => Int.natCast_nonneg _ | exact within_t _ _ _ | exact (within_t _ _ _).un | exact (show inR ((j : Int) - 1) by simp only [inR]; omega)
    case zk =>
    have hpop2 := catchF_pop (mesh := j) (j + 1) tk l1 hpop htk.1 hk
    rw [catchF, if_pos (Nat.le_refl _), show ∀ (l : List Int) (t : Int), catchF l j j t = l from fun l t => by cases j with
      | zero => rfl
      | succ i => rw [catchF, if_neg (by omega)]] at hpop2
    exact ⟨(j, l1.set j (l1.getD j 0 - min (l1.getD j 0) tk), tk - min (l1.getD j 0) tk), ⟨by show j ≤ _; omega, hpop2, by show 0 ≤ tk - min (l1.getD j 0) tk ∧ tk - min (l1.getD j 0) tk ≤ _; omega, hrun⟩, Nat.lt_succ_self j,
      ⟨.refl _, .refl _, .refl _, .refl _, .refl _, trivial⟩, ⟨.of_eq (show A.int (tk - min (l1.getD j 0) tk) = A.int (tk - (if tk < l1.getD j 0 then tk else l1.getD j 0)) by rw [hmn]), .of_eq (show A.int (dn j) = A.int ((j : Int) - 1) by rw [dn_eq]), trivial⟩,
      ⟨congrArg (fun x => some (B.cells x)) hst, rfl, trivial⟩, Nat.le_of_ble_eq_true rfl⟩
  have h1' : ¬ dn k ≥ r.mesh := of_decide_eq_false h1
  have hC : l1 = caughtF r l take := by
    rw [← hrun]
    cases k with
    | zero => rfl
    | succ j =>
      have : ¬ (j : Int) ≥ r.mesh := h1'
      rw [catchF, if_neg (by omega)]
  refine Aw.exit2 ?_
  generalize caughtF r l take = C at *
  subst hC
  clear hrun htk h1 h1' hk
  have hln := hpop.len
  have pc6 := padL_len (l := l1) (by omega)
  refine Aw.keep (n := 2) (cst := [(3, .int x), (4, .pt r.c), (5, .ref 0 0), (9, .ref 1 0), (10, .int (dn r.many))]) (v := []) (Hl := [(0, .cells ((padL l1).map A.int)), (1, .cells ((List.replicate 6 (0 : Int)).map A.int))]) hE2 ⟨.s _, urc, .ref _ _ (by decide), .ref _ _ (by decide), .s _, trivial⟩ trivial ⟨⟨by decide, cells_under _⟩, ⟨by decide, cells_under _⟩, trivial⟩
    ⟨⟨.refl _, .refl _, .refl _, .refl _, .refl _, trivial⟩, trivial, ⟨rfl, rfl, trivial⟩, Nat.le_of_ble_eq_true rfl⟩ ?_
  refine Aw.sm tab_ok (fun d => Nat.beq d 5) [] rfl rfl ?zo ?zk
  case zo =>
    repeat' apply AllP.cons
    all_goals first | exact trivial | exact id | exact rfl | exact fun _ => rfl | exact Nat.le_of_ble_eq_true rfl | exact fun _ => Nat.le_of_ble_eq_true rfl | exact Int.natCast_nonneg _ | exact fun _ => Int.natCast_nonneg _ | exact within_t _ _ _ | exact (within_t _ _ _).un
  case zk =>
  refine Aw.sm tab_ok (fun d => Nat.beq d 5) [] rfl rfl ?zo ?zk
  case zo =>
    repeat' apply AllP.cons
    all_goals first | exact trivial | exact id | exact rfl | exact fun _ => rfl | exact Nat.le_of_ble_eq_true rfl | exact fun _ => Nat.le_of_ble_eq_true rfl | exact Int.natCast_nonneg _ | exact fun _ => Int.natCast_nonneg _ | exact within_t _ _ _ | exact (within_t _ _ _).un
  case zk =>
  refine Aw.seq ?_
  have hdn := dn_eq r.many
  refine Aw.sm tab_ok (fun d => Nat.beq d 5) [] rfl rfl ?zo ?zk
  case zo =>
    repeat' apply AllP.cons
    all_goals first | exact trivial | exact id | exact rfl | exact fun _ => rfl | exact Nat.le_of_ble_eq_true rfl | exact fun _ => Nat.le_of_ble_eq_true rfl | exact Int.natCast_nonneg _ | exact fun _ => Int.natCast_nonneg _ | exact within_t _ _ _ | exact (within_t _ _ _).un | exact (show inR (dn r.many + 1) by simp only [inR]; omega)
  case zk =>
  have uc3 : UnderL 3 [(3, A.int x), (4, .pt r.c), (5, .ref 0 0), (9, .ref 1 0), (10, .int (dn r.many)), (14, .ref 2 0), (45, .int r.many)] := ⟨.s _, (Free.pt _ r.free).under, .ref _ _ (by decide), .ref _ _ (by decide), .s _, .ref _ _ (by decide), .s _, trivial⟩
  refine Aw.block (Aw.rounds (ι := Nat) 3 hE3 [(3, .int x), (4, .pt r.c), (5, .ref 0 0), (9, .ref 1 0), (10, .int (dn r.many)), (14, .ref 2 0), (45, .int r.many)] (fun k => [(13, grL 3 (spawnN r l1 k)), (46, .int k)])
    (fun k => [(0, .cells ((padL l1).map A.int)), (1, .cells ((List.replicate 6 (0 : Int)).map A.int)), (2, .cells ((padL (winN r l1 k)).map A.int))]) (fun k => k ≤ r.many) (fun k => r.many - k) 0
    (Nat.zero_le _) ⟨⟨.refl _, .refl _, .refl _, .refl _, .refl _, .refl _, .of_eq (congrArg A.int (by omega)), trivial⟩, ⟨.refl _, .refl _, trivial⟩, ⟨rfl, rfl, congrArg (fun x : List Int => some (B.cells (x.map A.int))) (padL_zero m6).symm, trivial⟩, Nat.le_of_ble_eq_true rfl⟩
    uc3 (fun _ _ => ⟨grL_under _, .s _, trivial⟩) (fun _ _ => ⟨⟨by decide, cells_under _⟩, ⟨by decide, cells_under _⟩, ⟨by decide, cells_under _⟩, trivial⟩) fun k hk => ?_)
  refine Aw.sm tab_ok (fun d => Nat.beq d 5) [] rfl rfl ?zo ?zk
  case zo =>
    repeat' apply AllP.cons
    all_goals first | exact trivial | exact id | exact rfl | exact fun _ => rfl | exact Nat.le_of_ble_eq_true rfl | exact fun _ => Nat.le_of_ble_eq_true rfl | exact Int.natCast_nonneg _ | exact fun _ => Int.natCast_nonneg _ | exact within_t _ _ _ | exact (within_t _ _ _).un
  case zk =>
  refine Aw.seq (Aw.cond rfl (fun h1 => Aw.skip1 ?_) (fun h1 => Aw.exit2 ?_))
  · have hlt : k < r.many := by have := of_decide_eq_true h1; omega
    have hw := winN_pop hr hpop k (by omega)
    have hkb := hr.kb k hlt
    have hsb := hr.sb k hlt
    have hc0 := getD_pos hpop.pos k
    have hc1 := sum_ge hpop.pos k
    have hc2 := hpop.sum
    have hkl := hr.k
    have hsl := hr.s
    have hcs := mul_bd (a := l1.getD k 0) (x := 10000000) ⟨hc0, by omega⟩ hsb
    have hck := mul_bd (a := l1.getD k 0) (x := 10000000) ⟨hc0, by omega⟩ hkb
    have hg' : (((padL l1).map A.int).getD (0 + k * 1) .un).down = .int (l1.getD k 0) := by rw [Nat.zero_add, Nat.mul_one, cells_get (by omega), padL_getD]
    have pk' : 0 + k * 1 < ((padL l1).map A.int).length := by rw [List.length_map]; omega
    have k6 : (k : Int) < (6 : Nat) := by omega
    have om : inR (l1.getD k 0 * r.spawn.getD k 0) := by simp only [inR]; omega
    have ok : inR (l1.getD k 0 * r.keep.getD k 0) := by simp only [inR]; omega
    have es := spawnN_succ r l1 k
    have el := spawnN_len r l1 k
    refine Aw.seq (Aw.block ?_)
    refine Aw.sm tab_ok (fun d => Nat.beq d 5) [] rfl rfl ?zo ?zk
    case zo =>
      repeat' apply AllP.cons
      all_goals first | exact trivial | exact id | exact rfl | exact fun _ => rfl | exact Nat.le_of_ble_eq_true rfl | exact fun _ => Nat.le_of_ble_eq_true rfl | exact Int.natCast_nonneg _ | exact fun _ => Int.natCast_nonneg _ | exact within_t _ _ _ | exact (within_t _ _ _).un
    case zk =>
    refine Aw.join1 3 hE3 [(3, A.int x), (4, .pt r.c), (5, .ref 0 0), (9, .ref 1 0), (10, .int (dn r.many)), (14, .ref 2 0), (45, .int r.many), (46, .int k), (15, .int k)] [(13, grL 3 (spawnN r l1 (k + 1)))] [(0, .cells ((padL l1).map A.int)), (1, .cells ((List.replicate 6 (0 : Int)).map A.int)), (2, .cells ((padL (winN r l1 k)).map A.int))]
      ⟨.s _, (Free.pt _ r.free).under, .ref _ _ (by decide), .ref _ _ (by decide), .s _, .ref _ _ (by decide), .s _, .s _, .s _, trivial⟩ ⟨grL_under _, trivial⟩ ⟨⟨by decide, cells_under _⟩, ⟨by decide, cells_under _⟩, ⟨by decide, cells_under _⟩, trivial⟩ ?_ ?_
    · cases hsp : spawnN r l1 k with
      | nil =>
        rw [hsp] at es
        refine Aw.ed tab_ok mixed (fun d => Nat.beq d 5) [(3, [.int (l1.getD k 0)]), (8, [.int (r.spawn.getD k 0)])] rfl (by kernel_rfl) rfl rfl ?zo ?zk
        case zo =>
          repeat' apply AllP.cons
          all_goals first | exact trivial | exact id | exact rfl | exact fun _ => rfl | exact Nat.le_of_ble_eq_true rfl | exact fun _ => Nat.le_of_ble_eq_true rfl | exact Int.natCast_nonneg _ | exact fun _ => Int.natCast_nonneg _ | exact within_t _ _ _ | exact (within_t _ _ _).un | exact hg' | exact pk' | exact k6 | exact om | exact ints_getD (by omega) | exact (show ∀ z ∈ [] ++ [[A.int _]], z.length = 1 from fun z hz => by simp at hz; subst hz; rfl) | exact (by simp only [Ob.of]; decide)
        case zk =>
        exact ⟨⟨.refl _, .refl _, .refl _, .refl _, .refl _, .refl _, .refl _, .refl _, .refl _, trivial⟩, ⟨.of_eq (show grL 3 (spawnN r l1 (k + 1)) = A.sl false (.own 3) ([] ++ [[A.int (l1.getD k 0 * r.spawn.getD k 0)]]) by rw [es]; rfl), trivial⟩, ⟨rfl, rfl, rfl, trivial⟩, Nat.le_of_ble_eq_true rfl⟩
      | cons y ys =>
        rw [hsp] at es el
        have hlen2 : (ints (y :: ys)).length = k := by rw [ints_len]; exact el
        have hz := ints_one (y :: ys)
        refine Aw.ed tab_ok mixed (fun d => Nat.beq d 5) [(3, [.int (l1.getD k 0)]), (8, [.int (r.spawn.getD k 0)])] rfl (by kernel_rfl) rfl rfl ?zo ?zk
        case zo =>
          repeat' apply AllP.cons
          all_goals first | exact trivial | exact id | exact rfl | exact fun _ => rfl | exact Nat.le_of_ble_eq_true rfl | exact fun _ => Nat.le_of_ble_eq_true rfl | exact Int.natCast_nonneg _ | exact fun _ => Int.natCast_nonneg _ | exact within_t _ _ _ | exact (within_t _ _ _).un | exact hg' | exact pk' | exact k6 | exact om | exact ints_getD (by omega) | exact (show ∀ z ∈ [[A.int _]], z.length = 1 from fun z hz => by simp at hz; subst hz; rfl) | exact hz | exact (show ((ints (y :: ys)).length + 1) * 8 ≤ 140737488355328 by omega) | exact (show (ints (y :: ys)).length + 1 ≤ maxLen by unfold maxLen; omega)
        case zk =>
        exact ⟨⟨.refl _, .refl _, .refl _, .refl _, .refl _, .refl _, .refl _, .refl _, .refl _, trivial⟩, ⟨.of_eq (show grL 3 (spawnN r l1 (k + 1)) = A.sl false (.own 3) (ints (y :: ys) ++ [[A.int (l1.getD k 0 * r.spawn.getD k 0)]]) by rw [es]; simp [grL, ints]), trivial⟩, ⟨rfl, rfl, rfl, trivial⟩, Nat.le_of_ble_eq_true rfl⟩
    obtain ⟨m, hm1⟩ : ∃ m : Nat, m = min (k + 1) (r.many - 1) := ⟨_, rfl⟩
    have hmi : (if dn r.many < (k : Int) + 1 then dn r.many else (k : Int) + 1) = (m : Int) := by split <;> omega
    have w6 := padL_len (l := winN r l1 k) (by rw [hw.len]; exact m6)
    have wl := hw.len
    have hwg : (((padL (winN r l1 k)).map A.int).getD (0 + Int.toNat (if dn r.many < (k : Int) + 1 then dn r.many else (k : Int) + 1) * 1) .un).down = .int ((winN r l1 k).getD m 0) := by
      rw [hmi, Int.toNat_natCast, Nat.zero_add, Nat.mul_one, cells_get (by omega), padL_getD]
    have wb := getD_pos hw.pos m
    have wg := sum_ge hw.pos m
    have ws := hw.sum
    have wt := sum_take_le hpop.pos k
    have lb := live_bd hc0 hkb
    have q1 : 0 + Int.toNat (if dn r.many < (k : Int) + 1 then dn r.many else (k : Int) + 1) * 1 + 1 ≤ ((padL (winN r l1 k)).map A.int).length := by rw [hmi, Int.toNat_natCast, List.length_map, w6]; omega
    have q2 : 0 + Int.toNat (if dn r.many < (k : Int) + 1 then dn r.many else (k : Int) + 1) * 1 < ((padL (winN r l1 k)).map A.int).length := q1
    have q3 : 0 ≤ (if dn r.many < (k : Int) + 1 then dn r.many else (k : Int) + 1) := by rw [hmi]; omega
    have q4 : (if dn r.many < (k : Int) + 1 then dn r.many else (k : Int) + 1) < (6 : Nat) := by rw [hmi]; omega
    have q5 : inR ((winN r l1 k).getD m 0 + (l1.getD k 0 * r.keep.getD k 0).tdiv 1000) := by simp only [inR]; omega
    have q6 : (1000 : Int) ≠ 0 ∧ inR ((l1.getD k 0 * r.keep.getD k 0).tdiv 1000) := ⟨by decide, by simp only [inR]; omega⟩
    have hst : setSeg ((padL (winN r l1 k)).map A.int) (0 + Int.toNat (if dn r.many < (k : Int) + 1 then dn r.many else (k : Int) + 1) * 1) [A.int ((winN r l1 k).getD m 0 + (l1.getD k 0 * r.keep.getD k 0).tdiv 1000)] = (padL (winN r l1 (k + 1))).map A.int := by
      rw [hmi, Int.toNat_natCast, Nat.zero_add, Nat.mul_one, setSeg_set (by rw [w6]; omega), padL_set (by omega), winN, ← hm1]
    refine Aw.ed tab_ok mixed (fun d => Nat.beq d 5) [(5, [.int ((winN r l1 k).getD m 0)]), (8, [.int (l1.getD k 0)]), (13, [.int (r.keep.getD k 0)])] rfl (by kernel_rfl) rfl rfl ?zo ?zk
    case zo =>
      repeat' apply AllP.cons
      all_goals first | exact trivial | exact id | exact rfl | exact fun _ => rfl | exact Nat.le_of_ble_eq_true rfl | exact fun _ => Nat.le_of_ble_eq_true rfl | exact Int.natCast_nonneg _ | exact fun _ => Int.natCast_nonneg _ | exact within_t _ _ _ | exact (within_t _ _ _).un | exact hg' | exact pk' | exact k6 | exact ok | exact hwg | exact ints_getD (by omega) | exact q1 | exact q2 | exact q3 | exact q4 | exact q5 | exact q6 | exact inrk k (by omega)
    case zk =>
    refine Aw.em tab_ok (fun d => Nat.beq d 5) [] rfl rfl ?zo ?zk
    case zo =>
      repeat' apply AllP.cons
      all_goals first | exact trivial | exact id | exact rfl | exact fun _ => rfl | exact Nat.le_of_ble_eq_true rfl | exact fun _ => Nat.le_of_ble_eq_true rfl | exact Int.natCast_nonneg _ | exact fun _ => Int.natCast_nonneg _ | exact within_t _ _ _ | exact (within_t _ _ _).un | exact inrk k (by omega)
    case zk =>
    exact ⟨k + 1, hlt, by omega, ⟨.refl _, .refl _, .refl _, .refl _, .refl _, .refl _, .refl _, trivial⟩, ⟨.refl _, .refl _, trivial⟩, ⟨rfl, rfl, congrArg (fun x => some (B.cells x)) hst, trivial⟩, Nat.le_of_ble_eq_true rfl⟩
  have hle : k = r.many := by have := of_decide_eq_false h1; omega
  subst hle
  have hw := winN_pop hr hpop r.many (Nat.le_refl _)
  have wl := hw.len
  have w6 := padL_len (l := winN r l1 r.many) (by omega)
  have ws := hw.sum
  have wt := sum_take_le hpop.pos r.many
  have wg := sum_ge hw.pos 0
  have wb := getD_pos hw.pos 0
  have hps := hpop.sum
  have hg0 : (((padL (winN r l1 r.many)).map A.int).getD (0 + 0 * 1) .un).down = .int ((winN r l1 r.many).getD 0 0) := by rw [cells_get (by omega), padL_getD]
  have q2 : 0 + 0 * 1 < ((padL (winN r l1 r.many)).map A.int).length := by rw [List.length_map]; omega
  have q1 : 0 + 0 * 1 + 1 ≤ ((padL (winN r l1 r.many)).map A.int).length := q2
  have q5 : inR ((winN r l1 r.many).getD 0 0 + x) := by simp only [inR]; omega
  have hst : setSeg ((padL (winN r l1 r.many)).map A.int) (0 + 0 * 1) [A.int ((winN r l1 r.many).getD 0 0 + x)] = (padL (winF r l1 x)).map A.int := by
    rw [setSeg_set (by omega), padL_set (by omega)]; rfl
  refine Aw.sm tab_ok (fun d => Nat.beq d 5) [(1, [.int ((winN r l1 r.many).getD 0 0)])] rfl rfl ?zo ?zk
  case zo =>
    repeat' apply AllP.cons
    all_goals first | exact trivial | exact id | exact rfl | exact fun _ => rfl | exact Nat.le_of_ble_eq_true rfl | exact fun _ => Nat.le_of_ble_eq_true rfl | exact Int.natCast_nonneg _ | exact fun _ => Int.natCast_nonneg _ | exact within_t _ _ _ | exact (within_t _ _ _).un | exact hg0 | exact q1 | exact q2 | exact q5
  case zk =>
  refine Aw.keep (n := 3) (cst := [(9, .ref 1 0), (13, grL 3 (spawnN r l1 r.many)), (14, .ref 2 0)]) (v := []) (Hl := [(1, .cells ((List.replicate 6 (0 : Int)).map A.int)), (2, .cells ((padL (winF r l1 x)).map A.int))]) hE3 ⟨.ref _ _ (by decide), grL_under _, .ref _ _ (by decide), trivial⟩ trivial ⟨⟨by decide, cells_under _⟩, ⟨by decide, cells_under _⟩, trivial⟩
    ⟨⟨.refl _, .refl _, .refl _, trivial⟩, trivial, ⟨rfl, congrArg (fun x => some (B.cells x)) hst, trivial⟩, Nat.le_of_ble_eq_true rfl⟩ ?_
  have el := spawnN_len r l1 r.many
  have hsb : ∀ y ∈ spawnN r l1 r.many, 0 ≤ y ∧ y ≤ 1000000000 := fun y hy => by
    obtain ⟨i, hi, rfl⟩ := List.mem_map.1 hy
    have hi := List.mem_range.1 hi
    have hc1 := sum_ge hpop.pos i
    exact mul_bd (x := 10000000) (y := 100) ⟨getD_pos hpop.pos i, by omega⟩ (hr.sb i hi)
  have hsum := sum_t false .any (spawnN r l1 r.many) (by omega) (sum_g _ 1000000000 (by omega) (by decide) hsb) (fun _ => rfl)
  have hsp : spawnF r l1 = (spawnN r l1 r.many).sum := rfl
  rw [hsp]
  have hgr : grL 3 (spawnN r l1 r.many) = .sl false (.own 3) (ints (spawnN r l1 r.many)) := by
    cases e : spawnN r l1 r.many with
    | nil => rw [e] at el; simp at el; omega
    | cons y ys => rfl
  rw [hgr]
  have f6 := padL_len (l := winF r l1 x) (by rw [(winF_pop hr hpop hx.1).len]; exact m6)
  have pm : ((padL (winF r l1 x)).map A.int).length = 6 := by rw [List.length_map, f6]
  have hld : A.agg (((((padL (winF r l1 x)).map A.int).drop 0).take 6).map A.down) = arr (winF r l1 x) := by
    rw [List.drop_zero, List.take_of_length_le (by omega), map_down_int]; rfl
  refine Aw.sd tab_ok mixed (fun d => Nat.beq d 5) [(1, [.int (spawnN r l1 r.many).sum]), (2, [arr (winF r l1 x)])] rfl (by kernel_rfl) rfl rfl ?zo ?zk
  case zo =>
    repeat' apply AllP.cons
    all_goals first | exact trivial | exact id | exact rfl | exact fun _ => rfl | exact Nat.le_of_ble_eq_true rfl | exact fun _ => Nat.le_of_ble_eq_true rfl | exact Int.natCast_nonneg _ | exact fun _ => Int.natCast_nonneg _ | exact within_t _ _ _ | exact (within_t _ _ _).un | exact hsum | exact hld | exact (show 0 + 6 ≤ ((padL (winF r l1 x)).map A.int).length by omega) | exact (show ((padL (winF r l1 x)).map A.int).length = 6 from pm)
  case zk =>
  have hst2 : setSeg ((List.replicate 6 (0 : Int)).map A.int) 0 ((((padL (winF r l1 x)).map A.int)).map A.down) = (padL (winF r l1 x)).map A.int := by
    rw [map_down_int]
    unfold setSeg
    rw [List.take_zero, List.nil_append, Nat.zero_add, pm, List.drop_eq_nil_of_le (by simp), List.append_nil]
  refine Aw.ret ⟨_, .cons (.tmp _) (.cons (resC rfl (congrArg (fun x => some (B.cells x)) hst2) (by decide) ?_ ?_) .nil), rfl⟩
  · show Nat.ble (0 + 6) ((padL (winF r l1 x)).map A.int).length = true
    rw [pm]; rfl
  · exact hld
end Go.Proofs.Ytdiclbgklegelaa

namespace Go.Proofs.Ytdiclbgklegelaa
open Go Go.AL Go.AL.Q
theorem arr_ld {l : List Int} (h : l.length ≤ 6) : A.agg ((((((padL l).map A.int)).drop 0).take 6).map A.down) = arr l := by
  have := padL_len h
  rw [List.drop_zero, List.take_of_length_le (by rw [List.length_map]; omega), map_down_int]; rfl
theorem arr_len {l : List Int} (h : l.length ≤ 6) : ((padL l).map A.int).length = 6 := by rw [List.length_map, padL_len h]
theorem arr_st {l m : List Int} (h : l.length ≤ 6) (hm : m.length ≤ 6) : setSeg ((padL m).map A.int) 0 ((((padL l).map A.int)).map A.down) = (padL l).map A.int := by
  rw [map_down_int]
  unfold setSeg
  rw [List.take_zero, List.nil_append, Nat.zero_add, arr_len h, List.drop_eq_nil_of_le (by rw [arr_len hm]; exact Nat.le_refl _), List.append_nil]
theorem arr_st0 {l : List Int} (h : l.length ≤ 6) : setSeg ((List.replicate 6 (0 : Int)).map A.int) 0 ((((padL l).map A.int)).map A.down) = (padL l).map A.int := by
  have := arr_st h (m := []) (by simp)
  exact this
theorem play_t (r : Rce) (hf : r.Fit) (p q : Bool) (takes recs : List Int) (ht : (takes.length : Int) ≤ 9223372036854775806) (hc : (recs.length : Int) ≤ 9223372036854775806) :
    Ans Try.prog 24 [.agg r.c, .sl p .any (ints takes), .sl q .any (ints recs)] (.tup (playR r takes recs)) := by
  have hfr : Free (.tup (playR r takes recs)) := .tup _ (by unfold playR; split <;> exact allC (outX_free _) (all1 (.s _)))
  have lt := ints_lenI takes
  have lc := ints_lenI recs
  have ut : ∀ {n}, Under n (A.sl p .any (ints takes)) := (free_ints _ _ _).under
  have uq : ∀ {n}, Under n (A.sl q .any (ints recs)) := (free_ints _ _ _).under
  have ur : ∀ {n}, UnderB n (.cells r.c) := .cells _ fun x hx => (r.free x hx).under
  refine told Try.func24 rfl rfl (Pure.of tab_ok Try.func24 rfl Try.ntmps24 rfl (allC (.agg _ r.free) (allC (free_ints _ _ _) (all1 (free_ints _ _ _)))) (allC (fun _ => rfl) (allC (fun _ => rfl) (all1 (fun _ => rfl)))) (by first | exact .s _ | assumption | exact .tup _ (by intro x hx; simp only [List.mem_cons, List.not_mem_nil, or_false] at hx; rcases hx with rfl | rfl | rfl | rfl <;> first | exact .s _ | (simp_all; done))) fun E hE => ?_)
  have hE1 : ∀ id, 1 ≤ id → E.φ0 id = none := fun id h => hE id (by omega)
  have hE2 : ∀ id, 2 ≤ id → E.φ0 id = none := fun id h => hE id (by omega)
  refine Aw.sm tab_ok (fun d => Nat.beq d 5) [] rfl rfl ?zo ?zk
  case zo =>
    repeat' apply AllP.cons
    all_goals first | exact trivial | exact id | exact rfl | exact fun _ => rfl | exact Nat.le_of_ble_eq_true rfl | exact fun _ => Nat.le_of_ble_eq_true rfl | exact Int.natCast_nonneg _ | exact fun _ => Int.natCast_nonneg _ | exact within_t _ _ _ | exact (within_t _ _ _).un
  case zk =>
  refine Aw.sm tab_ok (fun d => Nat.beq d 5) [] rfl rfl ?zo ?zk
  case zo =>
    repeat' apply AllP.cons
    all_goals first | exact trivial | exact id | exact rfl | exact fun _ => rfl | exact Nat.le_of_ble_eq_true rfl | exact fun _ => Nat.le_of_ble_eq_true rfl | exact Int.natCast_nonneg _ | exact fun _ => Int.natCast_nonneg _ | exact within_t _ _ _ | exact (within_t _ _ _).un
  case zk =>
  refine Aw.sm tab_ok (fun d => Nat.beq d 5) [(1, [.bool r.ok]), (5, [.bool (wi (ints takes).length 1 10)])] rfl rfl ?zo ?zk
  case zo =>
    repeat' apply AllP.cons
    all_goals first | exact trivial | exact id | exact rfl | exact fun _ => rfl | exact Nat.le_of_ble_eq_true rfl | exact fun _ => Nat.le_of_ble_eq_true rfl | exact Int.natCast_nonneg _ | exact fun _ => Int.natCast_nonneg _ | exact within_t _ _ _ | exact (within_t _ _ _).un | exact isRace_t r hf
  case zk =>
  have hd : A.bool (playHead r takes recs) = A.bool (cond (cond r.ok (wi (ints takes).length 1 10) false) (((ints recs).length : Int) == (ints takes).length) false) := by rw [lt, lc]; rfl
  refine Aw.seq ?_
  refine Aw.sm tab_ok (fun d => Nat.beq d 5) [] rfl rfl ?zo ?zk
  case zo =>
    repeat' apply AllP.cons
    all_goals first | exact trivial | exact id | exact rfl | exact fun _ => rfl | exact Nat.le_of_ble_eq_true rfl | exact fun _ => Nat.le_of_ble_eq_true rfl | exact Int.natCast_nonneg _ | exact fun _ => Int.natCast_nonneg _ | exact within_t _ _ _ | exact (within_t _ _ _).un
  case zk =>
  have lr : (List.range takes.length).length = takes.length := List.length_range
  refine Aw.block (Aw.rounds 1 hE1 [(1, .sl p .any (ints takes)), (2, .sl q .any (ints recs)), (8, .ref 0 0)] (fun k : Nat => [(9, .bool (andAll (playHead r takes recs) (playYear takes recs) (List.range takes.length) k)), (10, .int k)]) (fun _ => [(0, .cells r.c)]) (fun k => k ≤ takes.length) (fun k => takes.length - k) 0
    (Nat.zero_le _) ⟨⟨.refl _, .refl _, .refl _, trivial⟩, ⟨.of_eq (by rw [andAll_zero]; exact hd), .refl _, trivial⟩, ⟨rfl, trivial⟩, Nat.le_refl _⟩ ⟨ut, uq, .ref _ _ (by decide), trivial⟩ (fun _ _ => ⟨.s _, .s _, trivial⟩) (fun _ _ => ⟨⟨by decide, ur⟩, trivial⟩) fun k hk => ?_)
  refine Aw.seq ?_
  refine Aw.sm tab_ok (fun d => Nat.beq d 5) [] rfl rfl ?zo ?zk
  case zo =>
    repeat' apply AllP.cons
    all_goals first | exact trivial | exact id | exact rfl | exact fun _ => rfl | exact Nat.le_of_ble_eq_true rfl | exact fun _ => Nat.le_of_ble_eq_true rfl | exact Int.natCast_nonneg _ | exact fun _ => Int.natCast_nonneg _ | exact within_t _ _ _ | exact (within_t _ _ _).un
  case zk =>
  refine Aw.cond rfl (fun h1 => Aw.skip ?_) (fun h1 => ?_)
  · have h1 : cond (andAll (playHead r takes recs) (playYear takes recs) (List.range takes.length) k) (decide ((k : Int) < (ints takes).length)) false = true := h1
    have hb := ac1 h1
    have hlt : k < takes.length := by have := of_decide_eq_true (ac2 h1); omega
    have hh : playHead r takes recs = true := by unfold andAll at hb; exact ac1 hb
    have hq : recs.length = takes.length := by unfold playHead at hh; have := eq_of_beq (ac2 hh); omega
    refine Aw.seq (Aw.block ?_)
    refine Aw.em tab_ok (fun d => Nat.beq d 5) [(2, [.int (takes.getD k 0)]), (4, [.bool (wi (takes.getD k 0) 0 100000000)]), (8, [.int (recs.getD k 0)]), (10, [.bool (wi (recs.getD k 0) 0 100000)])] rfl rfl ?zo ?zk
    case zo =>
      repeat' apply AllP.cons
      all_goals first | exact trivial | exact id | exact rfl | exact fun _ => rfl | exact Nat.le_of_ble_eq_true rfl | exact fun _ => Nat.le_of_ble_eq_true rfl | exact Int.natCast_nonneg _ | exact fun _ => Int.natCast_nonneg _ | exact within_t _ _ _ | exact (within_t _ _ _).un | exact ints_getD hlt | exact fun _ => ints_getD (by omega)
    case zk =>
    refine Aw.em tab_ok (fun d => Nat.beq d 5) [] rfl rfl ?zo ?zk
    case zo =>
      repeat' apply AllP.cons
      all_goals first | exact trivial | exact id | exact rfl | exact fun _ => rfl | exact Nat.le_of_ble_eq_true rfl | exact fun _ => Nat.le_of_ble_eq_true rfl | exact Int.natCast_nonneg _ | exact fun _ => Int.natCast_nonneg _ | exact within_t _ _ _ | exact (within_t _ _ _).un | exact inrk k (by omega)
    case zk =>
    have e : andAll (playHead r takes recs) (playYear takes recs) (List.range takes.length) (k + 1) = playYear takes recs k := by
      rw [andAll_succ (by rw [lr]; exact hlt) hb, List.getElem_range]
    exact ⟨k + 1, hlt, by omega, ⟨.refl _, .refl _, .refl _, trivial⟩, ⟨.of_eq (congrArg A.bool e), .refl _, trivial⟩, ⟨rfl, trivial⟩, Nat.le_refl _⟩
  have h1 : cond (andAll (playHead r takes recs) (playYear takes recs) (List.range takes.length) k) (decide ((k : Int) < (ints takes).length)) false = false := h1
  have hend : andAll (playHead r takes recs) (playYear takes recs) (List.range takes.length) k = playOk r takes recs := (andAll_end (by
    cases e : andAll (playHead r takes recs) (playYear takes recs) (List.range takes.length) k with
    | false => exact .inl rfl
    | true => rw [e] at h1; have := of_decide_eq_false h1; exact .inr (by rw [lr]; omega)) (by rw [lr]; exact hk)).trans rfl
  rw [hend]
  refine Aw.exit2 ?_
  refine Aw.keep (n := 1) (cst := [(1, .sl p .any (ints takes)), (2, .sl q .any (ints recs)), (8, .ref 0 0), (9, .bool (playOk r takes recs))]) (v := []) (Hl := [(0, .cells r.c)]) hE1 ⟨ut, uq, .ref _ _ (by decide), .s _, trivial⟩ trivial ⟨⟨by decide, ur⟩, trivial⟩ ⟨⟨.refl _, .refl _, .refl _, .refl _, trivial⟩, trivial, ⟨rfl, trivial⟩, Nat.le_refl _⟩ ?_
  refine Aw.seq ?_
  refine Aw.sm tab_ok (fun d => Nat.beq d 5) [] rfl rfl ?zo ?zk
  case zo =>
    repeat' apply AllP.cons
    all_goals first | exact trivial | exact id | exact rfl | exact fun _ => rfl | exact Nat.le_of_ble_eq_true rfl | exact fun _ => Nat.le_of_ble_eq_true rfl | exact Int.natCast_nonneg _ | exact fun _ => Int.natCast_nonneg _ | exact within_t _ _ _ | exact (within_t _ _ _).un
  case zk =>
  refine Aw.cond rfl (fun h1 => ?_) (fun h1 => Aw.skip ?_)
  · have hno : playOk r takes recs = false := by simpa using h1
    refine Aw.sm tab_ok (fun d => Nat.beq d 5) [] rfl rfl ?zo ?zk
    case zo =>
      repeat' apply AllP.cons
      all_goals first | exact trivial | exact id | exact rfl | exact fun _ => rfl | exact Nat.le_of_ble_eq_true rfl | exact fun _ => Nat.le_of_ble_eq_true rfl | exact Int.natCast_nonneg _ | exact fun _ => Int.natCast_nonneg _ | exact within_t _ _ _ | exact (within_t _ _ _).un
    case zk =>
    exact Aw.ret ⟨_, .cons (.tmp _) (.cons (.tmp _) .nil), by simp only [playR, hno]; rfl⟩
  have hok : playOk r takes recs = true := by simpa using h1
  have hhead : playHead r takes recs = true := by unfold playOk at hok; exact ac1 hok
  have hr : RceOk r := RceOk.of (by unfold playHead at hhead; exact ac1 (ac1 hhead))
  have hl10 : 1 ≤ takes.length ∧ takes.length ≤ 10 := by unfold playHead at hhead; have := wi_iff.1 (ac2 (ac1 hhead)); omega
  have hrl : recs.length = takes.length := by unfold playHead at hhead; have := eq_of_beq (ac2 hhead); omega
  have hy : ∀ i, i < takes.length → (0 ≤ takes.getD i 0 ∧ takes.getD i 0 ≤ 100000000) ∧ (0 ≤ recs.getD i 0 ∧ recs.getD i 0 ≤ 100000) := fun i hi => by
    unfold playOk at hok
    have := List.all_eq_true.1 (ac2 hok) i (List.mem_range.2 hi)
    exact ⟨wi_iff.1 (ac1 this), wi_iff.1 (ac2 this)⟩
  have hR : playR r takes recs = [outX (playF r r.numbers takes recs), .int 0] := by unfold playR; rw [if_pos hok]
  rw [hR]
  have m6 : r.numbers.length ≤ 6 := hr.m6
  generalize hP : playF r r.numbers takes recs = P
  refine Aw.sm tab_ok (fun d => Nat.beq d 5) [] rfl rfl ?zo ?zk
  case zo =>
    repeat' apply AllP.cons
    all_goals first | exact trivial | exact id | exact rfl | exact fun _ => rfl | exact Nat.le_of_ble_eq_true rfl | exact fun _ => Nat.le_of_ble_eq_true rfl | exact Int.natCast_nonneg _ | exact fun _ => Int.natCast_nonneg _ | exact within_t _ _ _ | exact (within_t _ _ _).un
  case zk =>
  refine Aw.sm tab_ok (fun d => Nat.beq d 5) [(0, [.agg r.c]), (1, [arr r.numbers])] rfl rfl ?zo ?zk
  case zo =>
    repeat' apply AllP.cons
    all_goals first | exact trivial | exact id | exact rfl | exact fun _ => rfl | exact Nat.le_of_ble_eq_true rfl | exact fun _ => Nat.le_of_ble_eq_true rfl | exact Int.natCast_nonneg _ | exact fun _ => Int.natCast_nonneg _ | exact within_t _ _ _ | exact (within_t _ _ _).un | exact first_t r hr | exact (show ((padL r.numbers).map A.int).length = 6 from arr_len m6)
  case zk =>
  refine Aw.sm tab_ok (fun d => Nat.beq d 5) [] rfl rfl ?zo ?zk
  case zo =>
    repeat' apply AllP.cons
    all_goals first | exact trivial | exact id | exact rfl | exact fun _ => rfl | exact Nat.le_of_ble_eq_true rfl | exact fun _ => Nat.le_of_ble_eq_true rfl | exact Int.natCast_nonneg _ | exact fun _ => Int.natCast_nonneg _ | exact within_t _ _ _ | exact (within_t _ _ _).un
  case zk =>
  refine Aw.seq ?_
  refine Aw.sm tab_ok (fun d => Nat.beq d 5) [] rfl rfl ?zo ?zk
  case zo =>
    repeat' apply AllP.cons
    all_goals first | exact trivial | exact id | exact rfl | exact fun _ => rfl | exact Nat.le_of_ble_eq_true rfl | exact fun _ => Nat.le_of_ble_eq_true rfl | exact Int.natCast_nonneg _ | exact fun _ => Int.natCast_nonneg _ | exact within_t _ _ _ | exact (within_t _ _ _).un
  case zk =>
  have uc : UnderL 2 [(1, .sl p .any (ints takes)), (2, A.sl q .any (ints recs)), (8, .ref 0 0), (11, .fn (.func 73) [] []), (12, .ref 1 0), (59, .int takes.length)] := ⟨ut, uq, .ref _ _ (by decide), .fn _ _ _ (fun _ h => nomatch h) (fun _ h => nomatch h), .ref _ _ (by decide), .s _, trivial⟩
  refine Aw.block (Aw.rounds (ι := Nat × List Int × List Int) 2 hE2 [(1, .sl p .any (ints takes)), (2, .sl q .any (ints recs)), (8, .ref 0 0), (11, .fn (.func 73) [] []), (12, .ref 1 0), (59, .int takes.length)] (fun i => [(13, grL 3 i.2.2), (60, .int i.1)])
    (fun i => [(0, .cells r.c), (1, .cells ((padL i.2.1).map A.int))]) (fun i => i.1 ≤ takes.length ∧ i.2.2.length = i.1 ∧ Pop r (600000 + 100000 * i.1) i.2.1 ∧ i.2.2 ++ playF r i.2.1 (takes.drop i.1) (recs.drop i.1) = P) (fun i => takes.length - i.1) (0, r.numbers, [])
    ⟨Nat.zero_le _, rfl, by simpa using first_pop hr, hP⟩ ⟨⟨.refl _, .refl _, .refl _, .refl _, .refl _, .of_eq (congrArg A.int lt.symm), trivial⟩, ⟨.refl _, .refl _, trivial⟩, ⟨rfl, congrArg (fun x => some (B.cells x)) (arr_st0 m6), trivial⟩, Nat.le_of_ble_eq_true rfl⟩
    uc (fun i _ => ⟨grL_under _, .s _, trivial⟩) (fun i _ => ⟨⟨by decide, ur⟩, ⟨by decide, cells_under _⟩, trivial⟩) ?_)
  rintro ⟨k, n, acc⟩ ⟨hk, hal, hpop, hrun⟩
  simp only at hk hal hpop hrun
  refine Aw.sm tab_ok (fun d => Nat.beq d 5) [] rfl rfl ?zo ?zk
  case zo =>
    repeat' apply AllP.cons
    all_goals first | exact trivial | exact id | exact rfl | exact fun _ => rfl | exact Nat.le_of_ble_eq_true rfl | exact fun _ => Nat.le_of_ble_eq_true rfl | exact Int.natCast_nonneg _ | exact fun _ => Int.natCast_nonneg _ | exact within_t _ _ _ | exact (within_t _ _ _).un
  case zk =>
  refine Aw.seq (Aw.cond rfl (fun h1 => Aw.skip1 ?_) (fun h1 => Aw.exit2 ?_))
  · have hlt : k < takes.length := by have := of_decide_eq_true h1; omega
    have hyk := hy k hlt
    have t1 : takes.drop k = takes.getD k 0 :: takes.drop (k + 1) := by rw [List.drop_eq_getElem_cons hlt]; simp [List.getD_eq_getElem?_getD, hlt]
    have t2 : recs.drop k = recs.getD k 0 :: recs.drop (k + 1) := by rw [List.drop_eq_getElem_cons (by omega)]; simp [List.getD_eq_getElem?_getD, show k < recs.length by omega]
    rw [t1, t2, playF] at hrun
    have hcall := year_t r hr n (600000 + 100000 * k) (takes.getD k 0) (recs.getD k 0) hpop (by omega) ⟨hyk.1.1, by omega⟩ hyk.2
    have hpop2 := yearF_pop hr hpop hyk.1.1 hyk.2.1 (x := recs.getD k 0) (t := takes.getD k 0)
    generalize hY : yearF r n (takes.getD k 0) (recs.getD k 0) = Y at *
    have n6 : n.length ≤ 6 := by rw [hpop.len]; exact hr.m6
    have y6 : Y.2.length ≤ 6 := by rw [hpop2.len]; exact hr.m6
    refine Aw.seq (Aw.block ?_)
    refine Aw.sm tab_ok (fun d => Nat.beq d 5) [] rfl rfl ?zo ?zk
    case zo =>
      repeat' apply AllP.cons
      all_goals first | exact trivial | exact id | exact rfl | exact fun _ => rfl | exact Nat.le_of_ble_eq_true rfl | exact fun _ => Nat.le_of_ble_eq_true rfl | exact Int.natCast_nonneg _ | exact fun _ => Int.natCast_nonneg _ | exact within_t _ _ _ | exact (within_t _ _ _).un
    case zk =>
    refine Aw.sd tab_ok mixed (fun d => Nat.beq d 5) [(1, [.agg r.c]), (2, [arr n]), (5, [.int (takes.getD k 0)]), (9, [.int (recs.getD k 0)]), (11, [.tup [.int Y.1, arr Y.2]])] rfl (by kernel_rfl) rfl rfl ?zo ?zk
    case zo =>
      repeat' apply AllP.cons
      all_goals first | exact trivial | exact id | exact rfl | exact fun _ => rfl | exact Nat.le_of_ble_eq_true rfl | exact fun _ => Nat.le_of_ble_eq_true rfl | exact Int.natCast_nonneg _ | exact fun _ => Int.natCast_nonneg _ | exact within_t _ _ _ | exact (within_t _ _ _).un | exact arr_ld n6 | exact (show 0 + 6 ≤ ((padL n).map A.int).length by rw [arr_len n6]; omega) | exact ints_getD hlt | exact ints_getD (by omega) | exact hcall | exact arr_len y6
    case zk =>
    have hst0 := arr_st0 y6
    have hst1 := arr_st y6 n6
    refine Aw.keep (n := 18) (cst := [(1, .sl p .any (ints takes)), (2, A.sl q .any (ints recs)), (8, .ref 0 0), (11, .fn (.func 73) [] []), (12, .ref 1 0), (59, .int takes.length), (60, .int k), (15, .int Y.1)]) (v := [(13, grL 3 acc), (16, .ref 17 0)]) (Hl := [(0, .cells r.c), (1, .cells ((padL n).map A.int)), (17, .cells ((padL Y.2).map A.int))]) (fun id h => hE id (by omega))
      ⟨ut, uq, .ref _ _ (by decide), .fn _ _ _ (fun _ h => nomatch h) (fun _ h => nomatch h), .ref _ _ (by decide), .s _, .s _, .s _, trivial⟩ ⟨grL_under _, .ref _ _ (by decide), trivial⟩ ⟨⟨by decide, ur⟩, ⟨by decide, cells_under _⟩, ⟨by decide, cells_under _⟩, trivial⟩
      ⟨⟨.refl _, .refl _, .refl _, .refl _, .refl _, .refl _, .refl _, .refl _, trivial⟩, ⟨.refl _, .refl _, trivial⟩, ⟨rfl, rfl, congrArg (fun x => some (B.cells x)) hst0, trivial⟩, Nat.le_of_ble_eq_true rfl⟩ ?_
    have hz := ints_one acc
    have hal2 : (ints acc).length = k := by rw [ints_len]; exact hal
    have hnext : (acc ++ [Y.1]) ++ playF r Y.2 (takes.drop (k + 1)) (recs.drop (k + 1)) = P := by rw [List.append_assoc]; exact hrun
    have hpop3 : Pop r (600000 + 100000 * ((k + 1 : Nat) : Int)) Y.2 := ⟨hpop2.len, hpop2.pos, by have := hpop2.sum; omega⟩
    have hlast : (acc ++ [Y.1]).length = k + 1 := by simp [hal]
    cases acc with
    | nil =>
      refine Aw.ed tab_ok mixed (fun d => Nat.beq d 5) [(4, [arr Y.2])] rfl (by kernel_rfl) rfl rfl ?zo ?zk
      case zo =>
        repeat' apply AllP.cons
        all_goals first | exact trivial | exact id | exact rfl | exact fun _ => rfl | exact Nat.le_of_ble_eq_true rfl | exact fun _ => Nat.le_of_ble_eq_true rfl | exact Int.natCast_nonneg _ | exact fun _ => Int.natCast_nonneg _ | exact within_t _ _ _ | exact (within_t _ _ _).un | exact arr_ld y6 | exact (show 0 + 6 ≤ ((padL Y.2).map A.int).length by rw [arr_len y6]; omega) | exact arr_len y6 | exact (show 0 + 6 ≤ ((padL n).map A.int).length by rw [arr_len n6]; omega) | exact (show ∀ z ∈ [] ++ [[A.int _]], z.length = 1 from fun z hz => by simp at hz; subst hz; rfl) | exact (by simp only [Ob.of]; decide)
      case zk =>
      refine Aw.em tab_ok (fun d => Nat.beq d 5) [] rfl rfl ?zo ?zk
      case zo =>
        repeat' apply AllP.cons
        all_goals first | exact trivial | exact id | exact rfl | exact fun _ => rfl | exact Nat.le_of_ble_eq_true rfl | exact fun _ => Nat.le_of_ble_eq_true rfl | exact Int.natCast_nonneg _ | exact fun _ => Int.natCast_nonneg _ | exact within_t _ _ _ | exact (within_t _ _ _).un | exact inrk k (by omega)
      case zk =>
      exact ⟨(k + 1, Y.2, [] ++ [Y.1]), ⟨hlt, hlast, hpop3, hnext⟩, by show takes.length - (k + 1) < takes.length - k; omega, ⟨.refl _, .refl _, .refl _, .refl _, .refl _, .refl _, trivial⟩, ⟨.refl _, .refl _, trivial⟩, ⟨rfl, congrArg (fun x => some (B.cells x)) hst1, trivial⟩, Nat.le_of_ble_eq_true rfl⟩
    | cons y ys =>
      refine Aw.ed tab_ok mixed (fun d => Nat.beq d 5) [(4, [arr Y.2])] rfl (by kernel_rfl) rfl rfl ?zo ?zk
      case zo =>
        repeat' apply AllP.cons
        all_goals first | exact trivial | exact id | exact rfl | exact fun _ => rfl | exact Nat.le_of_ble_eq_true rfl | exact fun _ => Nat.le_of_ble_eq_true rfl | exact Int.natCast_nonneg _ | exact fun _ => Int.natCast_nonneg _ | exact within_t _ _ _ | exact (within_t _ _ _).un | exact arr_ld y6 | exact (show 0 + 6 ≤ ((padL Y.2).map A.int).length by rw [arr_len y6]; omega) | exact arr_len y6 | exact (show 0 + 6 ≤ ((padL n).map A.int).length by rw [arr_len n6]; omega) | exact (show ∀ z ∈ [[A.int _]], z.length = 1 from fun z hz => by simp at hz; subst hz; rfl) | exact hz | exact (show ((ints (y :: ys)).length + 1) * 8 ≤ 140737488355328 by omega) | exact (show (ints (y :: ys)).length + 1 ≤ maxLen by unfold maxLen; omega)
      case zk =>
      refine Aw.em tab_ok (fun d => Nat.beq d 5) [] rfl rfl ?zo ?zk
      case zo =>
        repeat' apply AllP.cons
        all_goals first | exact trivial | exact id | exact rfl | exact fun _ => rfl | exact Nat.le_of_ble_eq_true rfl | exact fun _ => Nat.le_of_ble_eq_true rfl | exact Int.natCast_nonneg _ | exact fun _ => Int.natCast_nonneg _ | exact within_t _ _ _ | exact (within_t _ _ _).un | exact inrk k (by omega)
      case zk =>
      exact ⟨(k + 1, Y.2, (y :: ys) ++ [Y.1]), ⟨hlt, hlast, hpop3, hnext⟩, by show takes.length - (k + 1) < takes.length - k; omega, ⟨.refl _, .refl _, .refl _, .refl _, .refl _, .refl _, trivial⟩, ⟨.of_eq (show grL 3 ((y :: ys) ++ [Y.1]) = A.sl false (.own 3) (ints (y :: ys) ++ [[A.int Y.1]]) by simp [grL, ints]), .refl _, trivial⟩, ⟨rfl, congrArg (fun x => some (B.cells x)) hst1, trivial⟩, Nat.le_of_ble_eq_true rfl⟩
  · have hle : k = takes.length := by have := of_decide_eq_false h1; omega
    subst hle
    have hP2 : acc = P := by rw [List.drop_length, show ∀ (n xs : List Int), playF r n [] xs = [] from fun _ xs => by cases xs <;> rfl, List.append_nil] at hrun; exact hrun
    subst hP2
    refine Aw.keep (n := 2) (cst := [(13, grL 3 acc)]) (v := []) (Hl := []) hE2 ⟨grL_under _, trivial⟩ trivial trivial ⟨⟨.refl _, trivial⟩, trivial, trivial, Nat.le_refl _⟩ ?_
    cases acc with
    | nil => simp at hal; omega
    | cons y ys =>
      have hz : ((ints (y :: ys)).length : Int).toNat = (ints (y :: ys)).length := Int.toNat_natCast _
      refine Aw.sm tab_ok (fun d => Nat.beq d 5) [] rfl rfl ?zo ?zk
      case zo =>
        repeat' apply AllP.cons
        all_goals first | exact trivial | exact id | exact rfl | exact fun _ => rfl | exact Nat.le_of_ble_eq_true rfl | exact fun _ => Nat.le_of_ble_eq_true rfl | exact Int.natCast_nonneg _ | exact fun _ => Int.natCast_nonneg _ | exact within_t _ _ _ | exact (within_t _ _ _).un | exact Int.le_refl _
      case zk =>
      exact Aw.ret ⟨_, .cons (.tmp _) (.cons (.tmp _) .nil), by
        show A.tup [A.sl false .exact ((ints (y :: ys)).take ((ints (y :: ys)).length : Int).toNat), A.int 0] = _
        rw [hz, List.take_length]; rfl⟩
end Go.Proofs.Ytdiclbgklegelaa

namespace Go.Proofs.Ytdiclbgklegelaa
open Go Go.AL Go.AL.Q
theorem check_t (f : Fish) (hf : f.Fit) : Ans Try.prog 29 [.agg f.c] (.int f.err) := by
  have h1 := hf.r
  have h2 := hf.m
  have h3 := hf.s
  have lr : ((f.races.map Rce.c).length : Int) = f.many := by simp [Fish.many]
  have lm := ints_lenI f.most
  have ls : ((f.seasons.map NR.c).length : Int) = f.seasons.length := by simp
  have ufc : Under 0 (A.pt f.c) := (Free.pt _ f.free).under
  have usl : Under 0 (A.sl f.sn .any (f.seasons.map NR.c)) := (free_map NR.free _ _ _).under
  refine told Try.func29 rfl rfl (Pure.of tab_ok Try.func29 rfl Try.ntmps29 rfl (all1 (.agg _ f.free)) (all1 (fun _ => rfl)) (by first | exact .s _ | assumption | exact .tup _ (by intro x hx; simp only [List.mem_cons, List.not_mem_nil, or_false] at hx; rcases hx with rfl | rfl | rfl | rfl <;> first | exact .s _ | (simp_all; done))) fun E hE => ?_)
  refine Aw.sm tab_ok mb0 [] rfl rfl ?zo ?zk
  case zo =>
    repeat' apply AllP.cons
    all_goals first | exact trivial | exact id | exact rfl | exact fun _ => rfl | exact Nat.le_of_ble_eq_true rfl | exact fun _ => Nat.le_of_ble_eq_true rfl | exact Int.natCast_nonneg _ | exact fun _ => Int.natCast_nonneg _ | exact within_t _ _ _ | exact (within_t _ _ _).un
  case zk =>
  refine Aw.sm tab_ok mb0 [] rfl rfl ?zo ?zk
  case zo =>
    repeat' apply AllP.cons
    all_goals first | exact trivial | exact id | exact rfl | exact fun _ => rfl | exact Nat.le_of_ble_eq_true rfl | exact fun _ => Nat.le_of_ble_eq_true rfl | exact Int.natCast_nonneg _ | exact fun _ => Int.natCast_nonneg _ | exact within_t _ _ _ | exact (within_t _ _ _).un
  case zk =>
  refine Aw.keep (n := 0) (cst := [(1, .pt f.c), (3, .int f.many)]) (v := []) (Hl := []) hE ⟨ufc, .s _, trivial⟩ trivial trivial ⟨⟨.refl _, .of_eq (congrArg A.int lr.symm), trivial⟩, trivial, trivial, Nat.zero_le _⟩ ?_
  refine Aw.sm tab_ok mb0 [(1, [.bool (wi f.many 1 3)]), (13, [.bool (wi (f.seasons.map NR.c).length 1 6)])] rfl rfl ?zo ?zk
  case zo =>
    repeat' apply AllP.cons
    all_goals first | exact trivial | exact id | exact rfl | exact fun _ => rfl | exact Nat.le_of_ble_eq_true rfl | exact fun _ => Nat.le_of_ble_eq_true rfl | exact Int.natCast_nonneg _ | exact fun _ => Int.natCast_nonneg _ | exact within_t _ _ _ | exact (within_t _ _ _).un
  case zk =>
  have hd : A.bool f.head = A.bool (cond (cond (wi f.many 1 3) (((ints f.most).length : Int) == f.many) false) (wi (f.seasons.map NR.c).length 1 6) false) := by rw [lm, ls]; rfl
  have lra : (List.range f.many).length = f.many := List.length_range
  refine Aw.seq ?_
  refine Aw.sm tab_ok mb0 [] rfl rfl ?zo ?zk
  case zo =>
    repeat' apply AllP.cons
    all_goals first | exact trivial | exact id | exact rfl | exact fun _ => rfl | exact Nat.le_of_ble_eq_true rfl | exact fun _ => Nat.le_of_ble_eq_true rfl | exact Int.natCast_nonneg _ | exact fun _ => Int.natCast_nonneg _ | exact within_t _ _ _ | exact (within_t _ _ _).un
  case zk =>
  refine Aw.block (Aw.rounds 0 hE [(1, .pt f.c), (3, .int f.many)] (fun k : Nat => [(4, .bool (andAll f.head f.raceOk (List.range f.many) k)), (5, .int k)]) (fun _ => []) (fun k => k ≤ f.many) (fun k => f.many - k) 0
    (Nat.zero_le _) ⟨⟨.refl _, .refl _, trivial⟩, ⟨.of_eq (by rw [andAll_zero]; exact hd), .refl _, trivial⟩, trivial, Nat.le_refl _⟩ ⟨ufc, .s _, trivial⟩ (fun _ _ => ⟨.s _, .s _, trivial⟩) (fun _ _ => trivial) fun k hk => ?_)
  refine Aw.seq ?_
  refine Aw.sm tab_ok mb0 [] rfl rfl ?zo ?zk
  case zo =>
    repeat' apply AllP.cons
    all_goals first | exact trivial | exact id | exact rfl | exact fun _ => rfl | exact Nat.le_of_ble_eq_true rfl | exact fun _ => Nat.le_of_ble_eq_true rfl | exact Int.natCast_nonneg _ | exact fun _ => Int.natCast_nonneg _ | exact within_t _ _ _ | exact (within_t _ _ _).un
  case zk =>
  refine Aw.cond rfl (fun h1 => Aw.skip ?_) (fun h1 => ?_)
  · have h1 : cond (andAll f.head f.raceOk (List.range f.many) k) (decide ((k : Int) < f.many)) false = true := h1
    have hb := ac1 h1
    have hlt : k < f.many := by have := of_decide_eq_true (ac2 h1); omega
    have hh : f.head = true := by unfold andAll at hb; exact ac1 hb
    have hm1 : f.most.length = f.many := by unfold Fish.head at hh; have := eq_of_beq (ac2 (ac1 hh)); omega
    have hri : f.race k = f.races[k] := by unfold Fish.race; rw [List.getD_eq_getElem?_getD, List.getElem?_eq_getElem hlt]; rfl
    have hg : (f.races.map Rce.c)[k]? = some (f.race k).c := by rw [get_map hlt, hri]
    have hfit : (f.race k).Fit := by rw [hri]; exact hf.race _ (List.getElem_mem hlt)
    refine Aw.seq (Aw.block ?_)
    refine Aw.em tab_ok mb0 [(3, (f.race k).c), (6, [.bool (f.race k).ok]), (11, [.int (f.most.getD k 0)]), (13, [.bool (wi (f.most.getD k 0) 0 100)])] rfl rfl ?zo ?zk
    case zo =>
      repeat' apply AllP.cons
      all_goals first | exact trivial | exact id | exact rfl | exact fun _ => rfl | exact Nat.le_of_ble_eq_true rfl | exact fun _ => Nat.le_of_ble_eq_true rfl | exact Int.natCast_nonneg _ | exact fun _ => Int.natCast_nonneg _ | exact within_t _ _ _ | exact (within_t _ _ _).un | exact hg | exact isRace_t _ hfit | exact fun _ => ints_getD (by omega)
    case zk =>
    refine Aw.em tab_ok mb0 [] rfl rfl ?zo ?zk
    case zo =>
      repeat' apply AllP.cons
      all_goals first | exact trivial | exact id | exact rfl | exact fun _ => rfl | exact Nat.le_of_ble_eq_true rfl | exact fun _ => Nat.le_of_ble_eq_true rfl | exact Int.natCast_nonneg _ | exact fun _ => Int.natCast_nonneg _ | exact within_t _ _ _ | exact (within_t _ _ _).un | exact inrk k (by omega)
    case zk =>
    have e : andAll f.head f.raceOk (List.range f.many) (k + 1) = f.raceOk k := by
      rw [andAll_succ (by rw [lra]; exact hlt) hb, List.getElem_range]
    exact ⟨k + 1, hlt, by omega, ⟨.refl _, .refl _, trivial⟩, ⟨.of_eq (congrArg A.bool e), .refl _, trivial⟩, trivial, Nat.zero_le _⟩
  have h1 : cond (andAll f.head f.raceOk (List.range f.many) k) (decide ((k : Int) < f.many)) false = false := h1
  have hend : andAll f.head f.raceOk (List.range f.many) k = f.b1 := (andAll_end (by
    cases e : andAll f.head f.raceOk (List.range f.many) k with
    | false => exact .inl rfl
    | true => rw [e] at h1; have := of_decide_eq_false h1; exact .inr (by rw [lra]; omega)) (by rw [lra]; exact hk)).trans rfl
  rw [hend]
  refine Aw.exit2 ?_
  have hb1 : f.b1 = true → 1 ≤ f.many := fun h => by
    unfold Fish.b1 at h
    have hh := ac1 h
    unfold Fish.head at hh
    have a1 := wi_iff.1 (ac1 (ac1 hh)); omega
  have hchk := check_eq f
  generalize f.b1 = B1 at *
  clear hd hend h1
  refine Aw.keep (n := 0) (cst := [(1, .pt f.c), (3, .int f.many)]) (v := [(4, .bool B1)]) (Hl := []) hE ⟨ufc, .s _, trivial⟩ ⟨.s _, trivial⟩ trivial ⟨⟨.refl _, .refl _, trivial⟩, ⟨.refl _, trivial⟩, trivial, Nat.zero_le _⟩ ?_
  refine Aw.seq ?_
  refine Aw.sm tab_ok mb0 [] rfl rfl ?zo ?zk
  case zo =>
    repeat' apply AllP.cons
    all_goals first | exact trivial | exact id | exact rfl | exact fun _ => rfl | exact Nat.le_of_ble_eq_true rfl | exact fun _ => Nat.le_of_ble_eq_true rfl | exact Int.natCast_nonneg _ | exact fun _ => Int.natCast_nonneg _ | exact within_t _ _ _ | exact (within_t _ _ _).un
  case zk =>
  refine Aw.block (Aw.rounds 0 hE [(1, .pt f.c), (3, .int f.many), (54, .sl f.sn .any (f.seasons.map NR.c)), (55, .int (f.seasons.map NR.c).length)] (fun k : Nat => [(4, .bool (andAll B1 (seasonOk' f.many f.years) f.seasons k)), (56, .int k)]) (fun _ => []) (fun k => k ≤ f.seasons.length) (fun k => f.seasons.length - k) 0
    (Nat.zero_le _) ⟨⟨.refl _, .refl _, .refl _, .refl _, trivial⟩, ⟨.of_eq (by rw [andAll_zero]; rfl), .refl _, trivial⟩, trivial, Nat.zero_le _⟩ ⟨ufc, .s _, usl, .s _, trivial⟩ (fun _ _ => ⟨.s _, .s _, trivial⟩) (fun _ _ => trivial) fun k hk => ?_)
  refine Aw.sm tab_ok mb0 [] rfl rfl ?zo ?zk
  case zo =>
    repeat' apply AllP.cons
    all_goals first | exact trivial | exact id | exact rfl | exact fun _ => rfl | exact Nat.le_of_ble_eq_true rfl | exact fun _ => Nat.le_of_ble_eq_true rfl | exact Int.natCast_nonneg _ | exact fun _ => Int.natCast_nonneg _ | exact within_t _ _ _ | exact (within_t _ _ _).un
  case zk =>
  refine Aw.seq (Aw.cond rfl (fun h1 => Aw.skip1 ?_) (fun h1 => Aw.exit2 ?_))
  · have hlt : k < f.seasons.length := by have := of_decide_eq_true h1; omega
    have hstep := andAll_step (b := B1) (p := seasonOk' f.many f.years) hlt
    have hgk : (f.seasons.map NR.c)[k]? = some f.seasons[k].c := get_map hlt
    have h0s : 0 < f.seasons.length := by omega
    have hg0 : (f.seasons.map NR.c)[Int.toNat 0]? = some f.seasons[0].c := get_map h0s
    have hfs := hf.sea f.seasons[k] (List.getElem_mem hlt)
    have hfirst : andAll B1 (seasonOk' f.many f.years) f.seasons k = true → ((f.seasons[k].l.length : Int) == f.many) = true → f.seasons[0].l.length = f.many ∧ 1 ≤ f.many := fun ha hb => by
      have hB : B1 = true := by unfold andAll at ha; exact ac1 ha
      refine ⟨?_, hb1 hB⟩
      by_cases hk0 : k = 0
      · subst hk0; have := eq_of_beq hb; omega
      · unfold andAll at ha
        have := List.all_eq_true.1 (ac2 ha) f.seasons[0] (by rw [List.mem_take_iff_getElem]; exact ⟨0, by omega, rfl⟩)
        have := eq_of_beq (ac1 this); omega
    have hyears : 1 ≤ f.seasons[0].l.length → ∃ l0, (f.seasons[0].l.map NL.c)[Int.toNat 0]? = some (NL.c l0) ∧ l0.l.length = f.years := fun h => by
      refine ⟨f.seasons[0].l[0], get_map h, ?_⟩
      unfold Fish.years Fish.recs
      have e0 : f.seasons.getD 0 ⟨false, []⟩ = f.seasons[0] := by simp [List.getD_eq_getElem?_getD, h0s]
      rw [e0, List.getD_eq_getElem?_getD, List.getElem?_eq_getElem h]; rfl
    generalize f.seasons[k] = s at *
    generalize f.seasons[0] = s0 at *
    generalize andAll B1 (seasonOk' f.many f.years) f.seasons k = Bk at *
    have lsl : ((s.l.map NL.c).length : Int) = s.l.length := by simp
    have us2 : Under 0 (A.sl s.n .any (s.l.map NL.c)) := (free_map NL.free _ _ _).under
    refine Aw.seq (Aw.block ?_)
    refine Aw.sm tab_ok mb0 [(0, s.c)] rfl rfl ?zo ?zk
    case zo =>
      repeat' apply AllP.cons
      all_goals first | exact trivial | exact id | exact rfl | exact fun _ => rfl | exact Nat.le_of_ble_eq_true rfl | exact fun _ => Nat.le_of_ble_eq_true rfl | exact Int.natCast_nonneg _ | exact fun _ => Int.natCast_nonneg _ | exact within_t _ _ _ | exact (within_t _ _ _).un | exact hgk
    case zk =>
    refine Aw.sm tab_ok mb0 [] rfl rfl ?zo ?zk
    case zo =>
      repeat' apply AllP.cons
      all_goals first | exact trivial | exact id | exact rfl | exact fun _ => rfl | exact Nat.le_of_ble_eq_true rfl | exact fun _ => Nat.le_of_ble_eq_true rfl | exact Int.natCast_nonneg _ | exact fun _ => Int.natCast_nonneg _ | exact within_t _ _ _ | exact (within_t _ _ _).un
    case zk =>
    refine Aw.sm tab_ok mb0 [] rfl rfl ?zo ?zk
    case zo =>
      repeat' apply AllP.cons
      all_goals first | exact trivial | exact id | exact rfl | exact fun _ => rfl | exact Nat.le_of_ble_eq_true rfl | exact fun _ => Nat.le_of_ble_eq_true rfl | exact Int.natCast_nonneg _ | exact fun _ => Int.natCast_nonneg _ | exact within_t _ _ _ | exact (within_t _ _ _).un
    case zk =>
    have hw : A.bool (cond Bk ((s.l.length : Int) == f.many) false) = A.bool (cond Bk (((s.l.map NL.c).length : Int) == f.many) false) := by rw [lsl]
    refine Aw.block (Aw.rounds 0 hE [(1, .pt f.c), (3, .int f.many), (54, .sl f.sn .any (f.seasons.map NR.c)), (55, .int (f.seasons.map NR.c).length), (56, .int k), (67, .sl s.n .any (s.l.map NL.c)), (68, .int (s.l.map NL.c).length)] (fun j : Nat => [(4, .bool (andAll (cond Bk ((s.l.length : Int) == f.many) false) (recOk' f.years) s.l j)), (69, .int j)]) (fun _ => []) (fun j => j ≤ s.l.length) (fun j => s.l.length - j) 0
      (Nat.zero_le _) ⟨⟨.refl _, .refl _, .refl _, .refl _, .refl _, .refl _, .refl _, trivial⟩, ⟨.of_eq (by rw [andAll_zero]; exact hw), .refl _, trivial⟩, trivial, Nat.zero_le _⟩ ⟨ufc, .s _, usl, .s _, .s _, us2, .s _, trivial⟩ (fun _ _ => ⟨.s _, .s _, trivial⟩) (fun _ _ => trivial) fun j hj => ?_)
    refine Aw.sm tab_ok mb0 [] rfl rfl ?zo ?zk
    case zo =>
      repeat' apply AllP.cons
      all_goals first | exact trivial | exact id | exact rfl | exact fun _ => rfl | exact Nat.le_of_ble_eq_true rfl | exact fun _ => Nat.le_of_ble_eq_true rfl | exact Int.natCast_nonneg _ | exact fun _ => Int.natCast_nonneg _ | exact within_t _ _ _ | exact (within_t _ _ _).un
    case zk =>
    refine Aw.seq (Aw.cond rfl (fun h2 => Aw.skip1 ?_) (fun h2 => Aw.exit2 ?_))
    · have hjl : j < s.l.length := by have := of_decide_eq_true h2; omega
      have hstep2 := andAll_step (b := cond Bk ((s.l.length : Int) == f.many) false) (p := recOk' f.years) hjl
      have hgj : (s.l.map NL.c)[j]? = some s.l[j].c := get_map hjl
      have hfl : nlFit s.l[j] := hfs.2 _ (List.getElem_mem hjl)
      generalize s.l[j] = l at *
      have hbj' : andAll (cond Bk ((s.l.length : Int) == f.many) false) (recOk' f.years) s.l j = true → ∃ l0, (s0.l.map NL.c)[Int.toNat 0]? = some (NL.c l0) ∧ l0.l.length = f.years := fun h => by
        unfold andAll at h
        have := hfirst (ac1 (ac1 h)) (ac2 (ac1 h))
        exact hyears (by omega)
      generalize andAll (cond Bk ((s.l.length : Int) == f.many) false) (recOk' f.years) s.l j = Bj at *
      have lll := ints_lenI l.l
      have ul : Under 0 (A.sl l.n .any (ints l.l)) := (free_ints _ _ _).under
      refine Aw.seq (Aw.block ?_)
      refine Aw.sm tab_ok mb0 [(0, l.c)] rfl rfl ?zo ?zk
      case zo =>
        repeat' apply AllP.cons
        all_goals first | exact trivial | exact id | exact rfl | exact fun _ => rfl | exact Nat.le_of_ble_eq_true rfl | exact fun _ => Nat.le_of_ble_eq_true rfl | exact Int.natCast_nonneg _ | exact fun _ => Int.natCast_nonneg _ | exact within_t _ _ _ | exact (within_t _ _ _).un | exact hgj
      case zk =>
      obtain ⟨l0, hl0a, hl0b⟩ : ∃ l0 : NL, (Bj = true → (s0.l.map NL.c)[Int.toNat 0]? = some (NL.c l0)) ∧ (Bj = true → l0.l.length = f.years) := by
        cases Bj with
        | false => exact ⟨⟨false, []⟩, fun h => (by cases h), fun h => (by cases h)⟩
        | true => obtain ⟨l0, a, b⟩ := hbj' rfl; exact ⟨l0, fun _ => a, fun _ => b⟩
      refine Aw.sm tab_ok mb0 [(4, [.bool (wi (ints l.l).length 1 10)]), (11, s0.c), (13, l0.c)] rfl rfl ?zo ?zk
      case zo =>
        repeat' apply AllP.cons
        all_goals first | exact trivial | exact id | exact rfl | exact fun _ => rfl | exact Nat.le_of_ble_eq_true rfl | exact fun _ => Nat.le_of_ble_eq_true rfl | exact Int.natCast_nonneg _ | exact fun _ => Int.natCast_nonneg _ | exact within_t _ _ _ | exact (within_t _ _ _).un | exact fun h => hl0a (ac1 (gq_of h)) | exact fun _ => hg0
      case zk =>
      have hv : cond (cond Bj (wi l.l.length 1 10) false) ((l.l.length : Int) == f.years) false = cond (cond Bj (wi (ints l.l).length 1 10) false) (((ints l.l).length : Int) == ((ints l0.l).length : Int)) false := by
        rw [lll, ints_lenI l0.l]
        cases Bj with
        | false => rfl
        | true => rw [hl0b rfl]
      refine Aw.sm tab_ok mb0 [] rfl rfl ?zo ?zk
      case zo =>
        repeat' apply AllP.cons
        all_goals first | exact trivial | exact id | exact rfl | exact fun _ => rfl | exact Nat.le_of_ble_eq_true rfl | exact fun _ => Nat.le_of_ble_eq_true rfl | exact Int.natCast_nonneg _ | exact fun _ => Int.natCast_nonneg _ | exact within_t _ _ _ | exact (within_t _ _ _).un
      case zk =>
      refine Aw.block (Aw.rounds 0 hE [(1, .pt f.c), (3, .int f.many), (54, .sl f.sn .any (f.seasons.map NR.c)), (55, .int (f.seasons.map NR.c).length), (56, .int k), (67, .sl s.n .any (s.l.map NL.c)), (68, .int (s.l.map NL.c).length), (69, .int j), (91, .sl l.n .any (ints l.l)), (92, .int (ints l.l).length)] (fun i : Nat => [(4, .bool (andAll (cond (cond Bj (wi l.l.length 1 10) false) ((l.l.length : Int) == f.years) false) (fun n => wi n 0 100000) l.l i)), (93, .int i)]) (fun _ => []) (fun i => i ≤ l.l.length) (fun i => l.l.length - i) 0
        (Nat.zero_le _) ⟨⟨.refl _, .refl _, .refl _, .refl _, .refl _, .refl _, .refl _, .refl _, .refl _, .refl _, trivial⟩, ⟨.of_eq (by rw [andAll_zero]; exact congrArg A.bool hv), .refl _, trivial⟩, trivial, Nat.zero_le _⟩ ⟨ufc, .s _, usl, .s _, .s _, us2, .s _, .s _, ul, .s _, trivial⟩ (fun _ _ => ⟨.s _, .s _, trivial⟩) (fun _ _ => trivial) fun i hi => ?_)
      refine Aw.sm tab_ok mb0 [] rfl rfl ?zo ?zk
      case zo =>
        repeat' apply AllP.cons
        all_goals first | exact trivial | exact id | exact rfl | exact fun _ => rfl | exact Nat.le_of_ble_eq_true rfl | exact fun _ => Nat.le_of_ble_eq_true rfl | exact Int.natCast_nonneg _ | exact fun _ => Int.natCast_nonneg _ | exact within_t _ _ _ | exact (within_t _ _ _).un
      case zk =>
      refine Aw.seq (Aw.cond rfl (fun h3 => Aw.skip1 ?_) (fun h3 => Aw.exit2 ?_))
      · have hil : i < l.l.length := by have := of_decide_eq_true h3; omega
        have hstep3 := andAll_step (b := cond (cond Bj (wi l.l.length 1 10) false) ((l.l.length : Int) == f.years) false) (p := fun n => wi n 0 100000) hil
        refine Aw.seq (Aw.block ?_)
        refine Aw.sm tab_ok mb0 [(0, [.int l.l[i]])] rfl rfl ?zo ?zk
        case zo =>
          repeat' apply AllP.cons
          all_goals first | exact trivial | exact id | exact rfl | exact fun _ => rfl | exact Nat.le_of_ble_eq_true rfl | exact fun _ => Nat.le_of_ble_eq_true rfl | exact Int.natCast_nonneg _ | exact fun _ => Int.natCast_nonneg _ | exact within_t _ _ _ | exact (within_t _ _ _).un | exact ints_get hil
        case zk =>
        refine Aw.em tab_ok mb0 [(3, [.bool (wi l.l[i] 0 100000)])] rfl rfl ?zo ?zk
        case zo =>
          repeat' apply AllP.cons
          all_goals first | exact trivial | exact id | exact rfl | exact fun _ => rfl | exact Nat.le_of_ble_eq_true rfl | exact fun _ => Nat.le_of_ble_eq_true rfl | exact Int.natCast_nonneg _ | exact fun _ => Int.natCast_nonneg _ | exact within_t _ _ _ | exact (within_t _ _ _).un
        case zk =>
        have hfl2 : (l.l.length : Int) ≤ 9223372036854775806 := hfl
        refine Aw.em tab_ok mb0 [] rfl rfl ?zo ?zk
        case zo =>
          repeat' apply AllP.cons
          all_goals first | exact trivial | exact id | exact rfl | exact fun _ => rfl | exact Nat.le_of_ble_eq_true rfl | exact fun _ => Nat.le_of_ble_eq_true rfl | exact Int.natCast_nonneg _ | exact fun _ => Int.natCast_nonneg _ | exact within_t _ _ _ | exact (within_t _ _ _).un | exact inrk i (by omega)
        case zk =>
        exact ⟨i + 1, hil, by omega, ⟨.refl _, .refl _, .refl _, .refl _, .refl _, .refl _, .refl _, .refl _, .refl _, .refl _, trivial⟩, ⟨.of_eq (congrArg A.bool hstep3), .refl _, trivial⟩, trivial, Nat.zero_le _⟩
      have hle : i = l.l.length := by have := of_decide_eq_false h3; omega
      subst hle
      have hjl2 := hfs.1
      refine Aw.em tab_ok mb0 [] rfl rfl ?zo ?zk
      case zo =>
        repeat' apply AllP.cons
        all_goals first | exact trivial | exact id | exact rfl | exact fun _ => rfl | exact Nat.le_of_ble_eq_true rfl | exact fun _ => Nat.le_of_ble_eq_true rfl | exact Int.natCast_nonneg _ | exact fun _ => Int.natCast_nonneg _ | exact within_t _ _ _ | exact (within_t _ _ _).un | exact inrk j (by omega)
      case zk =>
      exact ⟨j + 1, hjl, by omega, ⟨.refl _, .refl _, .refl _, .refl _, .refl _, .refl _, .refl _, trivial⟩, ⟨.of_eq (congrArg A.bool (by rw [hstep2, andAll_full]; unfold recOk'; rw [← cond_assoc, ← cond_assoc])), .refl _, trivial⟩, trivial, Nat.zero_le _⟩
    have hle : j = s.l.length := by have := of_decide_eq_false h2; omega
    subst hle
    refine Aw.em tab_ok mb0 [] rfl rfl ?zo ?zk
    case zo =>
      repeat' apply AllP.cons
      all_goals first | exact trivial | exact id | exact rfl | exact fun _ => rfl | exact Nat.le_of_ble_eq_true rfl | exact fun _ => Nat.le_of_ble_eq_true rfl | exact Int.natCast_nonneg _ | exact fun _ => Int.natCast_nonneg _ | exact within_t _ _ _ | exact (within_t _ _ _).un | exact inrk k (by omega)
    case zk =>
    exact ⟨k + 1, hlt, by omega, ⟨.refl _, .refl _, .refl _, .refl _, trivial⟩, ⟨.of_eq (congrArg A.bool (by rw [hstep, andAll_full]; unfold seasonOk'; rw [← cond_assoc])), .refl _, trivial⟩, trivial, Nat.zero_le _⟩
  have hle : k = f.seasons.length := by have := of_decide_eq_false h1; omega
  subst hle
  rw [andAll_full, hchk]
  refine Aw.seq ?_
  refine Aw.sm tab_ok mb0 [] rfl rfl ?zo ?zk
  case zo =>
    repeat' apply AllP.cons
    all_goals first | exact trivial | exact id | exact rfl | exact fun _ => rfl | exact Nat.le_of_ble_eq_true rfl | exact fun _ => Nat.le_of_ble_eq_true rfl | exact Int.natCast_nonneg _ | exact fun _ => Int.natCast_nonneg _ | exact within_t _ _ _ | exact (within_t _ _ _).un
  case zk =>
  refine Aw.cond rfl (fun h1 => ?_) (fun h1 => Aw.skip ?_)
  · have hno : f.ok = false := by simpa using h1
    refine Aw.sm tab_ok mb0 [] rfl rfl ?zo ?zk
    case zo =>
      repeat' apply AllP.cons
      all_goals first | exact trivial | exact id | exact rfl | exact fun _ => rfl | exact Nat.le_of_ble_eq_true rfl | exact fun _ => Nat.le_of_ble_eq_true rfl | exact Int.natCast_nonneg _ | exact fun _ => Int.natCast_nonneg _ | exact within_t _ _ _ | exact (within_t _ _ _).un
    case zk =>
    exact Aw.ret ⟨_, .cons (.tmp _) .nil, by unfold Fish.err; rw [hno]; rfl⟩
  · have hok : f.ok = true := by simpa using h1
    refine Aw.sm tab_ok mb0 [] rfl rfl ?zo ?zk
    case zo =>
      repeat' apply AllP.cons
      all_goals first | exact trivial | exact id | exact rfl | exact fun _ => rfl | exact Nat.le_of_ble_eq_true rfl | exact fun _ => Nat.le_of_ble_eq_true rfl | exact Int.natCast_nonneg _ | exact fun _ => Int.natCast_nonneg _ | exact within_t _ _ _ | exact (within_t _ _ _).un
    case zk =>
    exact Aw.ret ⟨_, .cons (.tmp _) .nil, by unfold Fish.err; rw [hok]; rfl⟩
end Go.Proofs.Ytdiclbgklegelaa

namespace Go.Proofs.Ytdiclbgklegelaa
open Go Go.AL Go.AL.Q
set_option maxRecDepth 100000 in
theorem eq3 (a b : Int) : pureRun Try.prog (Op.equalIn 9999 3 (.int .i64 a) (.int .i64 b)) = some (a == b) := by rfl
def ia (l : List Int) : Value := .agg (l.map (Value.int .i64)).toArray
set_option maxRecDepth 100000 in
theorem eqA (t : Nat) (h1 : pureRun Try.prog (underlying t) = some (.array 6 3)) (l m : List Int) (hl : l.length = 6) (hm : m.length = 6) : pureRun Try.prog (Op.equal t (ia l) (ia m)) = some (l == m) := by
  have h4 : pureRun Try.prog (sizeOf 3) = some 1 := rfl
  have h5 : pureRun Try.prog (isAgg 3) = some false := rfl
  have pp : ∀ {α : Type} (x : α), pureRun Try.prog (pure x) = some x := fun x => rfl
  have pt : ∀ (xs : Array Value) (i : Nat) (x : Value), xs[i]? = some x → pureRun Try.prog (part 3 xs i) = some x := fun xs i x h => by
    simp [part, pureRun_bind, h5, h, pp]
  rw [Op.equal, Op.maxDepth, show (10000 : Nat) = 9999 + 1 from rfl, Op.equalIn, pureRun_bind, h1]
  match l, m, hl, hm with
  | [a0, a1, a2, a3, a4, a5], [b0, b1, b2, b3, b4, b5], _, _ =>
  simp only [Option.bind_some, ia, pureRun_bind, h4, List.map]
  simp only [Std.Legacy.Range.forIn_eq_forIn_range', Std.Legacy.Range.size]
  have pts : ∀ (c0 c1 c2 c3 c4 c5 : Int) (i : Nat) (x : Value), [Value.int .i64 c0, Value.int .i64 c1, .int .i64 c2, .int .i64 c3, .int .i64 c4, .int .i64 c5][i]? = some x →
    pureRun Try.prog (part 3 (List.toArray [Value.int .i64 c0, Value.int .i64 c1, .int .i64 c2, .int .i64 c3, .int .i64 c4, .int .i64 c5]) i) = some x := fun c0 c1 c2 c3 c4 c5 i x h => pt _ _ _ (by simpa using h)
  have r8 : List.range' 0 ((6 - 0 + 1 - 1) / 1) = [0, 1, 2, 3, 4, 5] := rfl
  rw [r8]
  by_cases e0 : a0 = b0
  · subst e0
    by_cases e1 : a1 = b1
    · subst e1
      by_cases e2 : a2 = b2
      · subst e2
        by_cases e3 : a3 = b3
        · subst e3
          by_cases e4 : a4 = b4
          · subst e4
            by_cases e5 : a5 = b5
            · subst e5
              simp [pureRun_bind, pts, eq3, pp]
            · simp [pureRun_bind, pts, eq3, pp, e5]
          · simp [pureRun_bind, pts, eq3, pp, e4]
        · simp [pureRun_bind, pts, eq3, pp, e3]
      · simp [pureRun_bind, pts, eq3, pp, e2]
    · simp [pureRun_bind, pts, eq3, pp, e1]
  · simp [pureRun_bind, pts, eq3, pp, e0]
theorem conc_ints : ∀ l : List Int, concA (.agg (l.map A.int)) = some (ia l) := by
  have h : ∀ l : List Int, concCells (l.map A.int) = some (l.map (Value.int .i64)) := fun l => by
    induction l with
    | nil => rfl
    | cons a l ih => simp only [List.map_cons, concCells, concA, ih]
  intro l
  simp only [concA, h]; rfl
set_option maxRecDepth 100000 in
theorem und110 : pureRun Try.prog (underlying 110) = some (.array 6 3) := by
  have h : pureRun Try.prog (underlying 110) = Try.prog.underlying 110 := rfl
  rw [h, Try.underlying110]
theorem eg110 : Try.prog.eqGuardType Try.prog.depth 110 = false := by kernel_rfl
set_option maxRecDepth 100000 in
theorem eqArr (x y : Operand) {l m : List Int} (hl : l.length = 6) (hm : m.length = 6) : EqIs tab .eql 110 x y (.agg (l.map A.int)) (.agg (m.map A.int)) (l == m) := by
  refine ⟨_, _, conc_ints l, conc_ints m, (congrFun (congrFun (congrFun (congrFun (congrFun (congrFun (show tab.eqv = pureEq Try.prog from rfl) _) _) _) _) _) _).trans ?_⟩
  show pureEq Try.prog .eql 110 x y (ia l) (ia m) = _
  have h2 := eqA 110 und110 l m hl hm
  have hp : pureRun Try.prog program = some Try.prog := rfl
  have pp : ∀ {α : Type} (x : α), pureRun Try.prog (pure x) = some x := fun x => rfl
  have e1 : pureRun Try.prog (eqGuard .eql 110 x y (ia l) (ia m)) = some () := by
    simp [eqGuard, ia, pureRun_bind, hp, eg110, pp]
  have e2 : pureRun Try.prog (binOp .eql 110 (ia l) (ia m)) = some (.bool (l == m)) := by
    have : binOp .eql 110 (ia l) (ia m) = (Op.equal 110 (ia l) (ia m) >>= fun b => pure (.bool b)) := rfl
    rw [this, pureRun_bind, h2]; rfl
  unfold pureEq
  rw [pureRun_bind, e1]
  exact e2
theorem ne_t (n x : Int) : Ans Try.prog 95 [.int n, .pt [.int x]] (.bool (n != x)) := by
  refine told Try.func95 rfl rfl (Pure.of tab_ok Try.func95 rfl Try.ntmps95 rfl (allC (.s _) (all1 (.pt _ (all1 (.s _))))) (allC (fun _ => rfl) (all1 (fun _ => rfl))) (by first | exact .s _ | assumption | exact .tup _ (by intro x hx; simp only [List.mem_cons, List.not_mem_nil, or_false] at hx; rcases hx with rfl | rfl | rfl | rfl <;> first | exact .s _ | (simp_all; done))) fun E hE => ?_)
  refine Aw.sm tab_ok mb0 [] rfl rfl ?zo ?zk
  case zo =>
    repeat' apply AllP.cons
    all_goals first | exact trivial | exact id | exact rfl | exact fun _ => rfl | exact Nat.le_of_ble_eq_true rfl | exact fun _ => Nat.le_of_ble_eq_true rfl | exact Int.natCast_nonneg _ | exact fun _ => Int.natCast_nonneg _ | exact within_t _ _ _ | exact (within_t _ _ _).un
  case zk =>
  refine Aw.sm tab_ok mb0 [] rfl rfl ?zo ?zk
  case zo =>
    repeat' apply AllP.cons
    all_goals first | exact trivial | exact id | exact rfl | exact fun _ => rfl | exact Nat.le_of_ble_eq_true rfl | exact fun _ => Nat.le_of_ble_eq_true rfl | exact Int.natCast_nonneg _ | exact fun _ => Int.natCast_nonneg _ | exact within_t _ _ _ | exact (within_t _ _ _).un
  case zk =>
  exact Aw.ret ⟨_, .cons (.tmp _) .nil, rfl⟩
theorem index_t (b : Bool) (c : Cap) (l : List Int) (x : Int) (hl : (l.length : Int) ≤ 9223372036854775806) (hc : ∀ u, spareOf (.sl b c (ints l)) u = none) : Ans Try.prog 97 [.sl b c (ints l), .fn (.func 95) [] [.pt [.int x]]] (.int (idxF (fun n => n != x) 0 l)) := by
  have hfn : Free (.fn (.func 95) [] [.pt [.int x]]) := .fn _ _ _ allN (all1 (.pt _ (all1 (.s _))))
  generalize hR : idxF (fun n => n != x) 0 l = R
  refine told Try.func97 rfl rfl (Pure.of tab_ok Try.func97 rfl Try.ntmps97 rfl (allC (free_ints _ _ _) (all1 hfn)) (allC hc (all1 fun _ => rfl)) (.s _) fun E hE => ?_)
  refine Aw.keep (n := 0) (cst := [(1, .fn (.func 95) [] [.pt [.int x]])]) (v := [(0, .sl b .any (ints l))]) (Hl := []) hE ⟨hfn.under, trivial⟩ ⟨(free_ints _ _ _).under, trivial⟩ trivial ⟨⟨.refl _, trivial⟩, ⟨.any _ _ _, trivial⟩, trivial, Nat.le_refl _⟩ ?_
  have lz := ints_lenI l
  refine Aw.sm tab_ok mb0 [] rfl rfl ?zo ?zk
  case zo =>
    repeat' apply AllP.cons
    all_goals first | exact trivial | exact id | exact rfl | exact fun _ => rfl | exact Nat.le_of_ble_eq_true rfl | exact fun _ => Nat.le_of_ble_eq_true rfl | exact Int.natCast_nonneg _ | exact fun _ => Int.natCast_nonneg _ | exact within_t _ _ _ | exact (within_t _ _ _).un
  case zk =>
  refine Aw.seq ?_
  refine Aw.sm tab_ok mb0 [] rfl rfl ?zo ?zk
  case zo =>
    repeat' apply AllP.cons
    all_goals first | exact trivial | exact id | exact rfl | exact fun _ => rfl | exact Nat.le_of_ble_eq_true rfl | exact fun _ => Nat.le_of_ble_eq_true rfl | exact Int.natCast_nonneg _ | exact fun _ => Int.natCast_nonneg _ | exact within_t _ _ _ | exact (within_t _ _ _).un
  case zk =>
  refine Aw.block (Aw.rounds 0 hE [(0, .sl b .any (ints l)), (1, .fn (.func 95) [] [.pt [.int x]]), (7, .int (ints l).length)] (fun k : Nat => [(8, .int k)]) (fun _ => []) (fun k => k ≤ l.length ∧ idxF (fun n => n != x) k (l.drop k) = R) (fun k => l.length - k) 0
    ⟨Nat.zero_le _, hR⟩ ⟨⟨.refl _, .refl _, .refl _, trivial⟩, ⟨.refl _, trivial⟩, trivial, Nat.le_refl _⟩ ⟨(free_ints _ _ _).under, hfn.under, .s _, trivial⟩ (fun _ _ => ⟨.s _, trivial⟩) (fun _ _ => trivial) fun k hk => ?_)
  obtain ⟨hk, hrun⟩ := hk
  refine Aw.sm tab_ok mb0 [] rfl rfl ?zo ?zk
  case zo =>
    repeat' apply AllP.cons
    all_goals first | exact trivial | exact id | exact rfl | exact fun _ => rfl | exact Nat.le_of_ble_eq_true rfl | exact fun _ => Nat.le_of_ble_eq_true rfl | exact Int.natCast_nonneg _ | exact fun _ => Int.natCast_nonneg _ | exact within_t _ _ _ | exact (within_t _ _ _).un
  case zk =>
  refine Aw.seq (Aw.cond rfl (fun h1 => Aw.skip1 ?_) (fun h1 => Aw.exit2 ?_))
  · have hlt : k < l.length := by have := of_decide_eq_true h1; omega
    rw [List.drop_eq_getElem_cons hlt, idxF] at hrun
    refine Aw.seq (Aw.block ?_)
    refine Aw.sm tab_ok mb0 [] rfl rfl ?zo ?zk
    case zo =>
      repeat' apply AllP.cons
      all_goals first | exact trivial | exact id | exact rfl | exact fun _ => rfl | exact Nat.le_of_ble_eq_true rfl | exact fun _ => Nat.le_of_ble_eq_true rfl | exact Int.natCast_nonneg _ | exact fun _ => Int.natCast_nonneg _ | exact within_t _ _ _ | exact (within_t _ _ _).un
    case zk =>
    refine Aw.sm tab_ok mb0 [(3, [.int l[k]]), (5, [.bool (l[k] != x)])] rfl rfl ?zo ?zk
    case zo =>
      repeat' apply AllP.cons
      all_goals first | exact trivial | exact id | exact rfl | exact fun _ => rfl | exact Nat.le_of_ble_eq_true rfl | exact fun _ => Nat.le_of_ble_eq_true rfl | exact Int.natCast_nonneg _ | exact fun _ => Int.natCast_nonneg _ | exact within_t _ _ _ | exact (within_t _ _ _).un | exact ints_get hlt | exact ne_t _ _
    case zk =>
    refine Aw.cond rfl (fun h2 => ?_) (fun h2 => Aw.skip ?_)
    · have h2' : (l[k] != x) = true := h2
      rw [if_pos h2'] at hrun
      refine Aw.sm tab_ok mb0 [] rfl rfl ?zo ?zk
      case zo =>
        repeat' apply AllP.cons
        all_goals first | exact trivial | exact id | exact rfl | exact fun _ => rfl | exact Nat.le_of_ble_eq_true rfl | exact fun _ => Nat.le_of_ble_eq_true rfl | exact Int.natCast_nonneg _ | exact fun _ => Int.natCast_nonneg _ | exact within_t _ _ _ | exact (within_t _ _ _).un
      case zk =>
      exact Aw.ret ⟨_, .cons (.tmp _) .nil, congrArg A.int hrun⟩
    · have h2' : (l[k] != x) = false := h2
      rw [h2'] at hrun
      refine Aw.em tab_ok mb0 [] rfl rfl ?zo ?zk
      case zo =>
        repeat' apply AllP.cons
        all_goals first | exact trivial | exact id | exact rfl | exact fun _ => rfl | exact Nat.le_of_ble_eq_true rfl | exact fun _ => Nat.le_of_ble_eq_true rfl | exact Int.natCast_nonneg _ | exact fun _ => Int.natCast_nonneg _ | exact within_t _ _ _ | exact (within_t _ _ _).un | exact inrk k (by omega)
      case zk =>
      exact ⟨k + 1, ⟨hlt, hrun⟩, by omega, ⟨.refl _, .refl _, .refl _, trivial⟩, ⟨.refl _, trivial⟩, trivial, Nat.zero_le _⟩
  · have hle : k = l.length := by have := of_decide_eq_false h1; omega
    subst hle
    rw [List.drop_length, idxF] at hrun
    refine Aw.sm tab_ok mb0 [] rfl rfl ?zo ?zk
    case zo =>
      repeat' apply AllP.cons
      all_goals first | exact trivial | exact id | exact rfl | exact fun _ => rfl | exact Nat.le_of_ble_eq_true rfl | exact fun _ => Nat.le_of_ble_eq_true rfl | exact Int.natCast_nonneg _ | exact fun _ => Int.natCast_nonneg _ | exact within_t _ _ _ | exact (within_t _ _ _).un
    case zk =>
    exact Aw.ret ⟨_, .cons (.tmp _) .nil, congrArg A.int hrun⟩
theorem contains_t (b : Bool) (c : Cap) (l : List Int) (x : Int) (hl : (l.length : Int) ≤ 9223372036854775806) (hc : ∀ u, spareOf (.sl b c (ints l)) u = none) : Ans Try.prog 94 [.sl b c (ints l), .fn (.func 95) [] [.pt [.int x]]] (.bool (l.any fun n => n != x)) := by
  have hfn : Free (.fn (.func 95) [] [.pt [.int x]]) := .fn _ _ _ allN (all1 (.pt _ (all1 (.s _))))
  rw [← idxF_any l 0]
  refine told Try.func94 rfl rfl (Pure.of tab_ok Try.func94 rfl Try.ntmps94 rfl (allC (free_ints _ _ _) (all1 hfn)) (allC hc (all1 fun _ => rfl)) (.s _) fun E hE => ?_)
  refine Aw.keep (n := 0) (cst := [(1, .fn (.func 95) [] [.pt [.int x]])]) (v := [(0, .sl b .any (ints l))]) (Hl := []) hE ⟨hfn.under, trivial⟩ ⟨(free_ints _ _ _).under, trivial⟩ trivial ⟨⟨.refl _, trivial⟩, ⟨.any _ _ _, trivial⟩, trivial, Nat.le_refl _⟩ ?_
  refine Aw.sm tab_ok mb0 [] rfl rfl ?zo ?zk
  case zo =>
    repeat' apply AllP.cons
    all_goals first | exact trivial | exact id | exact rfl | exact fun _ => rfl | exact Nat.le_of_ble_eq_true rfl | exact fun _ => Nat.le_of_ble_eq_true rfl | exact Int.natCast_nonneg _ | exact fun _ => Int.natCast_nonneg _ | exact within_t _ _ _ | exact (within_t _ _ _).un
  case zk =>
  refine Aw.sm tab_ok mb0 [(2, [.int (idxF (fun n => n != x) 0 l)])] rfl rfl ?zo ?zk
  case zo =>
    repeat' apply AllP.cons
    all_goals first | exact trivial | exact id | exact rfl | exact fun _ => rfl | exact Nat.le_of_ble_eq_true rfl | exact fun _ => Nat.le_of_ble_eq_true rfl | exact Int.natCast_nonneg _ | exact fun _ => Int.natCast_nonneg _ | exact within_t _ _ _ | exact (within_t _ _ _).un | exact index_t b .any l x hl (fun _ => rfl)
  case zk =>
  exact Aw.ret ⟨_, .cons (.tmp _) .nil, rfl⟩
end Go.Proofs.Ytdiclbgklegelaa

namespace Go.Proofs.Ytdiclbgklegelaa
open Go Go.AL Go.AL.Q
def Fish.rl (f : Fish) (s r : Nat) : NL := (f.seasons.getD s ⟨false, []⟩).l.getD r ⟨false, []⟩
theorem fish_race {f : Fish} {r : Nat} (h : r < f.many) : (f.races.map Rce.c)[Int.toNat (r : Int)]? = some (f.race r).c := by
  rw [Int.toNat_natCast, get_map h]
  unfold Q.Fish.race; rw [List.getD_eq_getElem?_getD, List.getElem?_eq_getElem h]; rfl
theorem fish_sea {f : Fish} {s : Nat} (h : s < f.seasons.length) : (f.seasons.map NR.c)[Int.toNat (s : Int)]? = some (f.seasons.getD s ⟨false, []⟩).c := by
  rw [Int.toNat_natCast, get_map h, List.getD_eq_getElem?_getD, List.getElem?_eq_getElem h]; rfl
theorem fish_rec {f : Fish} (hf : FishOk f) {s r : Nat} (hs : s < f.seasons.length) (hr : r < f.many) : ((f.seasons.getD s ⟨false, []⟩).l.map NL.c)[Int.toNat (r : Int)]? = some (Fish.rl f s r).c := by
  have h := hf.sl s hs
  unfold Fish.rl
  rw [Int.toNat_natCast, get_map (by omega)]
  simp [List.getD_eq_getElem?_getD, show r < (f.seasons[s]?.getD ⟨false, []⟩).l.length by rw [← List.getD_eq_getElem?_getD]; omega]
theorem breaks_t (f : Fish) (hf : FishOk f) (r s : Nat) (q : Int) (hr : r < f.many) (hs : s < f.seasons.length) (hq : 0 ≤ q ∧ q ≤ 10001) : Ans Try.prog 81 [.agg f.c, .int r, .int s, .int q] (.int (f.breakY r s q)) := by
  have hrc := hf.race r hr
  have hmb := hf.mb r hr
  have hml := hf.most
  have hfr0 := fish_race hr
  have hfs0 := fish_sea hs
  have hfl0 := fish_rec hf hs hr
  have hrl := hf.rl s r hs hr
  have hrb := hf.rb s r hs hr
  have hy10 := hf.y10
  have hqm := mul_bd (a := q) (b := f.most.getD r 0) (x := 10001) (y := 100) hq hmb
  have htk : 0 ≤ takeF q (f.most.getD r 0) ∧ takeF q (f.most.getD r 0) ≤ 1000000000 := by
    refine ⟨take_nn hq.1 hmb.1, ?_⟩
    unfold takeF
    rw [Int.tdiv_eq_ediv_of_nonneg (by omega)]; omega
  have htq : inR (takeF q (f.most.getD r 0)) := by simp only [inR]; omega
  obtain ⟨hl, hL⟩ : ∃ hl : NL, Fish.rl f s r = hl := ⟨_, rfl⟩
  have hLl : f.recs s r = hl.l := by rw [← hL]; rfl
  have hR : f.breakY r s q = idxF (fun n => decide (n < (f.race r).line)) 0 (playF (f.race r) (f.race r).numbers (List.replicate hl.l.length (takeF q (f.most.getD r 0))) hl.l) := by rw [← hLl]; rfl
  rw [hLl] at hrl hrb
  rw [hL] at hfl0
  generalize f.breakY r s q = R at *
  have m6 : (f.race r).numbers.length ≤ 6 := hrc.m6
  have ll := ints_lenI hl.l
  have ul : ∀ {n}, Under n (A.sl hl.n .any (ints hl.l)) := (free_ints _ _ _).under
  have ufc : ∀ {n}, Under n (A.pt f.c) := (Free.pt _ f.free).under
  have ur : ∀ {n}, UnderB n (.cells (f.race r).c) := .cells _ fun x hx => ((f.race r).free x hx).under
  refine told Try.func81 rfl rfl (Pure.of tab_ok Try.func81 rfl Try.ntmps81 rfl (allC (.agg _ f.free) (allC (.s _) (allC (.s _) (all1 (.s _))))) (allC (fun _ => rfl) (allC (fun _ => rfl) (allC (fun _ => rfl) (all1 (fun _ => rfl))))) (by first | exact .s _ | assumption | exact .tup _ (by intro x hx; simp only [List.mem_cons, List.not_mem_nil, or_false] at hx; rcases hx with rfl | rfl | rfl | rfl <;> first | exact .s _ | (simp_all; done))) fun E hE => ?_)
  have hE15 : ∀ id, 15 ≤ id → E.φ0 id = none := fun id h => hE id (by omega)
  refine Aw.sm tab_ok mb0 [] rfl rfl ?zo ?zk
  case zo =>
    repeat' apply AllP.cons
    all_goals first | exact trivial | exact id | exact rfl | exact fun _ => rfl | exact Nat.le_of_ble_eq_true rfl | exact fun _ => Nat.le_of_ble_eq_true rfl | exact Int.natCast_nonneg _ | exact fun _ => Int.natCast_nonneg _ | exact within_t _ _ _ | exact (within_t _ _ _).un
  case zk =>
  refine Aw.sm tab_ok mb0 [(4, (f.race r).c)] rfl rfl ?zo ?zk
  case zo =>
    repeat' apply AllP.cons
    all_goals first | exact trivial | exact id | exact rfl | exact fun _ => rfl | exact Nat.le_of_ble_eq_true rfl | exact fun _ => Nat.le_of_ble_eq_true rfl | exact Int.natCast_nonneg _ | exact fun _ => Int.natCast_nonneg _ | exact within_t _ _ _ | exact (within_t _ _ _).un | exact hfr0
  case zk =>
  refine Aw.sm tab_ok mb0 [(5, [.int (f.most.getD r 0)])] rfl rfl ?zo ?zk
  case zo =>
    repeat' apply AllP.cons
    all_goals first | exact trivial | exact id | exact rfl | exact fun _ => rfl | exact Nat.le_of_ble_eq_true rfl | exact fun _ => Nat.le_of_ble_eq_true rfl | exact Int.natCast_nonneg _ | exact fun _ => Int.natCast_nonneg _ | exact within_t _ _ _ | exact (within_t _ _ _).un | exact ints_getD (by omega) | exact (by simp only [Ob.of, inR]; omega) | exact (show (100 : Int) ≠ 0 ∧ inR (takeF q (f.most.getD r 0)) from ⟨by decide, htq⟩)
  case zk =>
  refine Aw.sd tab_ok mixed mb0 [(0, [.agg (f.race r).c]), (1, [arr (f.race r).numbers]), (6, (f.seasons.getD s ⟨false, []⟩).c), (9, hl.c)] rfl (by kernel_rfl) rfl rfl ?zo ?zk
  case zo =>
    repeat' apply AllP.cons
    all_goals first | exact trivial | exact id | exact rfl | exact fun _ => rfl | exact Nat.le_of_ble_eq_true rfl | exact fun _ => Nat.le_of_ble_eq_true rfl | exact Int.natCast_nonneg _ | exact fun _ => Int.natCast_nonneg _ | exact within_t _ _ _ | exact (within_t _ _ _).un | exact first_t _ hrc | exact hfs0 | exact hfl0 | exact arr_len m6
  case zk =>
  generalize f.race r = rc at *
  have st0 := arr_st0 m6
  refine Aw.keep (n := 15) (cst := [(9, .ref 0 0), (10, .int (takeF q (f.most.getD r 0))), (12, .sl hl.n .any (ints hl.l))]) (v := [(11, .ref 12 0)]) (Hl := [(0, .cells rc.c), (12, .cells ((padL rc.numbers).map A.int))]) hE15 ⟨.ref _ _ (by decide), .s _, ul, trivial⟩ ⟨.ref _ _ (by decide), trivial⟩ ⟨⟨by decide, ur⟩, ⟨by decide, cells_under _⟩, trivial⟩
    ⟨⟨.refl _, .refl _, .refl _, trivial⟩, ⟨.refl _, trivial⟩, ⟨rfl, congrArg (fun x => some (B.cells x)) st0, trivial⟩, Nat.le_of_ble_eq_true rfl⟩ ?_
  generalize takeF q (f.most.getD r 0) = tk at *
  have hz : hl.l.length ≤ 10 := by omega
  clear hfr0 hfs0 hfl0 hLl hL hqm htq hrl hmb hml ufc
  refine Aw.seq ?_
  refine Aw.sm tab_ok mb0 [] rfl rfl ?zo ?zk
  case zo =>
    repeat' apply AllP.cons
    all_goals first | exact trivial | exact id | exact rfl | exact fun _ => rfl | exact Nat.le_of_ble_eq_true rfl | exact fun _ => Nat.le_of_ble_eq_true rfl | exact Int.natCast_nonneg _ | exact fun _ => Int.natCast_nonneg _ | exact within_t _ _ _ | exact (within_t _ _ _).un
  case zk =>
  have uc : UnderL 15 [(9, A.ref 0 0), (10, .int tk), (11, .ref 12 0), (12, .sl hl.n .any (ints hl.l)), (45, .sl hl.n .any (ints hl.l)), (46, .int hl.l.length)] := ⟨.ref _ _ (by decide), .s _, .ref _ _ (by decide), ul, ul, .s _, trivial⟩
  refine Aw.block (Aw.rounds (ι := Nat × List Int) 15 hE15 [(9, A.ref 0 0), (10, .int tk), (11, .ref 12 0), (12, .sl hl.n .any (ints hl.l)), (45, .sl hl.n .any (ints hl.l)), (46, .int hl.l.length)] (fun i => [(47, .int i.1)])
    (fun i => [(0, .cells rc.c), (12, .cells ((padL i.2).map A.int))]) (fun i => i.1 ≤ hl.l.length ∧ Pop rc (600000 + 100000 * i.1) i.2 ∧ idxF (fun n => decide (n < rc.line)) i.1 (playF rc i.2 (List.replicate (hl.l.drop i.1).length tk) (hl.l.drop i.1)) = R) (fun i => hl.l.length - i.1) (0, rc.numbers)
    ⟨Nat.zero_le _, by simpa using first_pop hrc, hR.symm⟩ ⟨⟨.refl _, .refl _, .refl _, .refl _, .refl _, .of_eq (congrArg A.int ll.symm), trivial⟩, ⟨.refl _, trivial⟩, ⟨rfl, rfl, trivial⟩, Nat.le_of_ble_eq_true rfl⟩
    uc (fun i _ => ⟨.s _, trivial⟩) (fun i _ => ⟨⟨by decide, ur⟩, ⟨by decide, cells_under _⟩, trivial⟩) ?_)
  rintro ⟨k, n⟩ ⟨hk, hpop, hrun⟩
  simp only at hk hpop hrun
  refine Aw.sm tab_ok mb0 [] rfl rfl ?zo ?zk
  case zo =>
    repeat' apply AllP.cons
    all_goals first | exact trivial | exact id | exact rfl | exact fun _ => rfl | exact Nat.le_of_ble_eq_true rfl | exact fun _ => Nat.le_of_ble_eq_true rfl | exact Int.natCast_nonneg _ | exact fun _ => Int.natCast_nonneg _ | exact within_t _ _ _ | exact (within_t _ _ _).un
  case zk =>
  refine Aw.seq (Aw.cond rfl (fun h1 => Aw.skip1 ?_) (fun h1 => Aw.exit2 ?_))
  · have hlt : k < hl.l.length := by have := of_decide_eq_true h1; omega
    have hd : hl.l.drop k = hl.l.getD k 0 :: hl.l.drop (k + 1) := by rw [List.drop_eq_getElem_cons hlt]; simp [List.getD_eq_getElem?_getD, hlt]
    have hx : 0 ≤ hl.l.getD k 0 ∧ hl.l.getD k 0 ≤ 100000 := hrb _ (by rw [List.getD_eq_getElem?_getD, List.getElem?_eq_getElem hlt]; exact List.getElem_mem hlt)
    have hcall := year_t rc hrc n (600000 + 100000 * k) tk (hl.l.getD k 0) hpop (by omega) htk hx
    have hpop2 := yearF_pop hrc hpop htk.1 hx.1
    have hdk : hl.l.drop k = hl.l.getD k 0 :: hl.l.drop (k + 1) := hd
    rw [hd, List.length_cons, List.replicate_succ, playF, idxF] at hrun
    have hstill := fun h => still (r := rc) (l := n) (t := tk) (x := hl.l.getD k 0) h
    generalize hX : hl.l.getD k 0 = x at *
    generalize hY : yearF rc n tk x = Y at *
    have n6 : n.length ≤ 6 := by rw [hpop.len]; exact hrc.m6
    have y6 : Y.2.length ≤ 6 := by rw [hpop2.len]; exact hrc.m6
    have hpop3 : Pop rc (600000 + 100000 * ((k + 1 : Nat) : Int)) Y.2 := ⟨hpop2.len, hpop2.pos, by have := hpop2.sum; omega⟩
    have hg : (ints hl.l)[k]? = some [.int x] := by rw [← hX]; exact ints_getD hlt
    refine Aw.seq (Aw.block ?_)
    refine Aw.sm tab_ok mb0 [(1, [.int x])] rfl rfl ?zo ?zk
    case zo =>
      repeat' apply AllP.cons
      all_goals first | exact trivial | exact id | exact rfl | exact fun _ => rfl | exact Nat.le_of_ble_eq_true rfl | exact fun _ => Nat.le_of_ble_eq_true rfl | exact Int.natCast_nonneg _ | exact fun _ => Int.natCast_nonneg _ | exact within_t _ _ _ | exact (within_t _ _ _).un | exact hg
    case zk =>
    refine Aw.sm tab_ok mb0 [(0, [.agg rc.c]), (1, [arr n]), (3, [.int x]), (4, [.tup [.int Y.1, arr Y.2]])] rfl rfl ?zo ?zk
    case zo =>
      repeat' apply AllP.cons
      all_goals first | exact trivial | exact id | exact rfl | exact fun _ => rfl | exact Nat.le_of_ble_eq_true rfl | exact fun _ => Nat.le_of_ble_eq_true rfl | exact Int.natCast_nonneg _ | exact fun _ => Int.natCast_nonneg _ | exact within_t _ _ _ | exact (within_t _ _ _).un | exact arr_ld n6 | exact (show 0 + 6 ≤ ((padL n).map A.int).length by rw [arr_len n6]; omega) | exact hcall | exact arr_len y6
    case zk =>
    have hst0 := arr_st0 y6
    have hst1 := arr_st y6 n6
    refine Aw.keep (n := 17) (cst := [(9, A.ref 0 0), (10, .int tk), (11, .ref 12 0), (12, .sl hl.n .any (ints hl.l)), (45, .sl hl.n .any (ints hl.l)), (46, .int hl.l.length), (47, .int k), (13, .int k), (14, .ref 15 0), (15, .int Y.1), (16, .ref 16 0)]) (v := []) (Hl := [(0, .cells rc.c), (12, .cells ((padL n).map A.int)), (15, .cells [.int x]), (16, .cells ((padL Y.2).map A.int))]) (fun id h => hE id (by omega))
      ⟨.ref _ _ (by decide), .s _, .ref _ _ (by decide), ul, ul, .s _, .s _, .s _, .ref _ _ (by decide), .s _, .ref _ _ (by decide), trivial⟩ trivial ⟨⟨by decide, ur⟩, ⟨by decide, cells_under _⟩, ⟨by decide, .cells _ (all1 (.s _))⟩, ⟨by decide, cells_under _⟩, trivial⟩
      ⟨⟨.refl _, .refl _, .refl _, .refl _, .refl _, .refl _, .refl _, .refl _, .refl _, .refl _, .refl _, trivial⟩, trivial, ⟨rfl, rfl, rfl, congrArg (fun x => some (B.cells x)) hst0, trivial⟩, Nat.le_of_ble_eq_true rfl⟩ ?_
    refine Aw.seq ?_
    refine Aw.sm tab_ok mb0 [] rfl rfl ?zo ?zk
    case zo =>
      repeat' apply AllP.cons
      all_goals first | exact trivial | exact id | exact rfl | exact fun _ => rfl | exact Nat.le_of_ble_eq_true rfl | exact fun _ => Nat.le_of_ble_eq_true rfl | exact Int.natCast_nonneg _ | exact fun _ => Int.natCast_nonneg _ | exact within_t _ _ _ | exact (within_t _ _ _).un
    case zk =>
    refine Aw.cond rfl (fun h2 => ?_) (fun h2 => Aw.skip ?_)
    · have h2' : decide (Y.1 < rc.line) = true := h2
      rw [if_pos h2'] at hrun
      subst hrun
      refine Aw.sm tab_ok mb0 [] rfl rfl ?zo ?zk
      case zo =>
        repeat' apply AllP.cons
        all_goals first | exact trivial | exact id | exact rfl | exact fun _ => rfl | exact Nat.le_of_ble_eq_true rfl | exact fun _ => Nat.le_of_ble_eq_true rfl | exact Int.natCast_nonneg _ | exact fun _ => Int.natCast_nonneg _ | exact within_t _ _ _ | exact (within_t _ _ _).un
      case zk =>
      exact Aw.ret ⟨_, .cons (.tmp _) .nil, rfl⟩
    have h2' : decide (Y.1 < rc.line) = false := h2
    rw [h2'] at hrun
    have hrun : idxF (fun n => decide (n < rc.line)) (k + 1) (playF rc Y.2 (List.replicate (hl.l.drop (k + 1)).length tk) (hl.l.drop (k + 1))) = R := hrun
    have hee : ((padL Y.2) == (padL n)) = decide (Y.2 = n) := by
      rw [Bool.eq_iff_iff, beq_iff_eq, decide_eq_true_eq]
      exact ⟨fun h => padL_inj (by rw [hpop2.len, hpop.len]) h, fun h => by rw [h]⟩
    have hdr : (ints hl.l).drop k = ints (hl.l.drop k) := by simp [ints, List.map_drop]
    have hcon := contains_t hl.n .any (hl.l.drop k) x (by simp; omega) (fun _ => rfl)
    rw [← hdr] at hcon
    have hkz : (k : Int) ≤ ((ints hl.l).length : Int) := by omega
    have l62 : 0 + 6 ≤ ((padL Y.2).map A.int).length := by rw [arr_len y6]; omega
    have l6n : 0 + 6 ≤ ((padL n).map A.int).length := by rw [arr_len n6]; omega
    refine Aw.seq ?_
    by_cases hsame : Y.2 = n
    · rw [decide_eq_true hsame] at hee
      refine Aw.seq (Aw.region rfl ?_)
      refine RegL.partE tab_ok mb0 true 8 0 [(0, [arr Y.2]), (1, [arr n]), (2, [.bool true])] ?_
      conv => arg 5; whnf
      refine PartK.mk ?zo ?zk
      case zo =>
        repeat' apply AllP.cons
        all_goals first | exact trivial | exact id | exact rfl | exact fun _ => rfl | exact Nat.le_of_ble_eq_true rfl | exact fun _ => Nat.le_of_ble_eq_true rfl | exact Int.natCast_nonneg _ | exact fun _ => Int.natCast_nonneg _ | exact within_t _ _ _ | exact (within_t _ _ _).un | exact arr_ld y6 | exact arr_ld n6 | exact l62 | exact l6n | exact hee ▸ eqArr _ _ (padL_len y6) (padL_len n6) | exact hkz | exact ints_one _
      case zk =>
      refine Does.rawT (j := 3) (t := 69) (g := true) (want := true) rfl rfl rfl rfl (DoesP.toR (DoesP.callF tab_ok (g := 94) (fst := []) (cap := []) rfl rfl rfl hcon (.s _) ?_))
      refine RegL.partE tab_ok mb0 true 9 9 [] ?_
      conv => arg 5; whnf
      refine PartK.mk ?zo ?zk
      case zo =>
        repeat' apply AllP.cons
        all_goals first | exact trivial | exact id | exact rfl | exact fun _ => rfl | exact Nat.le_of_ble_eq_true rfl | exact fun _ => Nat.le_of_ble_eq_true rfl | exact Int.natCast_nonneg _ | exact fun _ => Int.natCast_nonneg _ | exact within_t _ _ _ | exact (within_t _ _ _).un
      case zk =>
      refine Aw.cond rfl (fun h3 => ?_) (fun h3 => Aw.skip ?_)
      · have h3 : (!(hl.l.drop k).any fun n => n != x) = true := h3
        have hall : ∀ y ∈ hl.l.drop (k + 1), y = x := fun y hy => by
          rw [Bool.not_eq_true'] at h3
          have := List.any_eq_false.1 h3 y (by rw [hd]; exact List.mem_cons_of_mem _ hy)
          simpa using this
        have hR1 : R = -1 := by
          rw [← hrun]
          refine idxF_none _ fun m hm => ?_
          rw [hsame] at hm
          have := hstill (by exact hsame) _ hall m hm
          rw [this]; exact h2'
        subst hR1
        refine Aw.exit (thenE (blkN rfl (thenE (thenE (blkE ?_)))))
        refine Aw.sm tab_ok mb0 [] rfl rfl ?zo ?zk
        case zo =>
          repeat' apply AllP.cons
          all_goals first | exact trivial | exact id | exact rfl | exact fun _ => rfl | exact Nat.le_of_ble_eq_true rfl | exact fun _ => Nat.le_of_ble_eq_true rfl | exact Int.natCast_nonneg _ | exact fun _ => Int.natCast_nonneg _ | exact within_t _ _ _ | exact (within_t _ _ _).un
        case zk =>
        exact Aw.ret ⟨_, .cons (.tmp _) .nil, rfl⟩
      · refine Aw.em tab_ok mb0 [(0, [arr Y.2])] rfl rfl ?zo ?zk
        case zo =>
          repeat' apply AllP.cons
          all_goals first | exact trivial | exact id | exact rfl | exact fun _ => rfl | exact Nat.le_of_ble_eq_true rfl | exact fun _ => Nat.le_of_ble_eq_true rfl | exact Int.natCast_nonneg _ | exact fun _ => Int.natCast_nonneg _ | exact within_t _ _ _ | exact (within_t _ _ _).un | exact arr_ld y6 | exact l62 | exact l6n | exact arr_len y6
        case zk =>
        refine Aw.em tab_ok mb0 [] rfl rfl ?zo ?zk
        case zo =>
          repeat' apply AllP.cons
          all_goals first | exact trivial | exact id | exact rfl | exact fun _ => rfl | exact Nat.le_of_ble_eq_true rfl | exact fun _ => Nat.le_of_ble_eq_true rfl | exact Int.natCast_nonneg _ | exact fun _ => Int.natCast_nonneg _ | exact within_t _ _ _ | exact (within_t _ _ _).un | exact inrk k (by omega)
        case zk =>
        exact ⟨(k + 1, Y.2), ⟨hlt, hpop3, hrun⟩, by show hl.l.length - (k + 1) < hl.l.length - k; omega, ⟨.refl _, .refl _, .refl _, .refl _, .refl _, .refl _, trivial⟩, ⟨.refl _, trivial⟩, ⟨rfl, congrArg (fun x => some (B.cells x)) hst1, trivial⟩, Nat.le_of_ble_eq_true rfl⟩
    · rw [decide_eq_false hsame] at hee
      refine Aw.st tab_ok mb0 [(0, [arr Y.2]), (1, [arr n]), (2, [.bool false])] rfl rfl ?zo ?zk
      case zo =>
        repeat' apply AllP.cons
        all_goals first | exact trivial | exact id | exact rfl | exact fun _ => rfl | exact Nat.le_of_ble_eq_true rfl | exact fun _ => Nat.le_of_ble_eq_true rfl | exact Int.natCast_nonneg _ | exact fun _ => Int.natCast_nonneg _ | exact within_t _ _ _ | exact (within_t _ _ _).un | exact arr_ld y6 | exact arr_ld n6 | exact l62 | exact l6n | exact hee ▸ eqArr _ _ (padL_len y6) (padL_len n6) | exact hkz | exact ints_one _ | trace_state
      case zk =>
      refine Aw.cond rfl (fun h3 => by cases h3) (fun h3 => Aw.skip ?_)
      refine Aw.em tab_ok mb0 [(0, [arr Y.2])] rfl rfl ?zo ?zk
      case zo =>
        repeat' apply AllP.cons
        all_goals first | exact trivial | exact id | exact rfl | exact fun _ => rfl | exact Nat.le_of_ble_eq_true rfl | exact fun _ => Nat.le_of_ble_eq_true rfl | exact Int.natCast_nonneg _ | exact fun _ => Int.natCast_nonneg _ | exact within_t _ _ _ | exact (within_t _ _ _).un | exact arr_ld y6 | exact l62 | exact l6n | exact arr_len y6
      case zk =>
      refine Aw.em tab_ok mb0 [] rfl rfl ?zo ?zk
      case zo =>
        repeat' apply AllP.cons
        all_goals first | exact trivial | exact id | exact rfl | exact fun _ => rfl | exact Nat.le_of_ble_eq_true rfl | exact fun _ => Nat.le_of_ble_eq_true rfl | exact Int.natCast_nonneg _ | exact fun _ => Int.natCast_nonneg _ | exact within_t _ _ _ | exact (within_t _ _ _).un | exact inrk k (by omega)
      case zk =>
      exact ⟨(k + 1, Y.2), ⟨hlt, hpop3, hrun⟩, by show hl.l.length - (k + 1) < hl.l.length - k; omega, ⟨.refl _, .refl _, .refl _, .refl _, .refl _, .refl _, trivial⟩, ⟨.refl _, trivial⟩, ⟨rfl, congrArg (fun x => some (B.cells x)) hst1, trivial⟩, Nat.le_of_ble_eq_true rfl⟩
  · have hle : k = hl.l.length := by have := of_decide_eq_false h1; omega
    subst hle
    have hR1 : R = -1 := by rw [← hrun, List.drop_length]; rfl
    subst hR1
    refine Aw.sm tab_ok mb0 [] rfl rfl ?zo ?zk
    case zo =>
      repeat' apply AllP.cons
      all_goals first | exact trivial | exact id | exact rfl | exact fun _ => rfl | exact Nat.le_of_ble_eq_true rfl | exact fun _ => Nat.le_of_ble_eq_true rfl | exact Int.natCast_nonneg _ | exact fun _ => Int.natCast_nonneg _ | exact within_t _ _ _ | exact (within_t _ _ _).un
    case zk =>
    exact Aw.ret ⟨_, .cons (.tmp _) .nil, rfl⟩
def noBreak (f : Fish) (q : Int) (r s : Nat) : Bool := !decide (f.breakY r s q ≥ 0)
def noRace (f : Fish) (q : Int) (r : Nat) : Bool := (List.range f.seasons.length).all (noBreak f q r)
theorem all_drop {p : Nat → Bool} {n k : Nat} (h : k < n) : ((List.range n).drop k).all p = (p k && ((List.range n).drop (k + 1)).all p) := by
  rw [List.drop_eq_getElem_cons (by simpa using h)]; simp
theorem all_drop_end {p : Nat → Bool} {n : Nat} : ((List.range n).drop n).all p = true := by
  rw [List.drop_of_length_le (by simp)]; rfl
theorem holds_t (f : Fish) (hf : FishOk f) (q : Int) (hq : 0 ≤ q ∧ q ≤ 10001) : Ans Try.prog 78 [.agg f.c, .int q] (.bool (f.holds q)) := by
  have lr : ((f.races.map Rce.c).length : Int) = f.many := by simp [Q.Fish.many]
  have ls : ((f.seasons.map NR.c).length : Int) = f.seasons.length := by simp
  have m3 := hf.m3
  have s6 := hf.s6
  have ufc : ∀ {n}, Under n (A.pt f.c) := (Free.pt _ f.free).under
  have hR : f.holds q = (List.range f.many).all (noRace f q) := rfl
  rw [hR]
  generalize hRR : (List.range f.many).all (noRace f q) = R
  refine told Try.func78 rfl rfl (Pure.of tab_ok Try.func78 rfl Try.ntmps78 rfl (allC (.agg _ f.free) (all1 (.s _))) (allC (fun _ => rfl) (all1 (fun _ => rfl))) (by first | exact .s _ | assumption | exact .tup _ (by intro x hx; simp only [List.mem_cons, List.not_mem_nil, or_false] at hx; rcases hx with rfl | rfl | rfl | rfl <;> first | exact .s _ | (simp_all; done))) fun E hE => ?_)
  refine Aw.sm tab_ok mb0 [] rfl rfl ?zo ?zk
  case zo =>
    repeat' apply AllP.cons
    all_goals first | exact trivial | exact id | exact rfl | exact fun _ => rfl | exact Nat.le_of_ble_eq_true rfl | exact fun _ => Nat.le_of_ble_eq_true rfl | exact Int.natCast_nonneg _ | exact fun _ => Int.natCast_nonneg _ | exact within_t _ _ _ | exact (within_t _ _ _).un
  case zk =>
  refine Aw.seq ?_
  refine Aw.sm tab_ok mb0 [] rfl rfl ?zo ?zk
  case zo =>
    repeat' apply AllP.cons
    all_goals first | exact trivial | exact id | exact rfl | exact fun _ => rfl | exact Nat.le_of_ble_eq_true rfl | exact fun _ => Nat.le_of_ble_eq_true rfl | exact Int.natCast_nonneg _ | exact fun _ => Int.natCast_nonneg _ | exact within_t _ _ _ | exact (within_t _ _ _).un
  case zk =>
  refine Aw.block (Aw.rounds (ι := Nat) 0 hE [(1, .int q), (2, .pt f.c), (10, .int f.many)] (fun k => [(11, .int k)]) (fun _ => []) (fun k => k ≤ f.many ∧ ((List.range f.many).drop k).all (noRace f q) = R) (fun k => f.many - k) 0
    ⟨Nat.zero_le _, hRR⟩ ⟨⟨.refl _, .refl _, .of_eq (congrArg A.int lr.symm), trivial⟩, ⟨.refl _, trivial⟩, trivial, Nat.zero_le _⟩ ⟨.s _, ufc, .s _, trivial⟩ (fun _ _ => ⟨.s _, trivial⟩) (fun _ _ => trivial) ?_)
  rintro k ⟨hk, hrun⟩
  refine Aw.sm tab_ok mb0 [] rfl rfl ?zo ?zk
  case zo =>
    repeat' apply AllP.cons
    all_goals first | exact trivial | exact id | exact rfl | exact fun _ => rfl | exact Nat.le_of_ble_eq_true rfl | exact fun _ => Nat.le_of_ble_eq_true rfl | exact Int.natCast_nonneg _ | exact fun _ => Int.natCast_nonneg _ | exact within_t _ _ _ | exact (within_t _ _ _).un
  case zk =>
  refine Aw.seq (Aw.cond rfl (fun h1 => Aw.skip1 ?_) (fun h1 => Aw.exit2 ?_))
  · have hlt : k < f.many := by have := of_decide_eq_true h1; omega
    rw [all_drop hlt] at hrun
    refine Aw.seq (Aw.block ?_)
    refine Aw.sm tab_ok mb0 [] rfl rfl ?zo ?zk
    case zo =>
      repeat' apply AllP.cons
      all_goals first | exact trivial | exact id | exact rfl | exact fun _ => rfl | exact Nat.le_of_ble_eq_true rfl | exact fun _ => Nat.le_of_ble_eq_true rfl | exact Int.natCast_nonneg _ | exact fun _ => Int.natCast_nonneg _ | exact within_t _ _ _ | exact (within_t _ _ _).un
    case zk =>
    refine Aw.sm tab_ok mb0 [] rfl rfl ?zo ?zk
    case zo =>
      repeat' apply AllP.cons
      all_goals first | exact trivial | exact id | exact rfl | exact fun _ => rfl | exact Nat.le_of_ble_eq_true rfl | exact fun _ => Nat.le_of_ble_eq_true rfl | exact Int.natCast_nonneg _ | exact fun _ => Int.natCast_nonneg _ | exact within_t _ _ _ | exact (within_t _ _ _).un
    case zk =>
    refine Aw.block (Aw.rounds (ι := Nat) 0 hE [(1, .int q), (2, .pt f.c), (5, .int k), (10, .int f.many), (11, .int k), (17, .int f.seasons.length)] (fun j => [(18, .int j)]) (fun _ => []) (fun j => j ≤ f.seasons.length ∧ (((List.range f.seasons.length).drop j).all (noBreak f q k) && ((List.range f.many).drop (k + 1)).all (noRace f q)) = R) (fun j => f.seasons.length - j) 0
      ⟨Nat.zero_le _, hrun⟩ ⟨⟨.refl _, .refl _, .refl _, .refl _, .refl _, .of_eq (congrArg A.int ls.symm), trivial⟩, ⟨.refl _, trivial⟩, trivial, Nat.zero_le _⟩ ⟨.s _, ufc, .s _, .s _, .s _, .s _, trivial⟩ (fun _ _ => ⟨.s _, trivial⟩) (fun _ _ => trivial) ?_)
    rintro j ⟨hj, hrun⟩
    refine Aw.sm tab_ok mb0 [] rfl rfl ?zo ?zk
    case zo =>
      repeat' apply AllP.cons
      all_goals first | exact trivial | exact id | exact rfl | exact fun _ => rfl | exact Nat.le_of_ble_eq_true rfl | exact fun _ => Nat.le_of_ble_eq_true rfl | exact Int.natCast_nonneg _ | exact fun _ => Int.natCast_nonneg _ | exact within_t _ _ _ | exact (within_t _ _ _).un
    case zk =>
    refine Aw.seq (Aw.cond rfl (fun h2 => Aw.skip1 ?_) (fun h2 => Aw.exit2 ?_))
    · have hjl : j < f.seasons.length := by have := of_decide_eq_true h2; omega
      rw [all_drop hjl] at hrun
      refine Aw.seq (Aw.block ?_)
      refine Aw.sm tab_ok mb0 [] rfl rfl ?zo ?zk
      case zo =>
        repeat' apply AllP.cons
        all_goals first | exact trivial | exact id | exact rfl | exact fun _ => rfl | exact Nat.le_of_ble_eq_true rfl | exact fun _ => Nat.le_of_ble_eq_true rfl | exact Int.natCast_nonneg _ | exact fun _ => Int.natCast_nonneg _ | exact within_t _ _ _ | exact (within_t _ _ _).un
      case zk =>
      refine Aw.sm tab_ok mb0 [(4, [.int (f.breakY k j q)])] rfl rfl ?zo ?zk
      case zo =>
        repeat' apply AllP.cons
        all_goals first | exact trivial | exact id | exact rfl | exact fun _ => rfl | exact Nat.le_of_ble_eq_true rfl | exact fun _ => Nat.le_of_ble_eq_true rfl | exact Int.natCast_nonneg _ | exact fun _ => Int.natCast_nonneg _ | exact within_t _ _ _ | exact (within_t _ _ _).un | exact breaks_t f hf k j q hlt hjl hq
      case zk =>
      refine Aw.cond rfl (fun h3 => ?_) (fun h3 => Aw.skip ?_)
      · have h3' : decide (f.breakY k j q ≥ 0) = true := h3
        have hR1 : R = false := by rw [← hrun]; unfold noBreak; rw [h3']; rfl
        subst hR1
        refine Aw.sm tab_ok mb0 [] rfl rfl ?zo ?zk
        case zo =>
          repeat' apply AllP.cons
          all_goals first | exact trivial | exact id | exact rfl | exact fun _ => rfl | exact Nat.le_of_ble_eq_true rfl | exact fun _ => Nat.le_of_ble_eq_true rfl | exact Int.natCast_nonneg _ | exact fun _ => Int.natCast_nonneg _ | exact within_t _ _ _ | exact (within_t _ _ _).un
        case zk =>
        exact Aw.ret ⟨_, .cons (.tmp _) .nil, rfl⟩
      · have h3' : decide (f.breakY k j q ≥ 0) = false := h3
        have hrun2 : (((List.range f.seasons.length).drop (j + 1)).all (noBreak f q k) && ((List.range f.many).drop (k + 1)).all (noRace f q)) = R := by
          rw [← hrun]; unfold noBreak; rw [h3']; rfl
        refine Aw.em tab_ok mb0 [] rfl rfl ?zo ?zk
        case zo =>
          repeat' apply AllP.cons
          all_goals first | exact trivial | exact id | exact rfl | exact fun _ => rfl | exact Nat.le_of_ble_eq_true rfl | exact fun _ => Nat.le_of_ble_eq_true rfl | exact Int.natCast_nonneg _ | exact fun _ => Int.natCast_nonneg _ | exact within_t _ _ _ | exact (within_t _ _ _).un | exact inrk j (by omega)
        case zk =>
        exact ⟨j + 1, ⟨hjl, hrun2⟩, by omega, ⟨.refl _, .refl _, .refl _, .refl _, .refl _, .refl _, trivial⟩, ⟨.refl _, trivial⟩, trivial, Nat.zero_le _⟩
    · have hle : j = f.seasons.length := by have := of_decide_eq_false h2; omega
      subst hle
      rw [all_drop_end, Bool.true_and] at hrun
      refine Aw.em tab_ok mb0 [] rfl rfl ?zo ?zk
      case zo =>
        repeat' apply AllP.cons
        all_goals first | exact trivial | exact id | exact rfl | exact fun _ => rfl | exact Nat.le_of_ble_eq_true rfl | exact fun _ => Nat.le_of_ble_eq_true rfl | exact Int.natCast_nonneg _ | exact fun _ => Int.natCast_nonneg _ | exact within_t _ _ _ | exact (within_t _ _ _).un | exact inrk k (by omega)
      case zk =>
      exact ⟨k + 1, ⟨hlt, hrun⟩, by omega, ⟨.refl _, .refl _, .refl _, trivial⟩, ⟨.refl _, trivial⟩, trivial, Nat.zero_le _⟩
  · have hle : k = f.many := by have := of_decide_eq_false h1; omega
    subst hle
    rw [all_drop_end] at hrun
    subst hrun
    refine Aw.sm tab_ok mb0 [] rfl rfl ?zo ?zk
    case zo =>
      repeat' apply AllP.cons
      all_goals first | exact trivial | exact id | exact rfl | exact fun _ => rfl | exact Nat.le_of_ble_eq_true rfl | exact fun _ => Nat.le_of_ble_eq_true rfl | exact Int.natCast_nonneg _ | exact fun _ => Int.natCast_nonneg _ | exact within_t _ _ _ | exact (within_t _ _ _).un
    case zk =>
    exact Aw.ret ⟨_, .cons (.tmp _) .nil, rfl⟩
theorem err_ok {f : Fish} (h : f.ok = true) : f.err = 0 := by unfold Q.Fish.err; rw [h]; rfl
theorem err_no {f : Fish} (h : f.ok = false) : f.err = 93 := by unfold Q.Fish.err; rw [h]; rfl
theorem quota_t (f : Fish) (hfit : f.Fit) : Ans Try.prog 27 [.agg f.c] (.tup f.quotaR) := by
  have hfr : Free (.tup f.quotaR) := .tup _ (by
    unfold Q.Fish.quotaR
    split
    · split <;> exact allC (.s _) (all1 (.s _))
    · exact allC (.s _) (all1 (.s _)))
  refine told Try.func27 rfl rfl (Pure.of tab_ok Try.func27 rfl Try.ntmps27 rfl (all1 (.agg _ f.free)) (all1 (fun _ => rfl)) (by first | exact .s _ | assumption | exact .tup _ (by intro x hx; simp only [List.mem_cons, List.not_mem_nil, or_false] at hx; rcases hx with rfl | rfl | rfl | rfl <;> first | exact .s _ | (simp_all; done))) fun E hE => ?_)
  refine Aw.sm tab_ok mb0 [] rfl rfl ?zo ?zk
  case zo =>
    repeat' apply AllP.cons
    all_goals first | exact trivial | exact id | exact rfl | exact fun _ => rfl | exact Nat.le_of_ble_eq_true rfl | exact fun _ => Nat.le_of_ble_eq_true rfl | exact Int.natCast_nonneg _ | exact fun _ => Int.natCast_nonneg _ | exact within_t _ _ _ | exact (within_t _ _ _).un
  case zk =>
  refine Aw.seq ?_
  refine Aw.sm tab_ok mb0 [(1, [.int f.err])] rfl rfl ?zo ?zk
  case zo =>
    repeat' apply AllP.cons
    all_goals first | exact trivial | exact id | exact rfl | exact fun _ => rfl | exact Nat.le_of_ble_eq_true rfl | exact fun _ => Nat.le_of_ble_eq_true rfl | exact Int.natCast_nonneg _ | exact fun _ => Int.natCast_nonneg _ | exact within_t _ _ _ | exact (within_t _ _ _).un | exact check_t f hfit
  case zk =>
  refine Aw.sm tab_ok mb0 [] rfl rfl ?zo ?zk
  case zo =>
    repeat' apply AllP.cons
    all_goals first | exact trivial | exact id | exact rfl | exact fun _ => rfl | exact Nat.le_of_ble_eq_true rfl | exact fun _ => Nat.le_of_ble_eq_true rfl | exact Int.natCast_nonneg _ | exact fun _ => Int.natCast_nonneg _ | exact within_t _ _ _ | exact (within_t _ _ _).un
  case zk =>
  refine Aw.cond rfl (fun h1 => ?_) (fun h1 => Aw.skip ?_)
  · have hno : f.ok = false := by
      cases h : f.ok with
      | false => rfl
      | true => rw [err_ok h] at h1; exact absurd h1 (by decide)
    refine Aw.sm tab_ok mb0 [] rfl rfl ?zo ?zk
    case zo =>
      repeat' apply AllP.cons
      all_goals first | exact trivial | exact id | exact rfl | exact fun _ => rfl | exact Nat.le_of_ble_eq_true rfl | exact fun _ => Nat.le_of_ble_eq_true rfl | exact Int.natCast_nonneg _ | exact fun _ => Int.natCast_nonneg _ | exact within_t _ _ _ | exact (within_t _ _ _).un
    case zk =>
    exact Aw.ret ⟨_, .cons (.tmp _) (.cons (.tmp _) .nil), by unfold Q.Fish.quotaR; rw [hno, err_no hno]; rfl⟩
  have hok : f.ok = true := by
    cases h : f.ok with
    | true => rfl
    | false => rw [err_no h] at h1; exact absurd h1 (by decide)
  have hf := FishOk.of hok
  have ufn : ∀ {n}, Under n (A.fn (.func 78) [.agg f.c] []) := (Free.fn _ _ _ (all1 (.agg _ f.free)) allN).under
  have hR : f.quotaR = if f.holds 0 then [.int f.quota, .int 0] else [.int 0, .int 4] := by unfold Q.Fish.quotaR; rw [hok]; rfl
  rw [hR]
  refine Aw.sm tab_ok mb0 [] rfl rfl ?zo ?zk
  case zo =>
    repeat' apply AllP.cons
    all_goals first | exact trivial | exact id | exact rfl | exact fun _ => rfl | exact Nat.le_of_ble_eq_true rfl | exact fun _ => Nat.le_of_ble_eq_true rfl | exact Int.natCast_nonneg _ | exact fun _ => Int.natCast_nonneg _ | exact within_t _ _ _ | exact (within_t _ _ _).un
  case zk =>
  refine Aw.keep (n := 0) (cst := [(5, .fn (.func 78) [.agg f.c] [])]) (v := []) (Hl := []) hE ⟨ufn, trivial⟩ trivial trivial ⟨⟨.refl _, trivial⟩, trivial, trivial, Nat.zero_le _⟩ ?_
  refine Aw.seq ?_
  refine Aw.sm tab_ok mb0 [(1, [.bool (f.holds 0)])] rfl rfl ?zo ?zk
  case zo =>
    repeat' apply AllP.cons
    all_goals first | exact trivial | exact id | exact rfl | exact fun _ => rfl | exact Nat.le_of_ble_eq_true rfl | exact fun _ => Nat.le_of_ble_eq_true rfl | exact Int.natCast_nonneg _ | exact fun _ => Int.natCast_nonneg _ | exact within_t _ _ _ | exact (within_t _ _ _).un | exact holds_t f hf 0 (by decide)
  case zk =>
  refine Aw.cond rfl (fun h1 => ?_) (fun h1 => Aw.skip ?_)
  · have hno : f.holds 0 = false := by simpa using h1
    refine Aw.sm tab_ok mb0 [] rfl rfl ?zo ?zk
    case zo =>
      repeat' apply AllP.cons
      all_goals first | exact trivial | exact id | exact rfl | exact fun _ => rfl | exact Nat.le_of_ble_eq_true rfl | exact fun _ => Nat.le_of_ble_eq_true rfl | exact Int.natCast_nonneg _ | exact fun _ => Int.natCast_nonneg _ | exact within_t _ _ _ | exact (within_t _ _ _).un
    case zk =>
    exact Aw.ret ⟨_, .cons (.tmp _) (.cons (.tmp _) .nil), by rw [hno]; rfl⟩
  have hyes : f.holds 0 = true := by simpa using h1
  rw [hyes]
  have hq : f.quota = halve f.holds 10001 0 10001 := rfl
  generalize f.quota = R at *
  refine Aw.sm tab_ok mb0 [] rfl rfl ?zo ?zk
  case zo =>
    repeat' apply AllP.cons
    all_goals first | exact trivial | exact id | exact rfl | exact fun _ => rfl | exact Nat.le_of_ble_eq_true rfl | exact fun _ => Nat.le_of_ble_eq_true rfl | exact Int.natCast_nonneg _ | exact fun _ => Int.natCast_nonneg _ | exact within_t _ _ _ | exact (within_t _ _ _).un
  case zk =>
  refine Aw.seq (Aw.block (Aw.rounds (ι := Nat × Int × Int) 0 hE [(5, .fn (.func 78) [.agg f.c] [])] (fun i => [(6, .int i.2.1), (7, .int i.2.2)]) (fun _ => []) (fun i => 0 ≤ i.2.1 ∧ i.2.1 < i.2.2 ∧ i.2.2 ≤ 10001 ∧ i.2.2 - i.2.1 ≤ i.1 ∧ halve f.holds i.1 i.2.1 i.2.2 = R) (fun i => (i.2.2 - i.2.1).toNat) (10001, 0, 10001)
    ⟨by decide, by decide, by decide, by decide, hq.symm⟩ ⟨⟨.refl _, trivial⟩, ⟨.refl _, .refl _, trivial⟩, trivial, Nat.zero_le _⟩ ⟨ufn, trivial⟩ (fun _ _ => ⟨.s _, .s _, trivial⟩) (fun _ _ => trivial) ?_))
  rintro ⟨n, lo, hi⟩ ⟨h1, h2, h3, h4, hrun⟩
  simp only at h1 h2 h3 h4 hrun
  refine Aw.seq ?_
  refine Aw.sm tab_ok mb0 [] rfl rfl ?zo ?zk
  case zo =>
    repeat' apply AllP.cons
    all_goals first | exact trivial | exact id | exact rfl | exact fun _ => rfl | exact Nat.le_of_ble_eq_true rfl | exact fun _ => Nat.le_of_ble_eq_true rfl | exact Int.natCast_nonneg _ | exact fun _ => Int.natCast_nonneg _ | exact within_t _ _ _ | exact (within_t _ _ _).un | exact (by simp only [Ob.of, inR]; omega)
  case zk =>
  refine Aw.cond rfl (fun h5 => Aw.skip ?_) (fun h5 => ?_)
  · have h5' : hi - lo > 1 := of_decide_eq_true h5
    obtain ⟨n, rfl⟩ : ∃ m, n = m + 1 := ⟨n - 1, by omega⟩
    rw [halve, if_pos h5'] at hrun
    have hmid : lo < (lo + hi).tdiv 2 ∧ (lo + hi).tdiv 2 < hi := by rw [Int.tdiv_eq_ediv_of_nonneg (by omega)]; omega
    have ob1 : (2 : Int) ≠ 0 ∧ inR ((lo + hi).tdiv 2) := ⟨by decide, by simp only [inR]; omega⟩
    refine Aw.block ?_
    refine Aw.sm tab_ok mb0 [] rfl rfl ?zo ?zk
    case zo =>
      repeat' apply AllP.cons
      all_goals first | exact trivial | exact id | exact rfl | exact fun _ => rfl | exact Nat.le_of_ble_eq_true rfl | exact fun _ => Nat.le_of_ble_eq_true rfl | exact Int.natCast_nonneg _ | exact fun _ => Int.natCast_nonneg _ | exact within_t _ _ _ | exact (within_t _ _ _).un | exact (by simp only [Ob.of, inR]; omega) | exact ob1
    case zk =>
    generalize (lo + hi).tdiv 2 = mid at *
    refine Aw.sm tab_ok mb0 [(2, [.bool (f.holds mid)])] rfl rfl ?zo ?zk
    case zo =>
      repeat' apply AllP.cons
      all_goals first | exact trivial | exact id | exact rfl | exact fun _ => rfl | exact Nat.le_of_ble_eq_true rfl | exact fun _ => Nat.le_of_ble_eq_true rfl | exact Int.natCast_nonneg _ | exact fun _ => Int.natCast_nonneg _ | exact within_t _ _ _ | exact (within_t _ _ _).un | exact holds_t f hf mid (by omega)
    case zk =>
    refine Aw.cond rfl (fun h6 => ?_) (fun h6 => ?_)
    · have h6' : f.holds mid = true := h6
      rw [if_pos h6'] at hrun
      refine Aw.em tab_ok mb0 [] rfl rfl ?zo ?zk
      case zo =>
        repeat' apply AllP.cons
        all_goals first | exact trivial | exact id | exact rfl | exact fun _ => rfl | exact Nat.le_of_ble_eq_true rfl | exact fun _ => Nat.le_of_ble_eq_true rfl | exact Int.natCast_nonneg _ | exact fun _ => Int.natCast_nonneg _ | exact within_t _ _ _ | exact (within_t _ _ _).un
      case zk =>
      exact ⟨(n, mid, hi), ⟨by show 0 ≤ mid; omega, hmid.2, h3, by show hi - mid ≤ n; omega, hrun⟩, by show (hi - mid).toNat < (hi - lo).toNat; omega, ⟨.refl _, trivial⟩, ⟨.refl _, .refl _, trivial⟩, trivial, Nat.zero_le _⟩
    · have h6' : f.holds mid = false := h6
      rw [h6'] at hrun
      refine Aw.em tab_ok mb0 [] rfl rfl ?zo ?zk
      case zo =>
        repeat' apply AllP.cons
        all_goals first | exact trivial | exact id | exact rfl | exact fun _ => rfl | exact Nat.le_of_ble_eq_true rfl | exact fun _ => Nat.le_of_ble_eq_true rfl | exact Int.natCast_nonneg _ | exact fun _ => Int.natCast_nonneg _ | exact within_t _ _ _ | exact (within_t _ _ _).un
      case zk =>
      exact ⟨(n, lo, mid), ⟨h1, hmid.1, by show mid ≤ 10001; omega, by show mid - lo ≤ n; omega, hrun⟩, by show (mid - lo).toNat < (hi - lo).toNat; omega, ⟨.refl _, trivial⟩, ⟨.refl _, .refl _, trivial⟩, trivial, Nat.zero_le _⟩
  · have h5' : ¬ hi - lo > 1 := of_decide_eq_false h5
    have hR1 : R = lo := by
      rw [← hrun]
      cases n with
      | zero => rfl
      | succ n => rw [halve, if_neg h5']
    subst hR1
    refine Aw.exit2 ?_
    refine Aw.sm tab_ok mb0 [] rfl rfl ?zo ?zk
    case zo =>
      repeat' apply AllP.cons
      all_goals first | exact trivial | exact id | exact rfl | exact fun _ => rfl | exact Nat.le_of_ble_eq_true rfl | exact fun _ => Nat.le_of_ble_eq_true rfl | exact Int.natCast_nonneg _ | exact fun _ => Int.natCast_nonneg _ | exact within_t _ _ _ | exact (within_t _ _ _).un
    case zk =>
    exact Aw.ret ⟨_, .cons (.tmp _) (.cons (.tmp _) .nil), rfl⟩
end Go.Proofs.Ytdiclbgklegelaa

namespace Go.Proofs.Ytdiclbgklegelaa
open Go Go.AL Go.AL.Q
theorem range_drop {n k : Nat} (h : k < n) : (List.range n).drop k = k :: (List.range n).drop (k + 1) := by
  rw [List.drop_eq_getElem_cons (by simpa using h)]; simp
theorem range_end {n : Nat} : (List.range n).drop n = [] := List.drop_of_length_le (by simp)
theorem First_t (f : Fish) (hfit : f.Fit) (q : Int) : Ans Try.prog 31 [.agg f.c, .int q] (.tup (f.firstR q)) := by
  have hfr : Free (.tup (f.firstR q)) := .tup _ (by
    have h4 : ∀ a b c d : Int, ∀ x ∈ [A.int a, .int b, .int c, .int d], Free x := fun _ _ _ _ => allC (.s _) (allC (.s _) (allC (.s _) (all1 (.s _))))
    unfold Q.Fish.firstR
    split
    · split
      · split <;> exact h4 _ _ _ _
      · exact h4 _ _ _ _
    · exact h4 _ _ _ _)
  have lr : ((f.races.map Rce.c).length : Int) = f.many := by simp [Q.Fish.many]
  have ls : ((f.seasons.map NR.c).length : Int) = f.seasons.length := by simp
  refine told Try.func31 rfl rfl (Pure.of tab_ok Try.func31 rfl Try.ntmps31 rfl (allC (.agg _ f.free) (all1 (.s _))) (allC (fun _ => rfl) (all1 (fun _ => rfl))) (by first | exact .s _ | assumption | exact .tup _ (by intro x hx; simp only [List.mem_cons, List.not_mem_nil, or_false] at hx; rcases hx with rfl | rfl | rfl | rfl <;> first | exact .s _ | (simp_all; done))) fun E hE => ?_)
  have hE1 : ∀ id, 1 ≤ id → E.φ0 id = none := fun id h => hE id (by omega)
  refine Aw.sm tab_ok mb0 [] rfl rfl ?zo ?zk
  case zo =>
    repeat' apply AllP.cons
    all_goals first | exact trivial | exact id | exact rfl | exact fun _ => rfl | exact Nat.le_of_ble_eq_true rfl | exact fun _ => Nat.le_of_ble_eq_true rfl | exact Int.natCast_nonneg _ | exact fun _ => Int.natCast_nonneg _ | exact within_t _ _ _ | exact (within_t _ _ _).un
  case zk =>
  refine Aw.seq ?_
  refine Aw.sm tab_ok mb0 [(1, [.int f.err])] rfl rfl ?zo ?zk
  case zo =>
    repeat' apply AllP.cons
    all_goals first | exact trivial | exact id | exact rfl | exact fun _ => rfl | exact Nat.le_of_ble_eq_true rfl | exact fun _ => Nat.le_of_ble_eq_true rfl | exact Int.natCast_nonneg _ | exact fun _ => Int.natCast_nonneg _ | exact within_t _ _ _ | exact (within_t _ _ _).un | exact check_t f hfit
  case zk =>
  refine Aw.sm tab_ok mb0 [] rfl rfl ?zo ?zk
  case zo =>
    repeat' apply AllP.cons
    all_goals first | exact trivial | exact id | exact rfl | exact fun _ => rfl | exact Nat.le_of_ble_eq_true rfl | exact fun _ => Nat.le_of_ble_eq_true rfl | exact Int.natCast_nonneg _ | exact fun _ => Int.natCast_nonneg _ | exact within_t _ _ _ | exact (within_t _ _ _).un
  case zk =>
  refine Aw.cond rfl (fun h1 => ?_) (fun h1 => Aw.skip ?_)
  · have hno : f.ok = false := by
      cases h : f.ok with
      | false => rfl
      | true => rw [err_ok h] at h1; exact absurd h1 (by decide)
    refine Aw.sm tab_ok mb0 [] rfl rfl ?zo ?zk
    case zo =>
      repeat' apply AllP.cons
      all_goals first | exact trivial | exact id | exact rfl | exact fun _ => rfl | exact Nat.le_of_ble_eq_true rfl | exact fun _ => Nat.le_of_ble_eq_true rfl | exact Int.natCast_nonneg _ | exact fun _ => Int.natCast_nonneg _ | exact within_t _ _ _ | exact (within_t _ _ _).un
    case zk =>
    exact Aw.ret ⟨_, .cons (.tmp _) (.cons (.tmp _) (.cons (.tmp _) (.cons (.tmp _) .nil))), by unfold Q.Fish.firstR; rw [hno, err_no hno]; rfl⟩
  have hok : f.ok = true := by
    cases h : f.ok with
    | true => rfl
    | false => rw [err_no h] at h1; exact absurd h1 (by decide)
  have hf := FishOk.of hok
  have m3 := hf.m3
  have s6 := hf.s6
  refine Aw.seq ?_
  refine Aw.sm tab_ok mb0 [(1, [.bool (wi q 0 10000)])] rfl rfl ?zo ?zk
  case zo =>
    repeat' apply AllP.cons
    all_goals first | exact trivial | exact id | exact rfl | exact fun _ => rfl | exact Nat.le_of_ble_eq_true rfl | exact fun _ => Nat.le_of_ble_eq_true rfl | exact Int.natCast_nonneg _ | exact fun _ => Int.natCast_nonneg _ | exact within_t _ _ _ | exact (within_t _ _ _).un
  case zk =>
  refine Aw.cond rfl (fun h1 => ?_) (fun h1 => Aw.skip ?_)
  · have hno : wi q 0 10000 = false := by simpa using h1
    refine Aw.sm tab_ok mb0 [] rfl rfl ?zo ?zk
    case zo =>
      repeat' apply AllP.cons
      all_goals first | exact trivial | exact id | exact rfl | exact fun _ => rfl | exact Nat.le_of_ble_eq_true rfl | exact fun _ => Nat.le_of_ble_eq_true rfl | exact Int.natCast_nonneg _ | exact fun _ => Int.natCast_nonneg _ | exact within_t _ _ _ | exact (within_t _ _ _).un
    case zk =>
    exact Aw.ret ⟨_, .cons (.tmp _) (.cons (.tmp _) (.cons (.tmp _) (.cons (.tmp _) .nil))), by unfold Q.Fish.firstR; rw [hok, hno]; rfl⟩
  have hyes : wi q 0 10000 = true := by simpa using h1
  have hq := wi_iff.1 hyes
  have hR : f.firstR q = if (f.first q).2.2 < 0 then [.int 0, .int 0, .int 0, .int 4] else [.int (f.first q).1, .int (f.first q).2.1, .int (f.first q).2.2, .int 0] := by unfold Q.Fish.firstR; rw [hok, hyes]; rfl
  rw [hR]
  have hfirst : f.first q = firstR f q (List.range f.many) (0, 0, -1) := rfl
  generalize f.first q = R at *
  have ufc : ∀ {n}, UnderB n (.cells f.c) := .cells _ fun x hx => (f.free x hx).under
  have h3z : 0 + 3 ≤ f.c.length := Nat.le_refl _
  refine Aw.sm tab_ok mb0 [] rfl rfl ?zo ?zk
  case zo =>
    repeat' apply AllP.cons
    all_goals first | exact trivial | exact id | exact rfl | exact fun _ => rfl | exact Nat.le_of_ble_eq_true rfl | exact fun _ => Nat.le_of_ble_eq_true rfl | exact Int.natCast_nonneg _ | exact fun _ => Int.natCast_nonneg _ | exact within_t _ _ _ | exact (within_t _ _ _).un
  case zk =>
  refine Aw.sm tab_ok mb0 [] rfl rfl ?zo ?zk
  case zo =>
    repeat' apply AllP.cons
    all_goals first | exact trivial | exact id | exact rfl | exact fun _ => rfl | exact Nat.le_of_ble_eq_true rfl | exact fun _ => Nat.le_of_ble_eq_true rfl | exact Int.natCast_nonneg _ | exact fun _ => Int.natCast_nonneg _ | exact within_t _ _ _ | exact (within_t _ _ _).un
  case zk =>
  refine Aw.seq ?_
  refine Aw.sm tab_ok mb0 [] rfl rfl ?zo ?zk
  case zo =>
    repeat' apply AllP.cons
    all_goals first | exact trivial | exact id | exact rfl | exact fun _ => rfl | exact Nat.le_of_ble_eq_true rfl | exact fun _ => Nat.le_of_ble_eq_true rfl | exact Int.natCast_nonneg _ | exact fun _ => Int.natCast_nonneg _ | exact within_t _ _ _ | exact (within_t _ _ _).un
  case zk =>
  refine Aw.block (Aw.rounds (ι := Nat × Int × Int × Int) 1 hE1 [(1, .int q), (9, .ref 0 0), (26, .int f.many)] (fun i => [(4, .int i.2.1), (5, .int i.2.2.1), (6, .int i.2.2.2), (27, .int i.1)]) (fun _ => [(0, .cells f.c)]) (fun i => i.1 ≤ f.many ∧ firstR f q ((List.range f.many).drop i.1) i.2 = R) (fun i => f.many - i.1) (0, 0, 0, -1)
    ⟨Nat.zero_le _, hfirst.symm⟩ ⟨⟨.refl _, .refl _, .of_eq (congrArg A.int lr.symm), trivial⟩, ⟨.refl _, .refl _, .refl _, .refl _, trivial⟩, ⟨rfl, trivial⟩, Nat.le_of_ble_eq_true rfl⟩ ⟨.s _, .ref _ _ (by decide), .s _, trivial⟩ (fun _ _ => ⟨.s _, .s _, .s _, .s _, trivial⟩) (fun _ _ => ⟨⟨by decide, ufc⟩, trivial⟩) ?_)
  rintro ⟨k, b⟩ ⟨hk, hrun⟩
  simp only at hk hrun
  refine Aw.sm tab_ok mb0 [] rfl rfl ?zo ?zk
  case zo =>
    repeat' apply AllP.cons
    all_goals first | exact trivial | exact id | exact rfl | exact fun _ => rfl | exact Nat.le_of_ble_eq_true rfl | exact fun _ => Nat.le_of_ble_eq_true rfl | exact Int.natCast_nonneg _ | exact fun _ => Int.natCast_nonneg _ | exact within_t _ _ _ | exact (within_t _ _ _).un
  case zk =>
  refine Aw.seq (Aw.cond rfl (fun h1 => Aw.skip1 ?_) (fun h1 => Aw.exit2 ?_))
  · have hlt : k < f.many := by have := of_decide_eq_true h1; omega
    rw [range_drop hlt, firstR] at hrun
    refine Aw.seq (Aw.block ?_)
    refine Aw.sm tab_ok mb0 [] rfl rfl ?zo ?zk
    case zo =>
      repeat' apply AllP.cons
      all_goals first | exact trivial | exact id | exact rfl | exact fun _ => rfl | exact Nat.le_of_ble_eq_true rfl | exact fun _ => Nat.le_of_ble_eq_true rfl | exact Int.natCast_nonneg _ | exact fun _ => Int.natCast_nonneg _ | exact within_t _ _ _ | exact (within_t _ _ _).un
    case zk =>
    refine Aw.sm tab_ok mb0 [] rfl rfl ?zo ?zk
    case zo =>
      repeat' apply AllP.cons
      all_goals first | exact trivial | exact id | exact rfl | exact fun _ => rfl | exact Nat.le_of_ble_eq_true rfl | exact fun _ => Nat.le_of_ble_eq_true rfl | exact Int.natCast_nonneg _ | exact fun _ => Int.natCast_nonneg _ | exact within_t _ _ _ | exact (within_t _ _ _).un
    case zk =>
    refine Aw.block (Aw.rounds (ι := Nat × Int × Int × Int) 1 hE1 [(1, .int q), (9, .ref 0 0), (10, .int k), (26, .int f.many), (27, .int k), (33, .int f.seasons.length)] (fun i => [(4, .int i.2.1), (5, .int i.2.2.1), (6, .int i.2.2.2), (34, .int i.1)]) (fun _ => [(0, .cells f.c)])
      (fun i => i.1 ≤ f.seasons.length ∧ firstR f q ((List.range f.many).drop (k + 1)) (firstS f q k ((List.range f.seasons.length).drop i.1) i.2) = R) (fun i => f.seasons.length - i.1) (0, b)
      ⟨Nat.zero_le _, hrun⟩ ⟨⟨.refl _, .refl _, .refl _, .refl _, .refl _, .of_eq (congrArg A.int ls.symm), trivial⟩, ⟨.refl _, .refl _, .refl _, .refl _, trivial⟩, ⟨rfl, trivial⟩, Nat.le_of_ble_eq_true rfl⟩ ⟨.s _, .ref _ _ (by decide), .s _, .s _, .s _, .s _, trivial⟩ (fun _ _ => ⟨.s _, .s _, .s _, .s _, trivial⟩) (fun _ _ => ⟨⟨by decide, ufc⟩, trivial⟩) ?_)
    rintro ⟨j, b⟩ ⟨hj, hrun⟩
    simp only at hj hrun
    refine Aw.sm tab_ok mb0 [] rfl rfl ?zo ?zk
    case zo =>
      repeat' apply AllP.cons
      all_goals first | exact trivial | exact id | exact rfl | exact fun _ => rfl | exact Nat.le_of_ble_eq_true rfl | exact fun _ => Nat.le_of_ble_eq_true rfl | exact Int.natCast_nonneg _ | exact fun _ => Int.natCast_nonneg _ | exact within_t _ _ _ | exact (within_t _ _ _).un
    case zk =>
    refine Aw.seq (Aw.cond rfl (fun h2 => Aw.skip1 ?_) (fun h2 => Aw.exit2 ?_))
    · have hjl : j < f.seasons.length := by have := of_decide_eq_true h2; omega
      rw [range_drop hjl, firstS] at hrun
      refine Aw.seq (Aw.block ?_)
      refine Aw.sm tab_ok mb0 [] rfl rfl ?zo ?zk
      case zo =>
        repeat' apply AllP.cons
        all_goals first | exact trivial | exact id | exact rfl | exact fun _ => rfl | exact Nat.le_of_ble_eq_true rfl | exact fun _ => Nat.le_of_ble_eq_true rfl | exact Int.natCast_nonneg _ | exact fun _ => Int.natCast_nonneg _ | exact within_t _ _ _ | exact (within_t _ _ _).un
      case zk =>
      refine Aw.sm tab_ok mb0 [(0, [.agg f.c]), (4, [.int (f.breakY k j q)])] rfl rfl ?zo ?zk
      case zo =>
        repeat' apply AllP.cons
        all_goals first | exact trivial | exact id | exact rfl | exact fun _ => rfl | exact Nat.le_of_ble_eq_true rfl | exact fun _ => Nat.le_of_ble_eq_true rfl | exact Int.natCast_nonneg _ | exact fun _ => Int.natCast_nonneg _ | exact within_t _ _ _ | exact (within_t _ _ _).un | exact breaks_t f hf k j q hlt hjl (by omega)
      case zk =>
      generalize f.breakY k j q = y at *
      refine Aw.sm tab_ok mb0 [] rfl rfl ?zo ?zk
      case zo =>
        repeat' apply AllP.cons
        all_goals first | exact trivial | exact id | exact rfl | exact fun _ => rfl | exact Nat.le_of_ble_eq_true rfl | exact fun _ => Nat.le_of_ble_eq_true rfl | exact Int.natCast_nonneg _ | exact fun _ => Int.natCast_nonneg _ | exact within_t _ _ _ | exact (within_t _ _ _).un | exact fun _ _ => rfl | exact fun h1 h2 => gq_c h1 h2
      case zk =>
      have hc : cond (decide (y ≥ 0)) (cond (decide (b.2.2 < 0)) true (decide (y < b.2.2))) false = decide (y ≥ 0 ∧ (b.2.2 < 0 ∨ y < b.2.2)) := by
        rw [Bool.eq_iff_iff]; simp only [c_and, c_or, Bool.and_eq_true, Bool.or_eq_true, decide_eq_true_eq]
      refine Aw.cond rfl (fun h3 => ?_) (fun h3 => Aw.skip ?_)
      · have h3' : y ≥ 0 ∧ (b.2.2 < 0 ∨ y < b.2.2) := of_decide_eq_true (hc.symm.trans h3)
        rw [if_pos h3'] at hrun
        refine Aw.em tab_ok mb0 [] rfl rfl ?zo ?zk
        case zo =>
          repeat' apply AllP.cons
          all_goals first | exact trivial | exact id | exact rfl | exact fun _ => rfl | exact Nat.le_of_ble_eq_true rfl | exact fun _ => Nat.le_of_ble_eq_true rfl | exact Int.natCast_nonneg _ | exact fun _ => Int.natCast_nonneg _ | exact within_t _ _ _ | exact (within_t _ _ _).un
        case zk =>
        refine Aw.em tab_ok mb0 [] rfl rfl ?zo ?zk
        case zo =>
          repeat' apply AllP.cons
          all_goals first | exact trivial | exact id | exact rfl | exact fun _ => rfl | exact Nat.le_of_ble_eq_true rfl | exact fun _ => Nat.le_of_ble_eq_true rfl | exact Int.natCast_nonneg _ | exact fun _ => Int.natCast_nonneg _ | exact within_t _ _ _ | exact (within_t _ _ _).un | exact inrk j (by omega)
        case zk =>
        exact ⟨(j + 1, (k : Int), (j : Int), y), ⟨hjl, hrun⟩, by show f.seasons.length - (j + 1) < f.seasons.length - j; omega, ⟨.refl _, .refl _, .refl _, .refl _, .refl _, .refl _, trivial⟩, ⟨.refl _, .refl _, .refl _, .refl _, trivial⟩, ⟨rfl, trivial⟩, Nat.le_of_ble_eq_true rfl⟩
      · have h3' : ¬ (y ≥ 0 ∧ (b.2.2 < 0 ∨ y < b.2.2)) := of_decide_eq_false (hc.symm.trans h3)
        rw [if_neg h3'] at hrun
        refine Aw.em tab_ok mb0 [] rfl rfl ?zo ?zk
        case zo =>
          repeat' apply AllP.cons
          all_goals first | exact trivial | exact id | exact rfl | exact fun _ => rfl | exact Nat.le_of_ble_eq_true rfl | exact fun _ => Nat.le_of_ble_eq_true rfl | exact Int.natCast_nonneg _ | exact fun _ => Int.natCast_nonneg _ | exact within_t _ _ _ | exact (within_t _ _ _).un | exact inrk j (by omega)
        case zk =>
        exact ⟨(j + 1, b), ⟨hjl, hrun⟩, by show f.seasons.length - (j + 1) < f.seasons.length - j; omega, ⟨.refl _, .refl _, .refl _, .refl _, .refl _, .refl _, trivial⟩, ⟨.refl _, .refl _, .refl _, .refl _, trivial⟩, ⟨rfl, trivial⟩, Nat.le_of_ble_eq_true rfl⟩
    · have hle : j = f.seasons.length := by have := of_decide_eq_false h2; omega
      subst hle
      rw [range_end, firstS] at hrun
      refine Aw.em tab_ok mb0 [] rfl rfl ?zo ?zk
      case zo =>
        repeat' apply AllP.cons
        all_goals first | exact trivial | exact id | exact rfl | exact fun _ => rfl | exact Nat.le_of_ble_eq_true rfl | exact fun _ => Nat.le_of_ble_eq_true rfl | exact Int.natCast_nonneg _ | exact fun _ => Int.natCast_nonneg _ | exact within_t _ _ _ | exact (within_t _ _ _).un | exact inrk k (by omega)
      case zk =>
      exact ⟨(k + 1, b), ⟨hlt, hrun⟩, by show f.many - (k + 1) < f.many - k; omega, ⟨.refl _, .refl _, .refl _, trivial⟩, ⟨.refl _, .refl _, .refl _, .refl _, trivial⟩, ⟨rfl, trivial⟩, Nat.le_of_ble_eq_true rfl⟩
  · have hle : k = f.many := by have := of_decide_eq_false h1; omega
    subst hle
    rw [range_end, firstR] at hrun
    subst hrun
    refine Aw.seq ?_
    refine Aw.sm tab_ok mb0 [] rfl rfl ?zo ?zk
    case zo =>
      repeat' apply AllP.cons
      all_goals first | exact trivial | exact id | exact rfl | exact fun _ => rfl | exact Nat.le_of_ble_eq_true rfl | exact fun _ => Nat.le_of_ble_eq_true rfl | exact Int.natCast_nonneg _ | exact fun _ => Int.natCast_nonneg _ | exact within_t _ _ _ | exact (within_t _ _ _).un
    case zk =>
    refine Aw.cond rfl (fun h3 => ?_) (fun h3 => Aw.skip ?_)
    · have h3' : b.2.2 < 0 := of_decide_eq_true h3
      rw [if_pos h3']
      refine Aw.sm tab_ok mb0 [] rfl rfl ?zo ?zk
      case zo =>
        repeat' apply AllP.cons
        all_goals first | exact trivial | exact id | exact rfl | exact fun _ => rfl | exact Nat.le_of_ble_eq_true rfl | exact fun _ => Nat.le_of_ble_eq_true rfl | exact Int.natCast_nonneg _ | exact fun _ => Int.natCast_nonneg _ | exact within_t _ _ _ | exact (within_t _ _ _).un
      case zk =>
      exact Aw.ret ⟨_, .cons (.tmp _) (.cons (.tmp _) (.cons (.tmp _) (.cons (.tmp _) .nil))), rfl⟩
    · have h3' : ¬ b.2.2 < 0 := of_decide_eq_false h3
      rw [if_neg h3']
      refine Aw.sm tab_ok mb0 [] rfl rfl ?zo ?zk
      case zo =>
        repeat' apply AllP.cons
        all_goals first | exact trivial | exact id | exact rfl | exact fun _ => rfl | exact Nat.le_of_ble_eq_true rfl | exact fun _ => Nat.le_of_ble_eq_true rfl | exact Int.natCast_nonneg _ | exact fun _ => Int.natCast_nonneg _ | exact within_t _ _ _ | exact (within_t _ _ _).un
      case zk =>
      exact Aw.ret ⟨_, .cons (.tmp _) (.cons (.tmp _) (.cons (.tmp _) (.cons (.tmp _) .nil))), rfl⟩
end Go.Proofs.Ytdiclbgklegelaa

