/- What the proof leans on, part 4: HT H1 H2 H3 H4 H5 H6 H7 H8 H9 H10 Y2. -/
import Derived.Test.YtohbjneaaahpcaaK3
import Derived.KernelRfl
import Derived.Test.YtohbjneaaahpcaaProg
set_option linter.all false
namespace Go.Proofs.Ytohbjneaaahpcaa
open Go Go.AL
def tyT : Nat → Ty
  | 1 => .func
  | 2 => .int
  | 3 => .int
  | 4 => .bool
  | 15 => .ptr 131
  | 16 => .ptr 134
  | 17 => .ptr 143
  | 18 => .struct [(17, 0)]
  | 19 => .struct [(17, 0)]
  | 22 => .slice 3
  | 23 => .slice 70
  | 24 => .struct [(3, 0), (3, 1), (22, 2), (3, 3), (23, 4), (3, 5)]
  | 25 => .struct [(3, 0), (3, 1), (22, 2), (3, 3), (23, 4), (3, 5)]
  | 26 => .slice 52
  | 27 => .struct [(25, 0), (26, 6)]
  | 28 => .struct [(25, 0), (26, 6)]
  | 29 => .int
  | 31 => .func
  | 32 => .func
  | 34 => .func
  | 35 => .func
  | 36 => .func
  | 37 => .func
  | 38 => .arr 2 3
  | 40 => .func
  | 41 => .func
  | 42 => .func
  | 43 => .func
  | 44 => .slice 64
  | 46 => .func
  | 47 => .func
  | 48 => .func
  | 49 => .func
  | 50 => .func
  | 51 => .struct [(3, 0), (3, 1), (3, 2), (4, 3)]
  | 52 => .struct [(3, 0), (3, 1), (3, 2), (4, 3)]
  | 53 => .func
  | 54 => .func
  | 55 => .arr 3 3
  | 56 => .func
  | 57 => .func
  | 58 => .func
  | 59 => .slice 22
  | 60 => .func
  | 61 => .func
  | 62 => .func
  | 63 => .struct [(3, 0), (3, 1)]
  | 64 => .struct [(3, 0), (3, 1)]
  | 65 => .func
  | 66 => .func
  | 67 => .func
  | 68 => .func
  | 69 => .struct [(3, 0), (3, 1)]
  | 70 => .struct [(3, 0), (3, 1)]
  | 71 => .func
  | 72 => .slice 25
  | 73 => .slice 26
  | 74 => .func
  | 75 => .map 85 4
  | 76 => .struct [(25, 0), (75, 6)]
  | 77 => .struct [(25, 0), (75, 6)]
  | 78 => .slice 105
  | 79 => .struct [(77, 0), (78, 7)]
  | 80 => .struct [(77, 0), (78, 7)]
  | 82 => .func
  | 83 => .func
  | 84 => .struct [(3, 0), (3, 1)]
  | 85 => .struct [(3, 0), (3, 1)]
  | 86 => .func
  | 87 => .func
  | 88 => .func
  | 89 => .func
  | 90 => .func
  | 91 => .func
  | 92 => .slice 99
  | 94 => .func
  | 95 => .func
  | 96 => .func
  | 97 => .func
  | 98 => .arr 80 3
  | 99 => .arr 80 3
  | 100 => .func
  | 101 => .func
  | 102 => .func
  | 103 => .func
  | 104 => .struct [(52, 0), (85, 4)]
  | 105 => .struct [(52, 0), (85, 4)]
  | 106 => .func
  | 107 => .func
  | 108 => .slice 85
  | 109 => .slice 114
  | 111 => .func
  | 112 => .func
  | 113 => .struct [(85, 0), (3, 2)]
  | 114 => .struct [(85, 0), (3, 2)]
  | 115 => .func
  | 116 => .func
  | 117 => .func
  | 119 => .func
  | 120 => .func
  | 121 => .func
  | 122 => .ptr 99
  | 123 => .func
  | 124 => .struct [(65, 0)]
  | 125 => .struct [(65, 0)]
  | 126 => .func
  | 127 => .func
  | 128 => .func
  | 129 => .func
  | 138 => .func
  | 139 => .ptr 5
  | _ => .none
def szT : Nat → Nat
  | 24 => 6
  | 25 => 6
  | 27 => 7
  | 28 => 7
  | 38 => 2
  | 51 => 4
  | 52 => 4
  | 55 => 3
  | 63 => 2
  | 64 => 2
  | 69 => 2
  | 70 => 2
  | 76 => 7
  | 77 => 7
  | 79 => 8
  | 80 => 8
  | 84 => 2
  | 85 => 2
  | 98 => 80
  | 99 => 80
  | 104 => 6
  | 105 => 6
  | 113 => 3
  | 114 => 3
  | _ => 1
def byT : Nat → Nat
  | 1 => 8
  | 2 => 8
  | 3 => 8
  | 4 => 1
  | 15 => 8
  | 16 => 8
  | 17 => 8
  | 18 => 8
  | 19 => 8
  | 22 => 24
  | 23 => 24
  | 24 => 80
  | 25 => 80
  | 26 => 24
  | 27 => 104
  | 28 => 104
  | 29 => 8
  | 31 => 8
  | 32 => 8
  | 34 => 8
  | 35 => 8
  | 36 => 8
  | 37 => 8
  | 38 => 16
  | 40 => 8
  | 41 => 8
  | 42 => 8
  | 43 => 8
  | 44 => 24
  | 46 => 8
  | 47 => 8
  | 48 => 8
  | 49 => 8
  | 50 => 8
  | 51 => 32
  | 52 => 32
  | 53 => 8
  | 54 => 8
  | 55 => 24
  | 56 => 8
  | 57 => 8
  | 58 => 8
  | 59 => 24
  | 60 => 8
  | 61 => 8
  | 62 => 8
  | 63 => 16
  | 64 => 16
  | 65 => 8
  | 66 => 8
  | 67 => 8
  | 68 => 8
  | 69 => 16
  | 70 => 16
  | 71 => 8
  | 72 => 24
  | 73 => 24
  | 74 => 8
  | 75 => 8
  | 76 => 88
  | 77 => 88
  | 78 => 24
  | 79 => 112
  | 80 => 112
  | 82 => 8
  | 83 => 8
  | 84 => 16
  | 85 => 16
  | 86 => 8
  | 87 => 8
  | 88 => 8
  | 89 => 8
  | 90 => 8
  | 91 => 8
  | 92 => 24
  | 94 => 8
  | 95 => 8
  | 96 => 8
  | 97 => 8
  | 98 => 640
  | 99 => 640
  | 100 => 8
  | 101 => 8
  | 102 => 8
  | 103 => 8
  | 104 => 48
  | 105 => 48
  | 106 => 8
  | 107 => 8
  | 108 => 24
  | 109 => 24
  | 111 => 8
  | 112 => 8
  | 113 => 24
  | 114 => 24
  | 115 => 8
  | 116 => 8
  | 117 => 8
  | 119 => 8
  | 120 => 8
  | 121 => 8
  | 122 => 8
  | 123 => 8
  | 124 => 8
  | 125 => 8
  | 126 => 8
  | 127 => 8
  | 128 => 8
  | 129 => 8
  | 138 => 8
  | 139 => 8
  | _ => 0
def zrT : Nat → List A
  | 1 => [.s .nilFunc]
  | 2 => [.s (.int .i64 0)]
  | 3 => [.s (.int .i64 0)]
  | 4 => [.s (.bool false)]
  | 15 => [.s (.pointer none)]
  | 16 => [.s (.pointer none)]
  | 17 => [.s (.pointer none)]
  | 18 => [.s (.pointer none)]
  | 19 => [.s (.pointer none)]
  | 22 => [.sl true .exact []]
  | 23 => [.sl true .exact []]
  | 24 => [.s (.int .i64 0), .s (.int .i64 0), .sl true .exact [], .s (.int .i64 0), .sl true .exact [], .s (.int .i64 0)]
  | 25 => [.s (.int .i64 0), .s (.int .i64 0), .sl true .exact [], .s (.int .i64 0), .sl true .exact [], .s (.int .i64 0)]
  | 26 => [.sl true .exact []]
  | 27 => [.s (.int .i64 0), .s (.int .i64 0), .sl true .exact [], .s (.int .i64 0), .sl true .exact [], .s (.int .i64 0), .sl true .exact []]
  | 28 => [.s (.int .i64 0), .s (.int .i64 0), .sl true .exact [], .s (.int .i64 0), .sl true .exact [], .s (.int .i64 0), .sl true .exact []]
  | 29 => [.s (.int .i64 0)]
  | 31 => [.s .nilFunc]
  | 32 => [.s .nilFunc]
  | 34 => [.s .nilFunc]
  | 35 => [.s .nilFunc]
  | 36 => [.s .nilFunc]
  | 37 => [.s .nilFunc]
  | 38 => [.s (.int .i64 0), .s (.int .i64 0)]
  | 40 => [.s .nilFunc]
  | 41 => [.s .nilFunc]
  | 42 => [.s .nilFunc]
  | 43 => [.s .nilFunc]
  | 44 => [.sl true .exact []]
  | 46 => [.s .nilFunc]
  | 47 => [.s .nilFunc]
  | 48 => [.s .nilFunc]
  | 49 => [.s .nilFunc]
  | 50 => [.s .nilFunc]
  | 51 => [.s (.int .i64 0), .s (.int .i64 0), .s (.int .i64 0), .s (.bool false)]
  | 52 => [.s (.int .i64 0), .s (.int .i64 0), .s (.int .i64 0), .s (.bool false)]
  | 53 => [.s .nilFunc]
  | 54 => [.s .nilFunc]
  | 55 => [.s (.int .i64 0), .s (.int .i64 0), .s (.int .i64 0)]
  | 56 => [.s .nilFunc]
  | 57 => [.s .nilFunc]
  | 58 => [.s .nilFunc]
  | 59 => [.sl true .exact []]
  | 60 => [.s .nilFunc]
  | 61 => [.s .nilFunc]
  | 62 => [.s .nilFunc]
  | 63 => [.s (.int .i64 0), .s (.int .i64 0)]
  | 64 => [.s (.int .i64 0), .s (.int .i64 0)]
  | 65 => [.s .nilFunc]
  | 66 => [.s .nilFunc]
  | 67 => [.s .nilFunc]
  | 68 => [.s .nilFunc]
  | 69 => [.s (.int .i64 0), .s (.int .i64 0)]
  | 70 => [.s (.int .i64 0), .s (.int .i64 0)]
  | 71 => [.s .nilFunc]
  | 72 => [.sl true .exact []]
  | 73 => [.sl true .exact []]
  | 74 => [.s .nilFunc]
  | 75 => [.s (.map none)]
  | 76 => [.s (.int .i64 0), .s (.int .i64 0), .sl true .exact [], .s (.int .i64 0), .sl true .exact [], .s (.int .i64 0), .s (.map none)]
  | 77 => [.s (.int .i64 0), .s (.int .i64 0), .sl true .exact [], .s (.int .i64 0), .sl true .exact [], .s (.int .i64 0), .s (.map none)]
  | 78 => [.sl true .exact []]
  | 79 => [.s (.int .i64 0), .s (.int .i64 0), .sl true .exact [], .s (.int .i64 0), .sl true .exact [], .s (.int .i64 0), .s (.map none), .sl true .exact []]
  | 80 => [.s (.int .i64 0), .s (.int .i64 0), .sl true .exact [], .s (.int .i64 0), .sl true .exact [], .s (.int .i64 0), .s (.map none), .sl true .exact []]
  | 82 => [.s .nilFunc]
  | 83 => [.s .nilFunc]
  | 84 => [.s (.int .i64 0), .s (.int .i64 0)]
  | 85 => [.s (.int .i64 0), .s (.int .i64 0)]
  | 86 => [.s .nilFunc]
  | 87 => [.s .nilFunc]
  | 88 => [.s .nilFunc]
  | 89 => [.s .nilFunc]
  | 90 => [.s .nilFunc]
  | 91 => [.s .nilFunc]
  | 92 => [.sl true .exact []]
  | 94 => [.s .nilFunc]
  | 95 => [.s .nilFunc]
  | 96 => [.s .nilFunc]
  | 97 => [.s .nilFunc]
  | 98 => List.replicate 80 (.s (.int .i64 0))
  | 99 => List.replicate 80 (.s (.int .i64 0))
  | 100 => [.s .nilFunc]
  | 101 => [.s .nilFunc]
  | 102 => [.s .nilFunc]
  | 103 => [.s .nilFunc]
  | 104 => [.s (.int .i64 0), .s (.int .i64 0), .s (.int .i64 0), .s (.bool false), .s (.int .i64 0), .s (.int .i64 0)]
  | 105 => [.s (.int .i64 0), .s (.int .i64 0), .s (.int .i64 0), .s (.bool false), .s (.int .i64 0), .s (.int .i64 0)]
  | 106 => [.s .nilFunc]
  | 107 => [.s .nilFunc]
  | 108 => [.sl true .exact []]
  | 109 => [.sl true .exact []]
  | 111 => [.s .nilFunc]
  | 112 => [.s .nilFunc]
  | 113 => [.s (.int .i64 0), .s (.int .i64 0), .s (.int .i64 0)]
  | 114 => [.s (.int .i64 0), .s (.int .i64 0), .s (.int .i64 0)]
  | 115 => [.s .nilFunc]
  | 116 => [.s .nilFunc]
  | 117 => [.s .nilFunc]
  | 119 => [.s .nilFunc]
  | 120 => [.s .nilFunc]
  | 121 => [.s .nilFunc]
  | 122 => [.s (.pointer none)]
  | 123 => [.s .nilFunc]
  | 124 => [.s .nilFunc]
  | 125 => [.s .nilFunc]
  | 126 => [.s .nilFunc]
  | 127 => [.s .nilFunc]
  | 128 => [.s .nilFunc]
  | 129 => [.s .nilFunc]
  | 138 => [.s .nilFunc]
  | 139 => [.s (.pointer none)]
  | _ => []
noncomputable def tab : Tab := ⟨tyT, szT, byT, zrT, pureEq Try.prog, findIx Try.prog, keyOk Try.prog⟩
theorem tyT_none : ∀ t, 145 ≤ t → tyT t = .none := by
  intro t h
  unfold tyT
  split <;> first | rfl | omega
theorem tab_chk : ((List.range 145).all fun t => tab.chkAt Try.prog t) = true := by kernel_rfl
theorem tab_ok : tab.Ok Try.prog := Tab.ok_of tab_chk tyT_none (by kernel_rfl) (by kernel_rfl) (by kernel_rfl)
end Go.Proofs.Ytohbjneaaahpcaa

namespace Go.Proofs.Ytohbjneaaahpcaa
open Go Go.AL Go.AL.Q
def mb0 : Nat → Bool := fun _ => false
theorem mixed : Try.prog.follows .mixedOrders = true := by kernel_rfl
theorem told {f : Nat} {fn : Func} {c : Code} {args : List A} {v : A} (hf : Try.prog.funcs[f]? = some fn) (hb : fn.body = some c) (hn : enterOk fn = true) (h : Pure Try.prog f args v) : Ans Try.prog f args v := ⟨enters_of hf hb hn, h⟩
theorem within_t (n a b : Int) : Ans Try.prog 48 [.int n, .int a, .int b] (.bool (wi n a b)) := by
  refine told Try.func48 rfl rfl (Pure.of tab_ok Try.func48 rfl Try.ntmps48 rfl (allC (.s _) (allC (.s _) (all1 (.s _)))) (allC (fun _ => rfl) (allC (fun _ => rfl) (all1 (fun _ => rfl)))) (by first | exact .s _ | assumption | exact .tup _ (by intro x hx; simp only [List.mem_cons, List.not_mem_nil, or_false] at hx; rcases hx with rfl | rfl | rfl | rfl <;> first | exact .s _ | (simp_all; done))) fun E hE => ?_)
  refine Aw.sm tab_ok mb0 [] rfl rfl ?zo ?zk
  case zo =>
    repeat' apply AllP.cons
    all_goals first | exact trivial
  case zk =>
  refine Aw.sm tab_ok mb0 [] rfl rfl ?zo ?zk
  case zo =>
    repeat' apply AllP.cons
    all_goals first | exact trivial | exact id | exact fun _ => rfl
  case zk =>
  exact Aw.ret ⟨_, .cons (.tmp _) .nil, rfl⟩
theorem in_t (n a b : Int) : Ans Try.prog 40 [.int n, .int a, .int b] (.bool (wi n a b)) := by
  refine told Try.func40 rfl rfl (Pure.of tab_ok Try.func40 rfl Try.ntmps40 rfl (allC (.s _) (allC (.s _) (all1 (.s _)))) (allC (fun _ => rfl) (allC (fun _ => rfl) (all1 (fun _ => rfl)))) (by first | exact .s _ | assumption | exact .tup _ (by intro x hx; simp only [List.mem_cons, List.not_mem_nil, or_false] at hx; rcases hx with rfl | rfl | rfl | rfl <;> first | exact .s _ | (simp_all; done))) fun E hE => ?_)
  refine Aw.sm tab_ok mb0 [] rfl rfl ?zo ?zk
  case zo =>
    repeat' apply AllP.cons
    all_goals first | exact trivial
  case zk =>
  refine Aw.sm tab_ok mb0 [] rfl rfl ?zo ?zk
  case zo =>
    repeat' apply AllP.cons
    all_goals first | exact trivial | exact id | exact fun _ => rfl
  case zk =>
  exact Aw.ret ⟨_, .cons (.tmp _) .nil, rfl⟩
theorem bit_t (n k : Int) (h : 0 ≤ k) : Ans Try.prog 76 [.int n, .int k] (.bool (iand (n.fdiv (2 ^ (min k.toNat 64))) 1 == 1)) := by
  refine told Try.func76 rfl rfl (Pure.of tab_ok Try.func76 rfl Try.ntmps76 rfl (allC (.s _) (all1 (.s _))) (allC (fun _ => rfl) (all1 (fun _ => rfl))) (by first | exact .s _ | assumption | exact .tup _ (by intro x hx; simp only [List.mem_cons, List.not_mem_nil, or_false] at hx; rcases hx with rfl | rfl | rfl | rfl <;> first | exact .s _ | (simp_all; done))) fun E hE => ?_)
  refine Aw.sm tab_ok mb0 [] rfl rfl ?zo ?zk
  case zo =>
    repeat' apply AllP.cons
    all_goals first | exact trivial
  case zk =>
  refine Aw.sm tab_ok mb0 [] rfl rfl ?zo ?zk
  case zo =>
    repeat' apply AllP.cons
    all_goals first | exact trivial | exact h
  case zk =>
  exact Aw.ret ⟨_, .cons (.tmp _) .nil, rfl⟩
theorem members_t (s : Int) (n : Nat) (hn : n ≤ 1000) : Ans Try.prog 42 [.int s, .int n] (outA (memL s n)) := by
  have hfr := outA_free (memL s n)
  refine told Try.func42 rfl rfl (Pure.of tab_ok Try.func42 rfl Try.ntmps42 rfl (allC (.s _) (all1 (.s _))) (allC (fun _ => rfl) (all1 (fun _ => rfl))) (by first | exact .s _ | assumption | exact .tup _ (by intro x hx; simp only [List.mem_cons, List.not_mem_nil, or_false] at hx; rcases hx with rfl | rfl | rfl | rfl <;> first | exact .s _ | (simp_all; done))) fun E hE => ?_)
  refine Aw.sm tab_ok mb0 [] rfl rfl ?zo ?zk
  case zo =>
    repeat' apply AllP.cons
    all_goals first | exact trivial
  case zk =>
  refine Aw.sm tab_ok mb0 [] rfl rfl ?zo ?zk
  case zo =>
    repeat' apply AllP.cons
    all_goals first | exact trivial
  case zk =>
  refine Aw.seq ?_
  refine Aw.sm tab_ok mb0 [] rfl rfl ?zo ?zk
  case zo =>
    repeat' apply AllP.cons
    all_goals first | exact trivial
  case zk =>
  refine Aw.block (Aw.rounds 0 hE [(0, .int s), (1, .int n)] (fun k : Nat => [(5, grL 3 (memL s k)), (6, .int k)]) (fun _ => []) (fun k => k ≤ n) (fun k => n - k) 0
    (Nat.zero_le _) ⟨⟨.refl _, .refl _, trivial⟩, ⟨.refl _, .refl _, trivial⟩, trivial, Nat.le_refl _⟩ ⟨.s _, .s _, trivial⟩ (fun _ _ => ⟨grL_under _, .s _, trivial⟩) (fun _ _ => trivial) fun k hk => ?_)
  refine Aw.seq ?_
  refine Aw.sm tab_ok mb0 [] rfl rfl ?zo ?zk
  case zo =>
    repeat' apply AllP.cons
    all_goals first | exact trivial
  case zk =>
  refine Aw.cond rfl (fun h1 => Aw.skip ?_) (fun h1 => ?_)
  · have hlt : k < n := by have := of_decide_eq_true h1; omega
    refine Aw.seq (Aw.block ?_)
    refine Aw.sm tab_ok mb0 [(2, [.bool (bitI s k)])] rfl rfl ?zo ?zk
    case zo =>
      repeat' apply AllP.cons
      all_goals first | exact trivial | exact bit_t s k (by omega)
    case zk =>
    refine Aw.cond rfl (fun h2 => ?_) (fun h2 => Aw.skip ?_)
    · have h2' : bitI s k = true := h2
      have e : memL s (k + 1) = memL s k ++ [(k : Int)] := by rw [memL_succ, if_pos h2']
      have hlen := memL_len s k
      cases hm : memL s k with
      | nil =>
        rw [hm] at e
        refine Aw.em tab_ok mb0 [] rfl rfl ?zo ?zk
        case zo =>
          repeat' apply AllP.cons
          all_goals first | exact trivial | exact Nat.le_of_ble_eq_true rfl | exact (show ∀ z ∈ [] ++ [[A.int _]], z.length = 1 from fun z hz => by simp at hz; subst hz; rfl)
        case zk =>
        refine Aw.em tab_ok mb0 [] rfl rfl ?zo ?zk
        case zo =>
          repeat' apply AllP.cons
          all_goals first | exact trivial | exact inrk k (by omega)
        case zk =>
        exact ⟨k + 1, hlt, by omega, ⟨.refl _, .refl _, trivial⟩, ⟨.of_eq (by rw [e]; rfl), .refl _, trivial⟩, trivial, Nat.le_of_ble_eq_true rfl⟩
      | cons x l =>
        rw [hm] at e hlen
        have hlen2 : (ints (x :: l)).length ≤ k := by simp only [ints, List.length_map]; exact hlen
        have hz : ∀ z ∈ ints (x :: l), z.length = 1 := fun z hz => by obtain ⟨i, _, rfl⟩ := List.mem_map.1 hz; rfl
        refine Aw.em tab_ok mb0 [] rfl rfl ?zo ?zk
        case zo =>
          repeat' apply AllP.cons
          all_goals first | exact trivial | exact Nat.le_of_ble_eq_true rfl | exact (show ∀ z ∈ [[A.int _]], z.length = 1 from fun z hz => by simp at hz; subst hz; rfl) | exact hz | exact (show ((ints (x :: l)).length + 1) * 8 ≤ 140737488355328 by omega) | exact (show (ints (x :: l)).length + 1 ≤ maxLen by unfold maxLen; omega)
        case zk =>
        refine Aw.em tab_ok mb0 [] rfl rfl ?zo ?zk
        case zo =>
          repeat' apply AllP.cons
          all_goals first | exact trivial | exact inrk k (by omega)
        case zk =>
        exact ⟨k + 1, hlt, by omega, ⟨.refl _, .refl _, trivial⟩, ⟨.of_eq (by rw [e]; show grL 3 ((x :: l) ++ [(k : Int)]) = A.sl false (.own 3) (ints (x :: l) ++ [[A.int k]]); simp [grL, ints]), .refl _, trivial⟩, trivial, Nat.le_of_ble_eq_true rfl⟩
    · have h2' : bitI s k = false := h2
      have e : memL s (k + 1) = memL s k := by rw [memL_succ, h2']; rfl
      refine Aw.em tab_ok mb0 [] rfl rfl ?zo ?zk
      case zo =>
        repeat' apply AllP.cons
        all_goals first | exact trivial | exact inrk k (by omega)
      case zk =>
      exact ⟨k + 1, hlt, by omega, ⟨.refl _, .refl _, trivial⟩, ⟨.of_eq (by rw [e]; rfl), .refl _, trivial⟩, trivial, Nat.le_of_ble_eq_true rfl⟩
  · have hle : k = n := by have := of_decide_eq_false h1; omega
    subst hle
    refine Aw.exit2 ?_
    cases hm : memL s k with
    | nil =>
      refine Aw.sm tab_ok mb0 [] rfl rfl ?zo ?zk
      case zo =>
        repeat' apply AllP.cons
        all_goals first | exact trivial
      case zk =>
      exact Aw.ret ⟨_, .cons (.tmp _) .nil, rfl⟩
    | cons x l =>
      refine Aw.sm tab_ok mb0 [] rfl rfl ?zo ?zk
      case zo =>
        repeat' apply AllP.cons
        all_goals first | exact trivial
      case zk =>
      exact Aw.ret ⟨_, .cons (.tmp _) .nil, rfl⟩
theorem rising_t (l : List Int) (b : Bool) (n : Int) (hl : (l.length : Int) ≤ 9223372036854775807) (hn : 0 ≤ n ∧ n ≤ 1000) : Ans Try.prog 36 [.sl b .any (ints l), .int n] (.bool (risingF n (-1) l)) := by
  have li : ((ints l).length : Int) = l.length := by simp [ints]
  refine told Try.func36 rfl rfl (Pure.of tab_ok Try.func36 rfl Try.ntmps36 rfl (allC (free_ints _ _ _) (all1 (.s _))) (allC (fun _ => rfl) (all1 (fun _ => rfl))) (by first | exact .s _ | assumption | exact .tup _ (by intro x hx; simp only [List.mem_cons, List.not_mem_nil, or_false] at hx; rcases hx with rfl | rfl | rfl | rfl <;> first | exact .s _ | (simp_all; done))) fun E hE => ?_)
  refine Aw.sm tab_ok mb0 [] rfl rfl ?zo ?zk
  case zo =>
    repeat' apply AllP.cons
    all_goals first | exact trivial
  case zk =>
  refine Aw.seq ?_
  refine Aw.sm tab_ok mb0 [] rfl rfl ?zo ?zk
  case zo =>
    repeat' apply AllP.cons
    all_goals first | exact trivial
  case zk =>
  refine Aw.block (Aw.rounds 0 hE [(0, .sl b .any (ints l)), (1, .int n)] (fun k : Nat => [(5, .int k)]) (fun _ => []) (fun k => k ≤ l.length ∧ -1 ≤ prevI l k ∧ risingF n (-1) l = risingF n (prevI l k) (l.drop k)) (fun k => l.length - k) 0
    ⟨Nat.zero_le _, Int.le_refl _, rfl⟩ ⟨⟨.refl _, .refl _, trivial⟩, ⟨.refl _, trivial⟩, trivial, Nat.le_refl _⟩ ⟨(free_ints _ _ _).under, .s _, trivial⟩ (fun _ _ => ⟨.s _, trivial⟩) (fun _ _ => trivial) fun k hk => ?_)
  obtain ⟨hk, hp, hr⟩ := hk
  refine Aw.seq ?_
  refine Aw.sm tab_ok mb0 [] rfl rfl ?zo ?zk
  case zo =>
    repeat' apply AllP.cons
    all_goals first | exact trivial
  case zk =>
  refine Aw.cond rfl (fun h1 => Aw.skip ?_) (fun h1 => ?_)
  · have hlt : k < l.length := by have := of_decide_eq_true h1; omega
    have hd : l.drop k = l[k] :: l.drop (k + 1) := List.drop_eq_getElem_cons hlt
    rw [hd, risingF] at hr
    have hpk : ∀ h : 0 < k, (ints l)[((k : Int) - 1).toNat]? = some [.int (prevI l k)] := fun h => by
      obtain ⟨j, rfl⟩ : ∃ j, k = j + 1 := ⟨k - 1, by omega⟩
      have : (((j + 1 : Nat) : Int) - 1).toNat = j := by omega
      rw [this, ints_get (by omega)]
      simp [prevI, List.getD_eq_getElem?_getD, show j < l.length by omega]
    refine Aw.seq (Aw.block ?_)
    have hk0 : ∀ {a : Bool}, cond a (gq (decide ((k : Int) > 0)) true) false = true → 0 < k := fun h => by
      have := of_decide_eq_true (gq_c2 h).2; omega
    refine Aw.sd tab_ok mixed mb0 [(2, [.int l[k]]), (6, [.bool (wi l[k] 0 (n - 1))]), (14, [.int l[k]]), (19, [.int (prevI l k)])] rfl (by kernel_rfl) rfl rfl ?zo ?zk
    case zo =>
      repeat' apply AllP.cons
      all_goals first | exact trivial | exact id | exact rfl | exact fun _ => rfl | exact Nat.le_of_ble_eq_true rfl | exact fun _ => Nat.le_of_ble_eq_true rfl | exact Int.natCast_nonneg _ | exact fun _ => Int.natCast_nonneg _ | exact in_t _ _ _ | exact ints_get hlt | exact fun _ => ints_get hlt | exact (by simp only [Ob.of, inR]; omega) | exact gq_f | exact gq_c | exact fun _ _ => rfl | exact fun h => hpk (hk0 h) | exact fun h => (show (0 : Int) ≤ (k : Int) - 1 by have := hk0 h; omega)
    case zk =>
    refine Aw.cond rfl (fun h2 => ?_) (fun h2 => Aw.skip ?_)
    · have h2 : cond (!wi l[k] 0 (n - 1)) true (cond (decide ((k : Int) > 0)) (decide (l[k] ≤ prevI l k)) false) = true := h2
      have hno : wi l[k] (prevI l k + 1) (n - 1) = false := by
        cases e : wi l[k] (prevI l k + 1) (n - 1) with
        | false => rfl
        | true =>
          have h3 := wi_iff.1 e
          rw [wi_iff.2 (show 0 ≤ l[k] ∧ l[k] ≤ n - 1 by omega), decide_eq_false (show ¬ l[k] ≤ prevI l k by omega)] at h2
          cases h4 : decide ((k : Int) > 0) <;> rw [h4] at h2 <;> cases h2
      rw [hno] at hr
      refine Aw.sm tab_ok mb0 [] rfl rfl ?zo ?zk
      case zo =>
        repeat' apply AllP.cons
        all_goals first | exact trivial
      case zk =>
      exact Aw.ret ⟨_, .cons (.tmp _) .nil, congrArg A.bool hr.symm⟩
    · have h2 : cond (!wi l[k] 0 (n - 1)) true (cond (decide ((k : Int) > 0)) (decide (l[k] ≤ prevI l k)) false) = false := h2
      have h3 : wi l[k] 0 (n - 1) = true := by
        cases e : wi l[k] 0 (n - 1) with
        | true => rfl
        | false => rw [e] at h2; cases h2
      have h4 := wi_iff.1 h3
      have hyes : wi l[k] (prevI l k + 1) (n - 1) = true := by
        refine wi_iff.2 ⟨?_, h4.2⟩
        cases k with
        | zero => show -1 + 1 ≤ _; omega
        | succ j =>
          rw [h3, decide_eq_true (show (((j + 1 : Nat) : Int) > 0) by omega)] at h2
          have := of_decide_eq_false (show decide (l[j + 1] ≤ prevI l (j + 1)) = false from h2)
          omega
      rw [hyes] at hr
      refine Aw.em tab_ok mb0 [] rfl rfl ?zo ?zk
      case zo =>
        repeat' apply AllP.cons
        all_goals first | exact trivial | exact (by simp only [Ob.of, inR]; omega)
      case zk =>
      have hpn : prevI l (k + 1) = l[k] := by simp [prevI, List.getD_eq_getElem?_getD, hlt]
      exact ⟨k + 1, ⟨hlt, by rw [hpn]; omega, by rw [hpn]; exact hr⟩, by omega, ⟨.refl _, .refl _, trivial⟩, ⟨.refl _, trivial⟩, trivial, Nat.zero_le _⟩
  · have hle : k = l.length := by have := of_decide_eq_false h1; omega
    subst hle
    rw [List.drop_length, risingF] at hr
    refine Aw.exit2 ?_
    refine Aw.sm tab_ok mb0 [] rfl rfl ?zo ?zk
    case zo =>
      repeat' apply AllP.cons
      all_goals first | exact trivial
    case zk =>
    exact Aw.ret ⟨_, .cons (.tmp _) .nil, congrArg A.bool hr.symm⟩
theorem before_t (a b : List Int) (n m : Bool) (ha : (a.length : Int) ≤ 9223372036854775807) (hb : (b.length : Int) ≤ 9223372036854775807) : Ans Try.prog 37 [.sl n .any (ints a), .sl m .any (ints b)] (.bool (befF a b)) := by
  have la : ((ints a).length : Int) = a.length := by simp [ints]
  have lb : ((ints b).length : Int) = b.length := by simp [ints]
  refine told Try.func37 rfl rfl (Pure.of tab_ok Try.func37 rfl Try.ntmps37 rfl (allC (free_ints _ _ _) (all1 (free_ints _ _ _))) (allC (fun _ => rfl) (all1 (fun _ => rfl))) (by first | exact .s _ | assumption | exact .tup _ (by intro x hx; simp only [List.mem_cons, List.not_mem_nil, or_false] at hx; rcases hx with rfl | rfl | rfl | rfl <;> first | exact .s _ | (simp_all; done))) fun E hE => ?_)
  refine Aw.sm tab_ok mb0 [] rfl rfl ?zo ?zk
  case zo =>
    repeat' apply AllP.cons
    all_goals first | exact trivial
  case zk =>
  refine Aw.seq ?_
  refine Aw.sm tab_ok mb0 [] rfl rfl ?zo ?zk
  case zo =>
    repeat' apply AllP.cons
    all_goals first | exact trivial
  case zk =>
  refine Aw.block (Aw.rounds 0 hE [(0, .sl n .any (ints a)), (1, .sl m .any (ints b))] (fun k : Nat => [(5, .int k)]) (fun _ => []) (fun k => k ≤ a.length ∧ k ≤ b.length ∧ befF a b = befF (a.drop k) (b.drop k)) (fun k => a.length - k) 0
    ⟨Nat.zero_le _, Nat.zero_le _, rfl⟩ ⟨⟨.refl _, .refl _, trivial⟩, ⟨.refl _, trivial⟩, trivial, Nat.le_refl _⟩ ⟨(free_ints _ _ _).under, (free_ints _ _ _).under, trivial⟩ (fun _ _ => ⟨.s _, trivial⟩) (fun _ _ => trivial) fun k hk => ?_)
  obtain ⟨hk, hp, hr⟩ := hk
  refine Aw.seq ?_
  refine Aw.sm tab_ok mb0 [] rfl rfl ?zo ?zk
  case zo =>
    repeat' apply AllP.cons
    all_goals first | exact trivial | exact id | exact fun _ => rfl
  case zk =>
  refine Aw.cond rfl (fun h1 => Aw.skip ?_) (fun h1 => ?_)
  · have h1 : cond (decide ((k : Int) < ((ints a).length : Int))) (decide ((k : Int) < ((ints b).length : Int))) false = true := h1
    have hlt : k < a.length := by have := of_decide_eq_true (ac1 h1); omega
    have hlt2 : k < b.length := by have := of_decide_eq_true (ac2 h1); omega
    rw [List.drop_eq_getElem_cons hlt, List.drop_eq_getElem_cons hlt2, befF] at hr
    refine Aw.seq (Aw.block ?_)
    refine Aw.sd tab_ok mixed mb0 [(2, [.int a[k]]), (6, [.int b[k]])] rfl (by kernel_rfl) rfl rfl ?zo ?zk
    case zo =>
      repeat' apply AllP.cons
      all_goals first | exact trivial | exact rfl | exact Nat.le_of_ble_eq_true rfl | exact Int.natCast_nonneg _ | exact ints_get hlt | exact ints_get hlt2
    case zk =>
    refine Aw.cond rfl (fun h2 => ?_) (fun h2 => Aw.skip ?_)
    · have h2' : ¬ a[k] = b[k] := by simpa using h2
      rw [if_neg h2'] at hr
      refine Aw.sd tab_ok mixed mb0 [(2, [.int a[k]]), (6, [.int b[k]])] rfl (by kernel_rfl) rfl rfl ?zo ?zk
      case zo =>
        repeat' apply AllP.cons
        all_goals first | exact trivial | exact rfl | exact Nat.le_of_ble_eq_true rfl | exact Int.natCast_nonneg _ | exact ints_get hlt | exact ints_get hlt2
      case zk =>
      exact Aw.ret ⟨_, .cons (.tmp _) .nil, congrArg A.bool hr.symm⟩
    · have h2' : a[k] = b[k] := by simpa using h2
      rw [if_pos h2'] at hr
      refine Aw.em tab_ok mb0 [] rfl rfl ?zo ?zk
      case zo =>
        repeat' apply AllP.cons
        all_goals first | exact trivial | exact (by simp only [Ob.of, inR]; omega)
      case zk =>
      exact ⟨k + 1, ⟨hlt, hlt2, hr⟩, by omega, ⟨.refl _, .refl _, trivial⟩, ⟨.refl _, trivial⟩, trivial, Nat.zero_le _⟩
  · have h1 : cond (decide ((k : Int) < ((ints a).length : Int))) (decide ((k : Int) < ((ints b).length : Int))) false = false := h1
    have hend : a.drop k = [] ∨ b.drop k = [] := by
      rw [List.drop_eq_nil_iff, List.drop_eq_nil_iff]
      rw [c_and, Bool.and_eq_false_iff, decide_eq_false_iff_not, decide_eq_false_iff_not] at h1
      omega
    rw [befF_end _ _ hend] at hr
    refine Aw.exit2 ?_
    refine Aw.sm tab_ok mb0 [] rfl rfl ?zo ?zk
    case zo =>
      repeat' apply AllP.cons
      all_goals first | exact trivial
    case zk =>
    refine Aw.ret ⟨_, .cons (.tmp _) .nil, ?_⟩
    show A.bool (decide (((ints a).length : Int) < ((ints b).length : Int))) = _
    rw [hr, la, lb]
    simp only [List.length_drop]
    congr 1
    exact decide_eq_decide.2 (by omega)
def placeF (x : Int) : Nat → List Int → Int
  | _, [] => -1
  | k, n :: l => if n = x then (k : Int) else placeF x (k + 1) l
theorem place_t (l : List Int) (b : Bool) (x : Int) (hl : (l.length : Int) ≤ 9223372036854775806) : Ans Try.prog 35 [.sl b .any (ints l), .int x] (.int (placeF x 0 l)) := by
  have li : ((ints l).length : Int) = l.length := by simp [ints]
  refine told Try.func35 rfl rfl (Pure.of tab_ok Try.func35 rfl Try.ntmps35 rfl (allC (free_ints _ _ _) (all1 (.s _))) (allC (fun _ => rfl) (all1 (fun _ => rfl))) (by first | exact .s _ | assumption | exact .tup _ (by intro x hx; simp only [List.mem_cons, List.not_mem_nil, or_false] at hx; rcases hx with rfl | rfl | rfl | rfl <;> first | exact .s _ | (simp_all; done))) fun E hE => ?_)
  refine Aw.sm tab_ok mb0 [] rfl rfl ?zo ?zk
  case zo =>
    repeat' apply AllP.cons
    all_goals first | exact trivial
  case zk =>
  refine Aw.seq ?_
  refine Aw.sm tab_ok mb0 [] rfl rfl ?zo ?zk
  case zo =>
    repeat' apply AllP.cons
    all_goals first | exact trivial
  case zk =>
  refine Aw.block (Aw.rounds 0 hE [(0, .sl b .any (ints l)), (1, .int x)] (fun k : Nat => [(5, .int k)]) (fun _ => []) (fun k => k ≤ l.length ∧ placeF x 0 l = placeF x k (l.drop k)) (fun k => l.length - k) 0
    ⟨Nat.zero_le _, rfl⟩ ⟨⟨.refl _, .refl _, trivial⟩, ⟨.refl _, trivial⟩, trivial, Nat.le_refl _⟩ ⟨(free_ints _ _ _).under, .s _, trivial⟩ (fun _ _ => ⟨.s _, trivial⟩) (fun _ _ => trivial) fun k hk => ?_)
  obtain ⟨hk, hr⟩ := hk
  refine Aw.seq ?_
  refine Aw.sm tab_ok mb0 [] rfl rfl ?zo ?zk
  case zo =>
    repeat' apply AllP.cons
    all_goals first | exact trivial
  case zk =>
  refine Aw.cond rfl (fun h1 => Aw.skip ?_) (fun h1 => ?_)
  · have hlt : k < l.length := by have := of_decide_eq_true h1; omega
    rw [List.drop_eq_getElem_cons hlt, placeF] at hr
    refine Aw.seq (Aw.block ?_)
    refine Aw.sm tab_ok mb0 [(2, [.int l[k]])] rfl rfl ?zo ?zk
    case zo =>
      repeat' apply AllP.cons
      all_goals first | exact trivial | exact rfl | exact Nat.le_of_ble_eq_true rfl | exact Int.natCast_nonneg _ | exact ints_get hlt
    case zk =>
    refine Aw.cond rfl (fun h2 => ?_) (fun h2 => Aw.skip ?_)
    · have h2' : l[k] = x := eq_of_beq h2
      rw [if_pos h2'] at hr
      refine Aw.sm tab_ok mb0 [] rfl rfl ?zo ?zk
      case zo =>
        repeat' apply AllP.cons
        all_goals first | exact trivial
      case zk =>
      exact Aw.ret ⟨_, .cons (.tmp _) .nil, congrArg A.int hr.symm⟩
    · have h2' : ¬ l[k] = x := by simpa using h2
      rw [if_neg h2'] at hr
      refine Aw.em tab_ok mb0 [] rfl rfl ?zo ?zk
      case zo =>
        repeat' apply AllP.cons
        all_goals first | exact trivial | exact (by simp only [Ob.of, inR]; omega)
      case zk =>
      exact ⟨k + 1, ⟨hlt, hr⟩, by omega, ⟨.refl _, .refl _, trivial⟩, ⟨.refl _, trivial⟩, trivial, Nat.zero_le _⟩
  · have hle : k = l.length := by have := of_decide_eq_false h1; omega
    subst hle
    rw [List.drop_length, placeF] at hr
    refine Aw.exit2 ?_
    refine Aw.sm tab_ok mb0 [] rfl rfl ?zo ?zk
    case zo =>
      repeat' apply AllP.cons
      all_goals first | exact trivial
    case zk =>
    exact Aw.ret ⟨_, .cons (.tmp _) .nil, congrArg A.int hr.symm⟩
theorem same_t (p q : Bool) (a b : List Int) (hl : (a.length : Int) ≤ 9223372036854775806) : Ans Try.prog 22 [.sl p .any (ints a), .sl q .any (ints b)] (.bool (a == b)) := by
  refine told Try.func22 rfl rfl (Pure.of tab_ok Try.func22 rfl Try.ntmps22 rfl (allC (free_ints _ _ _) (all1 (free_ints _ _ _))) (allC (fun _ => rfl) (all1 (fun _ => rfl))) (by first | exact .s _ | assumption | exact .tup _ (by intro x hx; simp only [List.mem_cons, List.not_mem_nil, or_false] at hx; rcases hx with rfl | rfl | rfl | rfl <;> first | exact .s _ | (simp_all; done))) fun E hE => ?_)
  have za := ints_lenI a
  have zb := ints_lenI b
  refine Aw.sm tab_ok mb0 [] rfl rfl ?zo ?zk
  case zo =>
    repeat' apply AllP.cons
    all_goals first | exact trivial
  case zk =>
  refine Aw.seq ?_
  refine Aw.sm tab_ok mb0 [] rfl rfl ?zo ?zk
  case zo =>
    repeat' apply AllP.cons
    all_goals first | exact trivial
  case zk =>
  refine Aw.cond rfl (fun h1 => ?_) (fun h1 => Aw.skip ?_)
  · have h1 : (((ints a).length : Int) != ((ints b).length : Int)) = true := h1
    have hne : (a == b) = false := by
      cases e : (a == b) with
      | false => rfl
      | true => rw [za, zb, eq_of_beq e] at h1; simp at h1
    rw [hne]
    refine Aw.sm tab_ok mb0 [] rfl rfl ?zo ?zk
    case zo =>
      repeat' apply AllP.cons
      all_goals first | exact trivial
    case zk =>
    exact Aw.ret ⟨_, .cons (.tmp _) .nil, rfl⟩
  have h1 : (((ints a).length : Int) != ((ints b).length : Int)) = false := h1
  have hlen : a.length = b.length := by
    rw [za, zb] at h1; simp at h1; omega
  generalize hR : (a == b) = R
  have ua : Under 0 (A.sl p .any (ints a)) := (free_ints _ _ _).under
  have ub : Under 0 (A.sl q .any (ints b)) := (free_ints _ _ _).under
  refine Aw.seq ?_
  refine Aw.sm tab_ok mb0 [] rfl rfl ?zo ?zk
  case zo =>
    repeat' apply AllP.cons
    all_goals first | exact trivial
  case zk =>
  refine Aw.block (Aw.rounds 0 hE [(0, .sl p .any (ints a)), (1, .sl q .any (ints b))] (fun k : Nat => [(5, .int k)]) (fun _ => []) (fun k => k ≤ a.length ∧ (a.drop k == b.drop k) = R) (fun k => a.length - k) 0
    ⟨Nat.zero_le _, by simpa using hR⟩ ⟨⟨.refl _, .refl _, trivial⟩, ⟨.refl _, trivial⟩, trivial, Nat.le_refl _⟩ ⟨ua, ub, trivial⟩ (fun _ _ => ⟨.s _, trivial⟩) (fun _ _ => trivial) ?_)
  rintro k ⟨hk, hrun⟩
  refine Aw.seq ?_
  refine Aw.sm tab_ok mb0 [] rfl rfl ?zo ?zk
  case zo =>
    repeat' apply AllP.cons
    all_goals first | exact trivial
  case zk =>
  refine Aw.cond rfl (fun h2 => Aw.skip ?_) (fun h2 => ?_)
  · have hlt : k < a.length := by have := of_decide_eq_true h2; omega
    have hlb : k < b.length := by omega
    rw [List.drop_eq_getElem_cons hlt, List.drop_eq_getElem_cons hlb, List.cons_beq_cons] at hrun
    refine Aw.seq (Aw.block ?_)
    refine Aw.sd tab_ok mixed mb0 [(2, [.int a[k]]), (6, [.int b[k]])] rfl (by kernel_rfl) rfl rfl ?zo ?zk
    case zo =>
      repeat' apply AllP.cons
      all_goals first | exact trivial | exact rfl | exact Nat.le_of_ble_eq_true rfl | exact Int.natCast_nonneg _ | exact ints_get hlt | exact ints_get hlb
    case zk =>
    refine Aw.cond rfl (fun h3 => ?_) (fun h3 => Aw.skip ?_)
    · have h3 : (a[k] != b[k]) = true := h3
      have h4 : (a[k] == b[k]) = false := by simpa using h3
      have : R = false := by rw [← hrun, h4]; rfl
      subst this
      refine Aw.sm tab_ok mb0 [] rfl rfl ?zo ?zk
      case zo =>
        repeat' apply AllP.cons
        all_goals first | exact trivial
      case zk =>
      exact Aw.ret ⟨_, .cons (.tmp _) .nil, rfl⟩
    · have h3 : (a[k] != b[k]) = false := h3
      have h4 : (a[k] == b[k]) = true := by simpa using h3
      rw [h4, Bool.true_and] at hrun
      refine Aw.em tab_ok mb0 [] rfl rfl ?zo ?zk
      case zo =>
        repeat' apply AllP.cons
        all_goals first | exact trivial | exact inrk k (by omega)
      case zk =>
      exact ⟨k + 1, ⟨hlt, hrun⟩, by omega, ⟨.refl _, .refl _, trivial⟩, ⟨.refl _, trivial⟩, trivial, Nat.zero_le _⟩
  · have hend : k = a.length := by have := of_decide_eq_false h2; omega
    have : R = true := by rw [← hrun, hend, List.drop_length, hlen, List.drop_length]; rfl
    subst this
    refine Aw.exit2 ?_
    refine Aw.sm tab_ok mb0 [] rfl rfl ?zo ?zk
    case zo =>
      repeat' apply AllP.cons
      all_goals first | exact trivial
    case zk =>
    exact Aw.ret ⟨_, .cons (.tmp _) .nil, rfl⟩
theorem plus_t (b : Bool) (l : List Int) (n : Int) (hl : l.length ≤ 100) : Ans Try.prog 61 [.sl b .any (ints l), .int n] (.sl false .any (ints (l ++ [n]))) := by
  have hfr : Free (.sl false .any (ints (l ++ [n]))) := free_ints _ _ _
  have hz := ints_one l
  have hlen := ints_len l
  refine told Try.func61 rfl rfl (Pure.of tab_ok Try.func61 rfl Try.ntmps61 rfl (allC (free_ints _ _ _) (all1 (.s _))) (allC (fun _ => rfl) (all1 (fun _ => rfl))) (by first | exact .s _ | assumption | exact .tup _ (by intro x hx; simp only [List.mem_cons, List.not_mem_nil, or_false] at hx; rcases hx with rfl | rfl | rfl | rfl <;> first | exact .s _ | (simp_all; done))) fun E hE => ?_)
  refine Aw.sm tab_ok mb0 [] rfl rfl ?zo ?zk
  case zo =>
    repeat' apply AllP.cons
    all_goals first | exact trivial
  case zk =>
  refine Aw.sm tab_ok mb0 [] rfl rfl ?zo ?zk
  case zo =>
    repeat' apply AllP.cons
    all_goals first | exact trivial | exact Nat.le_of_ble_eq_true rfl | exact hz | exact (show (0 + (ints l).length) * 8 ≤ 140737488355328 by omega) | exact (show 0 + (ints l).length ≤ maxLen by unfold maxLen; omega)
  case zk =>
  refine Aw.sm tab_ok mb0 [] rfl rfl ?zo ?zk
  case zo =>
    repeat' apply AllP.cons
    all_goals first | exact trivial | exact Nat.le_of_ble_eq_true rfl | exact (show ∀ z ∈ [[A.int _]], z.length = 1 from fun z hz => by simp at hz; subst hz; rfl) | exact hz | exact (show ((ints l).length + 1) * 8 ≤ 140737488355328 by omega) | exact (show (ints l).length + 1 ≤ maxLen by unfold maxLen; omega)
  case zk =>
  exact Aw.ret ⟨_, .cons (.tmp _) .nil, by simp [ints]; rfl⟩
end Go.Proofs.Ytohbjneaaahpcaa

namespace Go.Proofs.Ytohbjneaaahpcaa
open Go Go.AL Go.AL.Q Go.AL.Sh
theorem abs_t (n : Int) (h : inR (-n)) : Ans Try.prog 74 [.int n] (.int (absI n)) := by
  refine told Try.func74 rfl rfl (Pure.of tab_ok Try.func74 rfl Try.ntmps74 rfl (all1 (.s _)) (all1 (fun _ => rfl)) (by first | exact .s _ | assumption | exact .tup _ (by intro x hx; simp only [List.mem_cons, List.not_mem_nil, or_false] at hx; rcases hx with rfl | rfl | rfl | rfl <;> first | exact .s _ | (simp_all; done))) fun E hE => ?_)
  refine Aw.sm tab_ok mb0 [] rfl rfl ?zo ?zk
  case zo =>
    repeat' apply AllP.cons
    all_goals first | exact trivial
  case zk =>
  refine Aw.sm tab_ok mb0 [] rfl rfl ?zo ?zk
  case zo =>
    repeat' apply AllP.cons
    all_goals first | exact trivial | exact h
  case zk =>
  exact Aw.ret ⟨_, .cons (.tmp _) .nil, rfl⟩
theorem far_t (p q : Sp) (hp : Near p) (hq : Near q) : Ans Try.prog 79 [.agg p.c, .agg q.c] (.int (farF p q)) := by
  obtain ⟨a1, a2, a3, a4⟩ := hp
  obtain ⟨b1, b2, b3, b4⟩ := hq
  refine told Try.func79 rfl rfl (Pure.of tab_ok Try.func79 rfl Try.ntmps79 rfl (allC (.agg _ p.free) (all1 (.agg _ q.free))) (allC (fun _ => rfl) (all1 (fun _ => rfl))) (by first | exact .s _ | assumption | exact .tup _ (by intro x hx; simp only [List.mem_cons, List.not_mem_nil, or_false] at hx; rcases hx with rfl | rfl | rfl | rfl <;> first | exact .s _ | (simp_all; done))) fun E hE => ?_)
  refine Aw.sm tab_ok mb0 [] rfl rfl ?zo ?zk
  case zo =>
    repeat' apply AllP.cons
    all_goals first | exact trivial
  case zk =>
  refine Aw.sm tab_ok mb0 [] rfl rfl ?zo ?zk
  case zo =>
    repeat' apply AllP.cons
    all_goals first | exact trivial | exact Nat.le_of_ble_eq_true rfl | exact (by simp only [Ob.of, inR]; omega)
  case zk =>
  exact Aw.ret ⟨_, .cons (.tmp _) .nil, rfl⟩
theorem seaLe (s : Sea) (m : A) (hm : ∀ u, spareOf m u = none) : A.Le (.agg (seaA s .un)) (.agg (seaA s m)) :=
  .agg (.cons (.refl _) (.cons (.refl _) (.cons (.refl _) (.cons (.refl _) (.cons (.refl _) (.cons (.refl _) (.cons ⟨fun _ _ _ v _ => .un v, fun u p h => absurd h (by simp [spareOf])⟩ .nil)))))))
theorem many_u (s : Sea) (h : s.Ok) : Ans Try.prog 49 [.agg (seaA s .un)] (.int s.many) := by
  have := h.many
  unfold Sea.many at this
  refine told Try.func49 rfl rfl (Pure.of tab_ok Try.func49 rfl Try.ntmps49 rfl (all1 (.agg _ (seaA_free s))) (all1 (fun _ => rfl)) (by first | exact .s _ | assumption | exact .tup _ (by intro x hx; simp only [List.mem_cons, List.not_mem_nil, or_false] at hx; rcases hx with rfl | rfl | rfl | rfl <;> first | exact .s _ | (simp_all; done))) fun E hE => ?_)
  refine Aw.sm tab_ok mb0 [] rfl rfl ?zo ?zk
  case zo =>
    repeat' apply AllP.cons
    all_goals first | exact trivial
  case zk =>
  refine Aw.sm tab_ok mb0 [] rfl rfl ?zo ?zk
  case zo =>
    repeat' apply AllP.cons
    all_goals first | exact trivial | exact Nat.le_of_ble_eq_true rfl | exact (by simp only [Ob.of, inR]; omega)
  case zk =>
  exact Aw.ret ⟨_, .cons (.tmp _) .nil, rfl⟩
theorem many_t (s : Sea) (h : s.Ok) (i : Nat) : Ans Try.prog 49 [.agg (seaA s (.mp i))] (.int s.many) := (many_u s h).le1 (seaLe s _ fun _ => rfl)
theorem place_u (s : Sea) (h : s.Ok) (cell : Int) (hc : -1000 ≤ cell ∧ cell ≤ 1000) : Ans Try.prog 50 [.agg (seaA s .un), .int cell] (.agg (placeP s.wide cell).c) := by
  have hfr : Free (.agg (placeP s.wide cell).c) := .agg _ (Sp.free _)
  have hw := h.w
  have h2 := (placeP_near hw hc).h0
  have h3 := (placeP_near hw hc).h1
  unfold placeP at h2 h3
  refine told Try.func50 rfl rfl (Pure.of tab_ok Try.func50 rfl Try.ntmps50 rfl (allC (.agg _ (seaA_free s)) (all1 (.s _))) (allC (fun _ => rfl) (all1 (fun _ => rfl))) (by first | exact .s _ | assumption | exact .tup _ (by intro x hx; simp only [List.mem_cons, List.not_mem_nil, or_false] at hx; rcases hx with rfl | rfl | rfl | rfl <;> first | exact .s _ | (simp_all; done))) fun E hE => ?_)
  refine Aw.sm tab_ok mb0 [] rfl rfl ?zo ?zk
  case zo =>
    repeat' apply AllP.cons
    all_goals first | exact trivial
  case zk =>
  refine Aw.sd tab_ok mixed mb0 [] rfl (by kernel_rfl) rfl rfl ?zo ?zk
  case zo =>
    repeat' apply AllP.cons
    all_goals first | exact trivial | exact rfl | exact Nat.le_of_ble_eq_true rfl | exact (show s.wide ≠ 0 by omega) | exact (show s.wide ≠ 0 ∧ inR (cell.tdiv s.wide) from ⟨by omega, by simp only [inR]; simp only at h2 h3; omega⟩)
  case zk =>
  exact Aw.ret ⟨_, .cons (resC rfl rfl rfl rfl rfl) .nil, rfl⟩
theorem plc_t (s : Sea) (h : s.Ok) (i : Nat) (cell : Int) (hc : -1000 ≤ cell ∧ cell ≤ 1000) : Ans Try.prog 50 [.agg (seaA s (.mp i)), .int cell] (.agg (placeP s.wide cell).c) :=
  (place_u s h cell hc).le rfl fun j hj => by
    match j, hj with
    | 0, _ => exact seaLe s _ fun _ => rfl
    | 1, _ => exact .refl _
theorem least_t (a : Int) (b : Bool) (c : Cap) (l : List Int) (hl : (l.length : Int) ≤ 9223372036854775806) (hc : ∀ u, spareOf (.sl b c (ints l)) u = none) : Ans Try.prog 83 [.int a, .sl b c (ints l)] (.int (l.foldl gmin a)) := by
  have li := ints_lenI l
  refine told Try.func83 rfl rfl (Pure.of tab_ok Try.func83 rfl Try.ntmps83 rfl (allC (.s _) (all1 (free_ints _ _ _))) (allC (fun _ => rfl) (all1 hc)) (.s _) fun E hE => ?_)
  refine Aw.keep (n := 0) (cst := []) (v := [(0, .int a), (1, .sl b .any (ints l))]) (Hl := []) hE trivial ⟨.s _, (free_ints _ _ _).under, trivial⟩ trivial ⟨trivial, ⟨.refl _, .any _ _ _, trivial⟩, trivial, Nat.le_refl _⟩ ?_
  refine Aw.sm tab_ok mb0 [] rfl rfl ?zo ?zk
  case zo =>
    repeat' apply AllP.cons
    all_goals first | exact trivial
  case zk =>
  refine Aw.seq ?_
  refine Aw.sm tab_ok mb0 [] rfl rfl ?zo ?zk
  case zo =>
    repeat' apply AllP.cons
    all_goals first | exact trivial
  case zk =>
  refine Aw.block (Aw.rounds 0 hE [(7, .sl b .any (ints l)), (8, .int l.length)] (fun k : Nat => [(0, .int ((l.take k).foldl gmin a)), (9, .int k)]) (fun _ => []) (fun k => k ≤ l.length) (fun k => l.length - k) 0
    (Nat.zero_le _) ⟨⟨.refl _, .of_eq (congrArg A.int li.symm), trivial⟩, ⟨.refl _, .refl _, trivial⟩, trivial, Nat.le_refl _⟩ ⟨(free_ints _ _ _).under, .s _, trivial⟩ (fun _ _ => ⟨.s _, .s _, trivial⟩) (fun _ _ => trivial) fun k hk => ?_)
  refine Aw.sm tab_ok mb0 [] rfl rfl ?zo ?zk
  case zo =>
    repeat' apply AllP.cons
    all_goals first | exact trivial
  case zk =>
  refine Aw.seq (Aw.cond rfl (fun h1 => Aw.skip1 ?_) (fun h1 => Aw.exit2 ?_))
  · have hlt : k < l.length := by have := of_decide_eq_true h1; omega
    have e : (l.take (k + 1)).foldl gmin a = gmin ((l.take k).foldl gmin a) l[k] := by rw [List.take_succ_eq_append_getElem hlt, List.foldl_append]; rfl
    refine Aw.seq (Aw.block ?_)
    refine Aw.sm tab_ok mb0 [(0, [.int l[k]])] rfl rfl ?zo ?zk
    case zo =>
      repeat' apply AllP.cons
      all_goals first | exact trivial | exact rfl | exact Nat.le_of_ble_eq_true rfl | exact Int.natCast_nonneg _ | exact ints_get hlt
    case zk =>
    refine Aw.em tab_ok mb0 [] rfl rfl ?zo ?zk
    case zo =>
      repeat' apply AllP.cons
      all_goals first | exact trivial
    case zk =>
    refine Aw.em tab_ok mb0 [] rfl rfl ?zo ?zk
    case zo =>
      repeat' apply AllP.cons
      all_goals first | exact trivial | exact inrk k (by omega)
    case zk =>
    exact ⟨k + 1, hlt, by omega, ⟨.refl _, .refl _, trivial⟩, ⟨.of_eq (by rw [e]; rfl), .refl _, trivial⟩, trivial, Nat.zero_le _⟩
  · have hle : k = l.length := by have := of_decide_eq_false h1; omega
    subst hle
    refine Aw.sm tab_ok mb0 [] rfl rfl ?zo ?zk
    case zo =>
      repeat' apply AllP.cons
      all_goals first | exact trivial
    case zk =>
    exact Aw.ret ⟨_, .cons (.tmp _) .nil, by rw [List.take_length]; rfl⟩
set_option maxRecDepth 100000 in
theorem eq3 (a b : Int) : pureRun Try.prog (Op.equalIn 9999 3 (.int .i64 a) (.int .i64 b)) = some (a == b) := by rfl
set_option maxRecDepth 100000 in
theorem eq85 (a b c d : Int) : pureRun Try.prog (Op.equal 85 (.agg #[.int .i64 a, .int .i64 b]) (.agg #[.int .i64 c, .int .i64 d])) = some (a == c && b == d) := by
  have h1 : pureRun Try.prog (underlying 85) = Try.prog.underlying 85 := rfl
  have h2 : pureRun Try.prog program = some Try.prog := rfl
  have h3 : Try.prog.stoodInHeld 85 = false := by kernel_rfl
  have p1 : ∀ x y : Value, pureRun Try.prog (part 3 #[x, y] 0) = some x := fun x y => rfl
  have p2 : ∀ x y : Value, pureRun Try.prog (part 3 #[x, y] 1) = some y := fun x y => rfl
  have pp : ∀ {α : Type} (x : α), pureRun Try.prog (pure x) = some x := fun x => rfl
  rw [Op.equal, Op.maxDepth, show (10000 : Nat) = 9999 + 1 from rfl, Op.equalIn, pureRun_bind, h1, Try.underlying85]
  simp only [Option.bind_some, pureRun_bind, h2, h3]
  by_cases h : a = c
  · subst h
    by_cases h' : b = d
    · subst h'
      simp [pureRun_bind, p1, p2, eq3, pp]
    · have e : (b == d) = false := by simpa using h'
      simp [pureRun_bind, p1, p2, eq3, pp, e]
  · have e : (a == c) = false := by simpa using h
    simp [pureRun_bind, p1, eq3, pp, e]
theorem eg85 : Try.prog.eqGuardType Try.prog.depth 85 = false := by kernel_rfl
theorem sp_beq (s t : Sp) : (s == t) = (s.lo == t.lo && s.hi == t.hi) := by
  obtain ⟨a, b⟩ := s
  obtain ⟨c, d⟩ := t
  rw [Bool.eq_iff_iff]
  simp only [beq_iff_eq, Bool.and_eq_true, Sp.mk.injEq]
set_option maxRecDepth 100000 in
theorem eqSp (x y : Operand) (s t : Sp) : EqIs tab .eql 85 x y (.agg s.c) (.agg t.c) (s == t) := by
  refine ⟨.agg #[.int .i64 s.lo, .int .i64 s.hi], .agg #[.int .i64 t.lo, .int .i64 t.hi], rfl, rfl, (congrFun (congrFun (congrFun (congrFun (congrFun (congrFun (show tab.eqv = pureEq Try.prog from rfl) _) _) _) _) _) _).trans ?_⟩
  show pureEq Try.prog .eql 85 x y (.agg #[.int .i64 s.lo, .int .i64 s.hi]) (.agg #[.int .i64 t.lo, .int .i64 t.hi]) = _
  have hp : pureRun Try.prog program = some Try.prog := rfl
  have pp : ∀ {α : Type} (x : α), pureRun Try.prog (pure x) = some x := fun x => rfl
  have e1 : pureRun Try.prog (eqGuard .eql 85 x y (.agg #[.int .i64 s.lo, .int .i64 s.hi]) (.agg #[.int .i64 t.lo, .int .i64 t.hi])) = some () := by
    simp [eqGuard, pureRun_bind, hp, eg85, pp]
  have e2 : pureRun Try.prog (binOp .eql 85 (.agg #[.int .i64 s.lo, .int .i64 s.hi]) (.agg #[.int .i64 t.lo, .int .i64 t.hi])) = some (.bool (s == t)) := by
    have : binOp .eql 85 (.agg #[.int .i64 s.lo, .int .i64 s.hi]) (.agg #[.int .i64 t.lo, .int .i64 t.hi]) = (Op.equal 85 (.agg #[.int .i64 s.lo, .int .i64 s.hi]) (.agg #[.int .i64 t.lo, .int .i64 t.hi]) >>= fun b => pure (.bool b)) := rfl
    rw [this, pureRun_bind, eq85, sp_beq]; rfl
  unfold pureEq
  rw [pureRun_bind, e1]
  exact e2
theorem steps_u (s : Sea) (h : s.Ok) (hour : Int) (h0 : 0 ≤ hour) (h1 : hour < s.drift.length) (p q : Sp) (hp : -1000 ≤ p.lo ∧ p.lo ≤ 1000) (hp' : -1000 ≤ p.hi ∧ p.hi ≤ 1000) (hq : Near q) :
    Ans Try.prog 51 [.agg (seaA s .un), .int hour, .agg p.c, .agg q.c] (.bool (s.steps hour p q)) := by
  have hlt : hour.toNat < s.drift.length := by omega
  have e : s.step hour = s.drift[hour.toNat] := by unfold Sea.step; rw [List.getD_eq_getElem?_getD, List.getElem?_eq_getElem hlt]; rfl
  have hd : (s.drift.map Sp.c)[hour.toNat]? = some (s.step hour).c := by rw [e]; exact get_map hlt
  have hb := h.st _ (e ▸ List.getElem_mem hlt : s.step hour ∈ s.drift)
  unfold Sea.steps
  generalize s.step hour = d at *
  have hn : Near ⟨p.lo + d.lo, p.hi + d.hi⟩ := ⟨by show -1000000 ≤ p.lo + d.lo; omega, by show p.lo + d.lo ≤ 1000000; omega, by show -1000000 ≤ p.hi + d.hi; omega, by show p.hi + d.hi ≤ 1000000; omega⟩
  refine told Try.func51 rfl rfl (Pure.of tab_ok Try.func51 rfl Try.ntmps51 rfl (allC (.agg _ (seaA_free s)) (allC (.s _) (allC (.agg _ p.free) (all1 (.agg _ q.free))))) (allC (fun _ => rfl) (allC (fun _ => rfl) (allC (fun _ => rfl) (all1 (fun _ => rfl))))) (by first | exact .s _ | assumption | exact .tup _ (by intro x hx; simp only [List.mem_cons, List.not_mem_nil, or_false] at hx; rcases hx with rfl | rfl | rfl | rfl <;> first | exact .s _ | (simp_all; done))) fun E hE => ?_)
  refine Aw.sm tab_ok mb0 [] rfl rfl ?zo ?zk
  case zo =>
    repeat' apply AllP.cons
    all_goals first | exact trivial
  case zk =>
  refine Aw.sm tab_ok mb0 [(4, d.c)] rfl rfl ?zo ?zk
  case zo =>
    repeat' apply AllP.cons
    all_goals first | exact trivial | exact rfl | exact Nat.le_of_ble_eq_true rfl | exact hd | exact h0
  case zk =>
  refine Aw.sm tab_ok mb0 [] rfl rfl ?zo ?zk
  case zo =>
    repeat' apply AllP.cons
    all_goals first | exact trivial | exact rfl | exact Nat.le_of_ble_eq_true rfl | exact (by simp only [Ob.of, inR]; omega)
  case zk =>
  refine Aw.sd tab_ok mixed mb0 [(2, [.bool ((⟨p.lo + d.lo, p.hi + d.hi⟩ : Sp) == q)]), (6, [.int (farF ⟨p.lo + d.lo, p.hi + d.hi⟩ q)])] rfl (by kernel_rfl) rfl rfl ?zo ?zk
  case zo =>
    repeat' apply AllP.cons
    all_goals first | exact trivial | exact id | exact fun _ => rfl | exact Nat.le_of_ble_eq_true rfl | exact fun _ => Nat.le_of_ble_eq_true rfl | exact eqSp _ _ ⟨p.lo + d.lo, p.hi + d.hi⟩ q | exact fun _ => far_t _ _ hn hq | exact gq_f
  case zk =>
  exact Aw.ret ⟨_, .cons (.tmp _) .nil, rfl⟩
theorem isTrue_t (s : Sea) (r : Rep) (p : Sp) (hr : Near (placeP s.wide r.cell)) (hp : Near p) : Ans Try.prog 65 [.agg (repC s.wide r), .agg p.c] (.bool (isTrueF s.wide r p)) := by
  refine told Try.func65 rfl rfl (Pure.of tab_ok Try.func65 rfl Try.ntmps65 rfl (allC (.agg _ (repC_free _ r)) (all1 (.agg _ p.free))) (allC (fun _ => rfl) (all1 (fun _ => rfl))) (by first | exact .s _ | assumption | exact .tup _ (by intro x hx; simp only [List.mem_cons, List.not_mem_nil, or_false] at hx; rcases hx with rfl | rfl | rfl | rfl <;> first | exact .s _ | (simp_all; done))) fun E hE => ?_)
  refine Aw.sm tab_ok mb0 [] rfl rfl ?zo ?zk
  case zo =>
    repeat' apply AllP.cons
    all_goals first | exact trivial
  case zk =>
  refine Aw.sd tab_ok mixed mb0 [(6, [.int (farF (placeP s.wide r.cell) p)])] rfl (by kernel_rfl) rfl rfl ?zo ?zk
  case zo =>
    repeat' apply AllP.cons
    all_goals first | exact trivial | exact Nat.le_of_ble_eq_true rfl | exact far_t _ _ hr hp
  case zk =>
  exact Aw.ret ⟨_, .cons (.tmp _) .nil, rfl⟩
end Go.Proofs.Ytohbjneaaahpcaa

namespace Go.Proofs.Ytohbjneaaahpcaa
open Go Go.AL Go.AL.Q Go.AL.Sh
structure SeaFit (s : Sea) : Prop where
  l : (s.land.length : Int) ≤ 9223372036854775806
  d : (s.drift.length : Int) ≤ 9223372036854775806
theorem prev_succ {l : List Int} {k : Nat} (h : k < l.length) : prevI l (k + 1) = l[k] := by simp [prevI, List.getD_eq_getElem?_getD, h]
theorem check_t (s : Sea) (hf : SeaFit s) : Ans Try.prog 18 [.agg s.c] (.int s.chk) := by
  have h1 := hf.l
  have h2 := hf.d
  have ll := ints_lenI s.land
  have ld : ((s.drift.map Sp.c).length : Int) = s.drift.length := by simp
  have us : Under 0 (A.pt s.c) := (Free.pt _ s.free).under
  have ul : Under 0 (A.sl s.ln .any (ints s.land)) := (free_ints _ _ _).under
  have ud : Under 0 (A.sl s.dn .any (s.drift.map Sp.c)) := (free_map Sp.free _ _ _).under
  refine told Try.func18 rfl rfl (Pure.of tab_ok Try.func18 rfl Try.ntmps18 rfl (all1 (.agg _ s.free)) (all1 (fun _ => rfl)) (by first | exact .s _ | assumption | exact .tup _ (by intro x hx; simp only [List.mem_cons, List.not_mem_nil, or_false] at hx; rcases hx with rfl | rfl | rfl | rfl <;> first | exact .s _ | (simp_all; done))) fun E hE => ?_)
  refine Aw.sm tab_ok mb0 [] rfl rfl ?zo ?zk
  case zo =>
    repeat' apply AllP.cons
    all_goals first | exact trivial
  case zk =>
  refine Aw.sm tab_ok mb0 [(2, [.bool (wi s.wide 1 10)]), (6, [.bool (wi s.high 1 8)]), (11, [.bool (wi s.speed 0 2)]), (16, [.bool (wi s.hours 1 12)])] rfl rfl ?zo ?zk
  case zo =>
    repeat' apply AllP.cons
    all_goals first | exact trivial | exact id | exact fun _ => rfl | exact Nat.le_of_ble_eq_true rfl | exact fun _ => Nat.le_of_ble_eq_true rfl | exact within_t _ _ _ | exact (within_t _ _ _).un | exact fun h => (by have := wi_iff.1 (ac2 h); simp only [Ob.of, inR]; omega)
  case zk =>
  have hb : A.bool s.b0 = A.bool (cond (cond (cond (cond (wi s.wide 1 10) (wi s.high 1 8) false) (wi s.speed 0 2) false) (wi s.hours 1 12) false) (((s.drift.map Sp.c).length : Int) == s.hours - 1) false) := by rw [ld]; rfl
  refine Aw.sm tab_ok mb0 [] rfl rfl ?zo ?zk
  case zo =>
    repeat' apply AllP.cons
    all_goals first | exact trivial
  case zk =>
  refine Aw.seq ?_
  refine Aw.sm tab_ok mb0 [] rfl rfl ?zo ?zk
  case zo =>
    repeat' apply AllP.cons
    all_goals first | exact trivial | exact Nat.le_of_ble_eq_true rfl
  case zk =>
  refine Aw.block (Aw.rounds 0 hE [(1, .pt s.c), (37, .sl s.ln .any (ints s.land)), (38, .int s.land.length)] (fun k : Nat => [(3, .bool (risK s.b0 (s.wide * s.high) s.land k)), (4, .int (prevI s.land k)), (39, .int k)]) (fun _ => []) (fun k => k ≤ s.land.length) (fun k => s.land.length - k) 0
    (Nat.zero_le _) ⟨⟨.refl _, .refl _, .of_eq (congrArg A.int ll.symm), trivial⟩, ⟨.of_eq (by rw [risK_zero]; exact hb), .refl _, .refl _, trivial⟩, trivial, Nat.le_refl _⟩ ⟨us, ul, .s _, trivial⟩ (fun _ _ => ⟨.s _, .s _, .s _, trivial⟩) (fun _ _ => trivial) fun k hk => ?_)
  refine Aw.sm tab_ok mb0 [] rfl rfl ?zo ?zk
  case zo =>
    repeat' apply AllP.cons
    all_goals first | exact trivial
  case zk =>
  refine Aw.seq (Aw.cond rfl (fun h1 => Aw.skip1 ?_) (fun h1 => Aw.exit2 ?_))
  · have hlt : k < s.land.length := by have := of_decide_eq_true h1; omega
    have bd : risK s.b0 (s.wide * s.high) s.land k = true → (0 ≤ s.wide * s.high ∧ s.wide * s.high ≤ 80) ∧ -1 ≤ prevI s.land k ∧ prevI s.land k ≤ 80 := fun h => by
      obtain ⟨a, b, _⟩ := Sea.b0_ok (risK_b h)
      have m1 : 0 ≤ s.wide * s.high := Int.mul_nonneg (by omega) (by omega)
      have m2 : s.wide * s.high ≤ 10 * 8 := Int.mul_le_mul a.2 b.2 (by omega) (by omega)
      have := risK_prev (by omega) m1 h
      omega
    have hst := risK_step (b := s.b0) (n := s.wide * s.high) hlt
    have hps := prev_succ hlt
    refine Aw.seq (Aw.block ?_)
    refine Aw.sm tab_ok mb0 [(0, [.int s.land[k]])] rfl rfl ?zo ?zk
    case zo =>
      repeat' apply AllP.cons
      all_goals first | exact trivial | exact rfl | exact Nat.le_of_ble_eq_true rfl | exact Int.natCast_nonneg _ | exact ints_get hlt
    case zk =>
    refine Aw.sm tab_ok mb0 [(11, [.bool (wi s.land[k] (prevI s.land k + 1) (s.wide * s.high - 1))])] rfl rfl ?zo ?zk
    case zo =>
      repeat' apply AllP.cons
      all_goals first | exact trivial | exact id | exact fun _ => rfl | exact fun _ => Nat.le_of_ble_eq_true rfl | exact (within_t _ _ _).un | exact fun h => (by have := bd h; simp only [Ob.of, inR]; omega)
    case zk =>
    refine Aw.em tab_ok mb0 [] rfl rfl ?zo ?zk
    case zo =>
      repeat' apply AllP.cons
      all_goals first | exact trivial
    case zk =>
    refine Aw.em tab_ok mb0 [] rfl rfl ?zo ?zk
    case zo =>
      repeat' apply AllP.cons
      all_goals first | exact trivial | exact inrk k (by omega)
    case zk =>
    exact ⟨k + 1, hlt, by omega, ⟨.refl _, .refl _, .refl _, trivial⟩, ⟨.of_eq (congrArg A.bool hst), .of_eq (congrArg A.int hps), .refl _, trivial⟩, trivial, Nat.zero_le _⟩
  have hle : k = s.land.length := by have := of_decide_eq_false h1; omega
  subst hle
  have e1 : risK s.b0 (s.wide * s.high) s.land s.land.length = s.b1 := risK_full
  rw [e1]
  refine Aw.seq ?_
  refine Aw.sm tab_ok mb0 [] rfl rfl ?zo ?zk
  case zo =>
    repeat' apply AllP.cons
    all_goals first | exact trivial | exact Nat.le_of_ble_eq_true rfl
  case zk =>
  refine Aw.block (Aw.rounds 0 hE [(59, .sl s.dn .any (s.drift.map Sp.c)), (60, .int s.drift.length)] (fun k : Nat => [(3, .bool (andAll s.b1 Sea.stepOk s.drift k)), (61, .int k)]) (fun _ => []) (fun k => k ≤ s.drift.length) (fun k => s.drift.length - k) 0
    (Nat.zero_le _) ⟨⟨.refl _, .of_eq (congrArg A.int ld.symm), trivial⟩, ⟨.of_eq (by rw [andAll_zero]; rfl), .refl _, trivial⟩, trivial, Nat.le_refl _⟩ ⟨ud, .s _, trivial⟩ (fun _ _ => ⟨.s _, .s _, trivial⟩) (fun _ _ => trivial) fun k hk => ?_)
  refine Aw.sm tab_ok mb0 [] rfl rfl ?zo ?zk
  case zo =>
    repeat' apply AllP.cons
    all_goals first | exact trivial
  case zk =>
  refine Aw.seq (Aw.cond rfl (fun h1 => Aw.skip1 ?_) (fun h1 => Aw.exit2 ?_))
  · have hlt : k < s.drift.length := by have := of_decide_eq_true h1; omega
    refine Aw.seq (Aw.block ?_)
    refine Aw.sm tab_ok mb0 [(0, s.drift[k].c)] rfl rfl ?zo ?zk
    case zo =>
      repeat' apply AllP.cons
      all_goals first | exact trivial | exact rfl | exact Nat.le_of_ble_eq_true rfl | exact Int.natCast_nonneg _ | exact get_map hlt
    case zk =>
    refine Aw.em tab_ok mb0 [(4, [.bool (wi s.drift[k].lo (-2) 2)]), (9, [.bool (wi s.drift[k].hi (-2) 2)])] rfl rfl ?zo ?zk
    case zo =>
      repeat' apply AllP.cons
      all_goals first | exact trivial | exact id | exact fun _ => rfl | exact fun _ => Nat.le_of_ble_eq_true rfl | exact (within_t _ _ _).un
    case zk =>
    refine Aw.em tab_ok mb0 [] rfl rfl ?zo ?zk
    case zo =>
      repeat' apply AllP.cons
      all_goals first | exact trivial | exact inrk k (by omega)
    case zk =>
    exact ⟨k + 1, hlt, by omega, ⟨.refl _, .refl _, trivial⟩, ⟨.of_eq (show A.bool (andAll s.b1 Sea.stepOk s.drift (k + 1)) = A.bool (cond (cond (andAll s.b1 Sea.stepOk s.drift k) (wi s.drift[k].lo (-2) 2) false) (wi s.drift[k].hi (-2) 2) false) by rw [andAll_step hlt, cond_assoc]; rfl), .refl _, trivial⟩, trivial, Nat.zero_le _⟩
  have hle : k = s.drift.length := by have := of_decide_eq_false h1; omega
  subst hle
  have e2 : andAll s.b1 Sea.stepOk s.drift s.drift.length = s.ok := andAll_full
  rw [e2]
  refine Aw.seq ?_
  refine Aw.sm tab_ok mb0 [] rfl rfl ?zo ?zk
  case zo =>
    repeat' apply AllP.cons
    all_goals first | exact trivial
  case zk =>
  refine Aw.cond rfl (fun h1 => ?_) (fun h1 => Aw.skip ?_)
  · have hno : s.ok = false := by simpa using h1
    refine Aw.sm tab_ok mb0 [] rfl rfl ?zo ?zk
    case zo =>
      repeat' apply AllP.cons
      all_goals first | exact trivial
    case zk =>
    exact Aw.ret ⟨_, .cons (.tmp _) .nil, by unfold Sea.chk; rw [hno]; rfl⟩
  · have hyes : s.ok = true := by simpa using h1
    refine Aw.sm tab_ok mb0 [] rfl rfl ?zo ?zk
    case zo =>
      repeat' apply AllP.cons
      all_goals first | exact trivial
    case zk =>
    exact Aw.ret ⟨_, .cons (.tmp _) .nil, by unfold Sea.chk; rw [if_pos hyes]; rfl⟩
end Go.Proofs.Ytohbjneaaahpcaa

namespace Go.Proofs.Ytohbjneaaahpcaa
open Go Go.AL Go.AL.Q Go.AL.Sh
theorem areReports_u (s : Sea) (h : s.Ok) (b : Bool) (l : List Rep) (hl : (l.length : Int) ≤ 9223372036854775806) : Ans Try.prog 78 [.agg (seaA s .un), .sl b .any (l.map Rep.c)] (.bool (s.repsOk l)) := by
  have ll : ((l.map Rep.c).length : Int) = l.length := by simp
  have hr := h.hr
  have hm := h.many
  have us : Under 0 (A.pt (seaA s .un)) := (Free.pt _ (seaA_free s)).under
  have ul : Under 0 (A.sl b .any (l.map Rep.c)) := (free_map Rep.free _ _ _).under
  refine told Try.func78 rfl rfl (Pure.of tab_ok Try.func78 rfl Try.ntmps78 rfl (allC (.agg _ (seaA_free s)) (all1 (free_map Rep.free _ _ _))) (allC (fun _ => rfl) (all1 (fun _ => rfl))) (by first | exact .s _ | assumption | exact .tup _ (by intro x hx; simp only [List.mem_cons, List.not_mem_nil, or_false] at hx; rcases hx with rfl | rfl | rfl | rfl <;> first | exact .s _ | (simp_all; done))) fun E hE => ?_)
  refine Aw.sm tab_ok mb0 [] rfl rfl ?zo ?zk
  case zo =>
    repeat' apply AllP.cons
    all_goals first | exact trivial
  case zk =>
  refine Aw.sm tab_ok mb0 [] rfl rfl ?zo ?zk
  case zo =>
    repeat' apply AllP.cons
    all_goals first | exact trivial
  case zk =>
  refine Aw.seq ?_
  refine Aw.sm tab_ok mb0 [] rfl rfl ?zo ?zk
  case zo =>
    repeat' apply AllP.cons
    all_goals first | exact trivial
  case zk =>
  refine Aw.block (Aw.rounds 0 hE [(2, .pt (seaA s .un)), (11, .sl b .any (l.map Rep.c)), (12, .int l.length)] (fun k : Nat => [(5, .bool (andAll (decide ((l.length : Int) ≤ 24)) s.repOk l k)), (13, .int k)]) (fun _ => []) (fun k => k ≤ l.length) (fun k => l.length - k) 0
    (Nat.zero_le _) ⟨⟨.refl _, .refl _, .of_eq (congrArg A.int ll.symm), trivial⟩, ⟨.of_eq (by rw [andAll_zero, ← ll]; rfl), .refl _, trivial⟩, trivial, Nat.le_refl _⟩ ⟨us, ul, .s _, trivial⟩ (fun _ _ => ⟨.s _, .s _, trivial⟩) (fun _ _ => trivial) fun k hk => ?_)
  refine Aw.sm tab_ok mb0 [] rfl rfl ?zo ?zk
  case zo =>
    repeat' apply AllP.cons
    all_goals first | exact trivial
  case zk =>
  refine Aw.seq (Aw.cond rfl (fun h1 => Aw.skip1 ?_) (fun h1 => Aw.exit2 ?_))
  · have hlt : k < l.length := by have := of_decide_eq_true h1; omega
    refine Aw.seq (Aw.block ?_)
    refine Aw.sm tab_ok mb0 [(0, l[k].c)] rfl rfl ?zo ?zk
    case zo =>
      repeat' apply AllP.cons
      all_goals first | exact trivial | exact rfl | exact Nat.le_of_ble_eq_true rfl | exact Int.natCast_nonneg _ | exact get_map hlt
    case zk =>
    refine Aw.ed tab_ok mixed mb0 [(8, [.bool (wi l[k].hour 0 (s.hours - 1))]), (14, [.int s.many]), (16, [.bool (wi l[k].cell 0 (s.many - 1))]), (21, [.bool (wi l[k].far 0 9)])] rfl (by kernel_rfl) rfl rfl ?zo ?zk
    case zo =>
      repeat' apply AllP.cons
      all_goals first | exact trivial | exact id | exact fun _ => rfl | exact fun _ => Nat.le_of_ble_eq_true rfl | exact (within_t _ _ _).un | exact fun _ => many_u s h | exact fun _ => (by simp only [Ob.of, inR]; omega)
    case zk =>
    refine Aw.em tab_ok mb0 [] rfl rfl ?zo ?zk
    case zo =>
      repeat' apply AllP.cons
      all_goals first | exact trivial | exact inrk k (by omega)
    case zk =>
    exact ⟨k + 1, hlt, by omega, ⟨.refl _, .refl _, .refl _, trivial⟩, ⟨.of_eq (show A.bool (andAll (decide ((l.length : Int) ≤ 24)) s.repOk l (k + 1)) = A.bool (cond (cond (cond (andAll (decide ((l.length : Int) ≤ 24)) s.repOk l k) (wi l[k].hour 0 (s.hours - 1)) false) (wi l[k].cell 0 (s.many - 1)) false) (wi l[k].far 0 9) false) by rw [andAll_step hlt, cond_assoc, cond_assoc]; unfold Sea.repOk; rw [cond_assoc]), .refl _, trivial⟩, trivial, Nat.zero_le _⟩
  have hle : k = l.length := by have := of_decide_eq_false h1; omega
  subst hle
  have e2 : andAll (decide ((l.length : Int) ≤ 24)) s.repOk l l.length = s.repsOk l := andAll_full
  rw [e2]
  refine Aw.sm tab_ok mb0 [] rfl rfl ?zo ?zk
  case zo =>
    repeat' apply AllP.cons
    all_goals first | exact trivial
  case zk =>
  exact Aw.ret ⟨_, .cons (.tmp _) .nil, rfl⟩
theorem areReports_t (s : Sea) (h : s.Ok) (i : Nat) (b : Bool) (l : List Rep) (hl : (l.length : Int) ≤ 9223372036854775806) : Ans Try.prog 78 [.agg (seaA s (.mp i)), .sl b .any (l.map Rep.c)] (.bool (s.repsOk l)) :=
  (areReports_u s h b l hl).le rfl fun j hj => by
    match j, hj with
    | 0, _ => exact seaLe s _ fun _ => rfl
    | 1, _ => exact .refl _
theorem logLe (s : Sea) (l : List Rep) (m : A) (hm : ∀ u, spareOf m u = none) : A.Le (.agg (logA s .un l)) (.agg (logA s m l)) :=
  .agg (.cons (.refl _) (.cons (.refl _) (.cons (.refl _) (.cons (.refl _) (.cons (.refl _) (.cons (.refl _) (.cons ⟨fun _ _ _ v _ => .un v, fun u p h => absurd h (by simp [spareOf])⟩ (.cons (.refl _) .nil))))))))
structure RepFit (s : Sea) (l : List Rep) : Prop where
  len : (l.length : Int) ≤ 24
  at' : ∀ r ∈ l, (0 ≤ r.hour ∧ r.hour ≤ s.hours - 1) ∧ (0 ≤ r.cell ∧ r.cell ≤ s.many - 1) ∧ 0 ≤ r.far ∧ r.far ≤ 9
theorem isAsked_u (s : Sea) (h : s.Ok) (l : List Rep) (wrong hour : Int) : Ans Try.prog 62 [.agg (logA s .un l), .int wrong, .int hour] (.bool (cond (wi wrong 0 24) (wi hour 0 (s.hours - 1)) false)) := by
  have hr := h.hr
  refine told Try.func62 rfl rfl (Pure.of tab_ok Try.func62 rfl Try.ntmps62 rfl (allC (.agg _ (logA_free s l)) (allC (.s _) (all1 (.s _)))) (allC (fun _ => rfl) (allC (fun _ => rfl) (all1 (fun _ => rfl)))) (by first | exact .s _ | assumption | exact .tup _ (by intro x hx; simp only [List.mem_cons, List.not_mem_nil, or_false] at hx; rcases hx with rfl | rfl | rfl | rfl <;> first | exact .s _ | (simp_all; done))) fun E hE => ?_)
  refine Aw.sm tab_ok mb0 [] rfl rfl ?zo ?zk
  case zo =>
    repeat' apply AllP.cons
    all_goals first | exact trivial
  case zk =>
  refine Aw.sm tab_ok mb0 [(1, [.bool (wi wrong 0 24)]), (9, [.bool (wi hour 0 (s.hours - 1))])] rfl rfl ?zo ?zk
  case zo =>
    repeat' apply AllP.cons
    all_goals first | exact trivial | exact id | exact fun _ => rfl | exact fun _ => Nat.le_of_ble_eq_true rfl | exact within_t _ _ _ | exact (within_t _ _ _).un | exact fun _ => (by simp only [Ob.of, inR]; omega)
  case zk =>
  exact Aw.ret ⟨_, .cons (.tmp _) .nil, rfl⟩
theorem untrue_u (s : Sea) (h : s.Ok) (l : List Rep) (hl : RepFit s l) (hour cell : Int) (hc : -1000 ≤ cell ∧ cell ≤ 1000) :
    Ans Try.prog 52 [.agg (logA s .un l), .int hour, .int cell] (.int (untrueF s.wide l hour (placeP s.wide cell))) := by
  have ll : ((l.map (repC s.wide)).length : Int) = l.length := by simp
  have hm := h.many
  have hlen := hl.len
  have us : Under 0 (A.pt (logA s .un l)) := (Free.pt _ (logA_free s l)).under
  have ul : Under 0 (A.sl l.isEmpty .any (l.map (repC s.wide))) := (free_map (repC_free _) _ _ _).under
  have hn : ∀ k : Nat, k ≤ l.length → (0 : Int) ≤ ((l.take k).countP (falseAt s.wide hour (placeP s.wide cell)) : Nat) ∧ (((l.take k).countP (falseAt s.wide hour (placeP s.wide cell)) : Nat) : Int) ≤ 24 := fun k hk => by
    have := List.countP_le_length (p := falseAt s.wide hour (placeP s.wide cell)) (l := l.take k)
    have h2 : (l.take k).length ≤ l.length := by rw [List.length_take]; omega
    omega
  refine told Try.func52 rfl rfl (Pure.of tab_ok Try.func52 rfl Try.ntmps52 rfl (allC (.agg _ (logA_free s l)) (allC (.s _) (all1 (.s _)))) (allC (fun _ => rfl) (allC (fun _ => rfl) (all1 (fun _ => rfl)))) (by first | exact .s _ | assumption | exact .tup _ (by intro x hx; simp only [List.mem_cons, List.not_mem_nil, or_false] at hx; rcases hx with rfl | rfl | rfl | rfl <;> first | exact .s _ | (simp_all; done))) fun E hE => ?_)
  refine Aw.sm tab_ok mb0 [] rfl rfl ?zo ?zk
  case zo =>
    repeat' apply AllP.cons
    all_goals first | exact trivial
  case zk =>
  refine Aw.sm tab_ok mb0 [] rfl rfl ?zo ?zk
  case zo =>
    repeat' apply AllP.cons
    all_goals first | exact trivial
  case zk =>
  refine Aw.seq ?_
  refine Aw.sm tab_ok mb0 [] rfl rfl ?zo ?zk
  case zo =>
    repeat' apply AllP.cons
    all_goals first | exact trivial | exact Nat.le_of_ble_eq_true rfl
  case zk =>
  refine Aw.block (Aw.rounds 0 hE [(1, .int hour), (2, .int cell), (3, .pt (logA s .un l)), (12, .sl l.isEmpty .any (l.map (repC s.wide))), (13, .int l.length)] (fun k : Nat => [(7, .int ((l.take k).countP (falseAt s.wide hour (placeP s.wide cell)) : Nat)), (14, .int k)]) (fun _ => []) (fun k => k ≤ l.length) (fun k => l.length - k) 0
    (Nat.zero_le _) ⟨⟨.refl _, .refl _, .refl _, .refl _, .of_eq (congrArg A.int ll.symm), trivial⟩, ⟨.refl _, .refl _, trivial⟩, trivial, Nat.le_refl _⟩ ⟨.s _, .s _, us, ul, .s _, trivial⟩ (fun _ _ => ⟨.s _, .s _, trivial⟩) (fun _ _ => trivial) fun k hk => ?_)
  refine Aw.sm tab_ok mb0 [] rfl rfl ?zo ?zk
  case zo =>
    repeat' apply AllP.cons
    all_goals first | exact trivial
  case zk =>
  refine Aw.seq (Aw.cond rfl (fun h1 => Aw.skip1 ?_) (fun h1 => Aw.exit2 ?_))
  · have hlt : k < l.length := by have := of_decide_eq_true h1; omega
    have hst := cnt_take (p := falseAt s.wide hour (placeP s.wide cell)) hlt
    have hb := hn k hk
    have hra := hl.at' _ (List.getElem_mem hlt)
    have hrn : Near (placeP s.wide l[k].cell) := placeP_near h.w (by omega)
    have hgl := get_map (f := repC s.wide) hlt
    generalize l[k] = r at *
    generalize ((l.take k).countP (falseAt s.wide hour (placeP s.wide cell)) : Int) = n at *
    refine Aw.seq (Aw.block ?_)
    refine Aw.sm tab_ok mb0 [(0, repC s.wide r)] rfl rfl ?zo ?zk
    case zo =>
      repeat' apply AllP.cons
      all_goals first | exact trivial | exact rfl | exact Nat.le_of_ble_eq_true rfl | exact Int.natCast_nonneg _ | exact hgl
    case zk =>
    refine Aw.sm tab_ok mb0 [] rfl rfl ?zo ?zk
    case zo =>
      repeat' apply AllP.cons
      all_goals first | exact trivial | exact Nat.le_of_ble_eq_true rfl
    case zk =>
    refine Aw.sm tab_ok mb0 [(10, [.agg (placeP s.wide cell).c]), (11, [.bool (isTrueF s.wide r (placeP s.wide cell))])] rfl rfl ?zo ?zk
    case zo =>
      repeat' apply AllP.cons
      all_goals first | exact trivial | exact id | exact fun _ => rfl | exact Nat.le_of_ble_eq_true rfl | exact fun _ => Nat.le_of_ble_eq_true rfl | exact fun _ => place_u s h cell hc | exact fun _ => isTrue_t s r _ hrn (placeP_near h.w hc)
    case zk =>
    refine Aw.cond rfl (fun h2 => ?_) (fun h2 => Aw.skip ?_)
    · have h2' : falseAt s.wide hour (placeP s.wide cell) r = true := h2
      rw [h2', if_pos rfl] at hst
      refine Aw.em tab_ok mb0 [] rfl rfl ?zo ?zk
      case zo =>
        repeat' apply AllP.cons
        all_goals first | exact trivial | exact (by simp only [Ob.of, inR]; omega)
      case zk =>
      refine Aw.em tab_ok mb0 [] rfl rfl ?zo ?zk
      case zo =>
        repeat' apply AllP.cons
        all_goals first | exact trivial | exact inrk k (by omega)
      case zk =>
      exact ⟨k + 1, hlt, by omega, ⟨.refl _, .refl _, .refl _, .refl _, .refl _, trivial⟩, ⟨.of_eq (congrArg A.int hst), .refl _, trivial⟩, trivial, Nat.zero_le _⟩
    · have h2' : falseAt s.wide hour (placeP s.wide cell) r = false := h2
      rw [h2', if_neg (by decide), Int.add_zero] at hst
      refine Aw.em tab_ok mb0 [] rfl rfl ?zo ?zk
      case zo =>
        repeat' apply AllP.cons
        all_goals first | exact trivial | exact inrk k (by omega)
      case zk =>
      exact ⟨k + 1, hlt, by omega, ⟨.refl _, .refl _, .refl _, .refl _, .refl _, trivial⟩, ⟨.of_eq (congrArg A.int hst), .refl _, trivial⟩, trivial, Nat.zero_le _⟩
  have hle : k = l.length := by have := of_decide_eq_false h1; omega
  subst hle
  refine Aw.sm tab_ok mb0 [] rfl rfl ?zo ?zk
  case zo =>
    repeat' apply AllP.cons
    all_goals first | exact trivial
  case zk =>
  exact Aw.ret ⟨_, .cons (.tmp _) .nil, by unfold untrueF; rw [List.take_length]; rfl⟩
theorem untrue_t (s : Sea) (h : s.Ok) (l : List Rep) (hl : RepFit s l) (i : Nat) (hour cell : Int) (hc : -1000 ≤ cell ∧ cell ≤ 1000) :
    Ans Try.prog 52 [.agg (logA s (.mp i) l), .int hour, .int cell] (.int (untrueF s.wide l hour (placeP s.wide cell))) := (untrue_u s h l hl hour cell hc).le rfl fun j hj => by
    match j, hj with
    | 0, _ => exact logLe s l _ fun _ => rfl
    | 1, _ => exact .refl _
    | 2, _ => exact .refl _
theorem isAsked_t (s : Sea) (h : s.Ok) (l : List Rep) (i : Nat) (wrong hour : Int) : Ans Try.prog 62 [.agg (logA s (.mp i) l), .int wrong, .int hour] (.bool (cond (wi wrong 0 24) (wi hour 0 (s.hours - 1)) false)) := (isAsked_u s h l wrong hour).le rfl fun j hj => by
    match j, hj with
    | 0, _ => exact logLe s l _ fun _ => rfl
    | 1, _ => exact .refl _
    | 2, _ => exact .refl _
theorem steps_t (s : Sea) (h : s.Ok) (i : Nat) (hour : Int) (h0 : 0 ≤ hour) (h1 : hour < s.drift.length) (p q : Sp) (hp : -1000 ≤ p.lo ∧ p.lo ≤ 1000) (hp' : -1000 ≤ p.hi ∧ p.hi ≤ 1000) (hq : Near q) :
    Ans Try.prog 51 [.agg (seaA s (.mp i)), .int hour, .agg p.c, .agg q.c] (.bool (s.steps hour p q)) := (steps_u s h hour h0 h1 p q hp hp' hq).le rfl fun j hj => by
    match j, hj with
    | 0, _ => exact seaLe s _ fun _ => rfl
    | 1, _ => exact .refl _
    | 2, _ => exact .refl _
    | 3, _ => exact .refl _
theorem covers_t (c : Sp) (far : Int) (p : Sp) (hc : Near c) (hp : Near p) : Ans Try.prog 68 [.agg (c.c ++ [.int far]), .agg p.c] (.bool (decide (farF c p ≤ far))) := by
  refine told Try.func68 rfl rfl (Pure.of tab_ok Try.func68 rfl Try.ntmps68 rfl (allC (.agg _ (fun x hx => (List.mem_append.1 hx).elim (c.free x) (all1 (.s _) x))) (all1 (.agg _ p.free))) (allC (fun _ => rfl) (all1 (fun _ => rfl))) (by first | exact .s _ | assumption | exact .tup _ (by intro x hx; simp only [List.mem_cons, List.not_mem_nil, or_false] at hx; rcases hx with rfl | rfl | rfl | rfl <;> first | exact .s _ | (simp_all; done))) fun E hE => ?_)
  refine Aw.sm tab_ok mb0 [] rfl rfl ?zo ?zk
  case zo =>
    repeat' apply AllP.cons
    all_goals first | exact trivial
  case zk =>
  refine Aw.sd tab_ok mixed mb0 [(3, [.int (farF c p)])] rfl (by kernel_rfl) rfl rfl ?zo ?zk
  case zo =>
    repeat' apply AllP.cons
    all_goals first | exact trivial | exact Nat.le_of_ble_eq_true rfl | exact far_t _ _ hc hp
  case zk =>
  exact Aw.ret ⟨_, .cons (.tmp _) .nil, rfl⟩
end Go.Proofs.Ytohbjneaaahpcaa

namespace Go.Proofs.Ytohbjneaaahpcaa
open Go Go.AL Go.AL.Q Go.AL.Sh
def plE (p : Sp) : List Value := [.int .i64 p.lo, .int .i64 p.hi]
def valB (b : Bool) : A := .bool b
set_option maxRecDepth 100000 in
theorem kty : KeyTy Try.prog 85 plE where
  und := ⟨_, Try.underlying85, fun _ _ => rfl⟩
  eq := fun a b => by
    show pureRun Try.prog (Op.equal 85 (.agg #[.int .i64 _, .int .i64 _]) (.agg #[.int .i64 _, .int .i64 _])) = _
    rw [eq85, sp_beq]
  ck := fun e a => rfl
  bits := fun a => by simp [Instr.sameBits, plE]
def landF (w : Int) (l : List Int) : List (Sp × Bool) := l.foldl (fun m c => mput m (placeP w c) true) []
theorem landF_step {w : Int} {l : List Int} {k : Nat} (h : k < l.length) : landF w (l.take (k + 1)) = mput (landF w (l.take k)) (placeP w l[k]) true := by
  unfold landF; rw [List.take_succ_eq_append_getElem h, List.foldl_append]; rfl
def isLand (w : Int) (l : List Int) (p : Sp) : Bool := l.any fun c => placeP w c == p
theorem land_get (w : Int) (p : Sp) (l : List Int) : mget (landF w l) p = if isLand w l p then some true else none := by
  have : ∀ (l : List Int) (m : List (Sp × Bool)), mget (l.foldl (fun m c => mput m (placeP w c) true) m) p = if isLand w l p then some true else mget m p := by
    intro l
    induction l with
    | nil => intro m; rfl
    | cons c l ih =>
      intro m
      rw [List.foldl_cons, ih, mget_put]
      have key : ∀ (a b : Bool) (x : Option Bool), (if b then some true else if a then some true else x) = if (a || b) then some true else x := by intro a b x; cases a <;> cases b <;> rfl
      exact key _ _ _
  exact this l []
theorem encM_free {V : Type} {enc : Sp → List Value} {val : V → A} (hv : ∀ v, Free (val v)) (m : List (Sp × V)) : ∀ p ∈ encM enc val m, Free p.1 ∧ Free p.2 := fun p hp => by
  obtain ⟨q, _, rfl⟩ := List.mem_map.1 hp
  refine ⟨.agg _ fun x hx => ?_, hv _⟩
  obtain ⟨v, _, rfl⟩ := List.mem_map.1 hx
  exact .s _
theorem valB_free : ∀ b, Free (valB b) := fun b => .s _
def landB (s : Sea) : B := .map (encM plE valB (landF s.wide s.land))
theorem map_under {n : Nat} (m : List (Sp × Bool)) : UnderB n (.map (encM plE valB m)) := .map _ fun p hp => ⟨(encM_free valB_free m p hp).1.under, (encM_free valB_free m p hp).2.under⟩
def zeroSea : List A := [.int 0, .int 0, .sl true .exact [], .int 0, .sl true .exact [], .int 0, .s (.map none)]
theorem zeroSea_free : ∀ x ∈ zeroSea, Free x := allC (.s _) (allC (.s _) (allC (.sl _ _ _ fun _ h => nomatch h) (allC (.s _) (allC (.sl _ _ _ fun _ h => nomatch h) (allC (.s _) (all1 (.s _)))))))
theorem sea_under (s : Sea) {n i : Nat} (h : i < n) : ∀ x ∈ seaA s (.mp i), Under n x := fun x hx => (List.mem_append.1 hx).elim (fun h => (s.free x h).under) (all1 (.mp _ h) x)
theorem opened_no (s : Sea) (hf : SeaFit s) (hok : s.ok = false) : Ans Try.prog 77 [.agg s.c] (.tup [.agg zeroSea, .int 10]) := by
  have hchk : s.chk = 10 := by unfold Sea.chk; rw [hok]; rfl
  have hfr : Free (.tup [.agg zeroSea, .int 10]) := .tup _ (allC (.agg _ zeroSea_free) (all1 (.s _)))
  refine told Try.func77 rfl rfl (Pure.of tab_ok Try.func77 rfl Try.ntmps77 rfl (all1 (.agg _ s.free)) (all1 (fun _ => rfl)) (by first | exact .s _ | assumption | exact .tup _ (by intro x hx; simp only [List.mem_cons, List.not_mem_nil, or_false] at hx; rcases hx with rfl | rfl | rfl | rfl <;> first | exact .s _ | (simp_all; done))) fun E hE => ?_)
  refine Aw.sm tab_ok mb0 [] rfl rfl ?zo ?zk
  case zo =>
    repeat' apply AllP.cons
    all_goals first | exact trivial
  case zk =>
  refine Aw.seq ?_
  refine Aw.sm tab_ok mb0 [(1, [.int 10])] rfl rfl ?zo ?zk
  case zo =>
    repeat' apply AllP.cons
    all_goals first | exact trivial | exact Nat.le_of_ble_eq_true rfl | exact hchk ▸ check_t s hf
  case zk =>
  refine Aw.sm tab_ok mb0 [] rfl rfl ?zo ?zk
  case zo =>
    repeat' apply AllP.cons
    all_goals first | exact trivial
  case zk =>
  refine Aw.cond rfl (fun h => ?_) (fun h => absurd h (by decide))
  refine Aw.sm tab_ok mb0 [] rfl rfl ?zo ?zk
  case zo =>
    repeat' apply AllP.cons
    all_goals first | exact trivial | exact rfl | exact Nat.le_of_ble_eq_true rfl
  case zk =>
  exact Aw.ret ⟨_, .cons (resC rfl rfl rfl rfl rfl) (.cons (.tmp _) .nil), rfl⟩
theorem opened_s (s : Sea) (hf : SeaFit s) (hok : s.ok = true) : SCall Try.prog 77 [.agg s.c] (fun _ => none) 0 (fun v H' _ => v = .tup [.agg (seaA s (.mp 1)), .int 0] ∧ H' = ofH [(1, landB s)]) := by
  have hchk : s.chk = 0 := by unfold Sea.chk; rw [hok]; rfl
  have ho := Sea.ok_of hok
  have hm := ho.many
  have ll := ints_lenI s.land
  have hin := rising_in ho.ri (by omega) (show -1 < s.wide * s.high from by have : s.many = s.wide * s.high := rfl; omega)
  have us : Under 3 (A.pt s.c) := (Free.pt _ s.free).under
  have ul : Under 3 (A.sl s.ln .any (ints s.land)) := (free_ints _ _ _).under
  refine SCall.drop (post := fun v H' _ => v = .tup [.agg (seaA s (.mp 1)), .int 0] ∧ HasH H' [(1, landB s)]) (SCall.of_bodyN tab_ok Try.func77 rfl Try.ntmps77 (Nat.le_of_ble_eq_true rfl) (all1 fun _ => rfl) fun E hE => ?_)
      (fun v H' c' h => ⟨_, h.2.ofH, h.1, rfl⟩)
  have hE3 : ∀ id, 3 ≤ id → E.φ0 id = none := fun id h => hE id (by omega)
  refine Aw.sm tab_ok mb0 [] rfl rfl ?zo ?zk
  case zo =>
    repeat' apply AllP.cons
    all_goals first | exact trivial
  case zk =>
  refine Aw.seq ?_
  refine Aw.sm tab_ok mb0 [(1, [.int 0])] rfl rfl ?zo ?zk
  case zo =>
    repeat' apply AllP.cons
    all_goals first | exact trivial | exact Nat.le_of_ble_eq_true rfl | exact hchk ▸ check_t s hf
  case zk =>
  refine Aw.sm tab_ok mb0 [] rfl rfl ?zo ?zk
  case zo =>
    repeat' apply AllP.cons
    all_goals first | exact trivial
  case zk =>
  refine Aw.cond rfl (fun h => absurd h (by decide)) (fun h => Aw.skip ?_)
  refine Aw.sm tab_ok mb0 [] rfl rfl ?zo ?zk
  case zo =>
    repeat' apply AllP.cons
    all_goals first | exact trivial | exact rfl | exact Nat.le_of_ble_eq_true rfl
  case zk =>
  refine Aw.seq ?_
  refine Aw.sm tab_ok mb0 [] rfl rfl ?zo ?zk
  case zo =>
    repeat' apply AllP.cons
    all_goals first | exact trivial | exact Nat.le_of_ble_eq_true rfl
  case zk =>
  refine Aw.block (Aw.rounds 3 hE3 [(1, .pt s.c), (2, .ref 0 0), (5, .ref 2 0), (18, .sl s.ln .any (ints s.land)), (19, .int s.land.length)] (fun k : Nat => [(20, .int k)]) (fun k => [(0, .cells zeroSea), (1, .map (encM plE valB (landF s.wide (s.land.take k)))), (2, .cells (seaA s (.mp 1)))]) (fun k => k ≤ s.land.length) (fun k => s.land.length - k) 0
    (Nat.zero_le _) ⟨⟨.refl _, .refl _, .refl _, .refl _, .of_eq (congrArg A.int ll.symm), trivial⟩, ⟨.refl _, trivial⟩, ⟨rfl, rfl, rfl, trivial⟩, Nat.le_of_ble_eq_true rfl⟩ ⟨us, .ref _ _ (by decide), .ref _ _ (by decide), ul, .s _, trivial⟩ (fun _ _ => ⟨.s _, trivial⟩)
    (fun _ _ => ⟨⟨by decide, .cells _ fun x hx => (zeroSea_free x hx).under⟩, ⟨by decide, map_under _⟩, ⟨by decide, .cells _ (sea_under s (by decide))⟩, trivial⟩) fun k hk => ?_)
  refine Aw.sm tab_ok mb0 [] rfl rfl ?zo ?zk
  case zo =>
    repeat' apply AllP.cons
    all_goals first | exact trivial
  case zk =>
  refine Aw.seq (Aw.cond rfl (fun h1 => Aw.skip1 ?_) (fun h1 => Aw.exit2 ?_))
  · have hlt : k < s.land.length := by have := of_decide_eq_true h1; omega
    have hst := landF_step (w := s.wide) hlt
    have hc := hin.1 _ (List.getElem_mem hlt)
    have hc' : -1000 ≤ s.land[k] ∧ s.land[k] ≤ 1000 := by have : s.many = s.wide * s.high := rfl; omega
    have hgl := ints_get hlt
    generalize s.land[k] = x at *
    generalize landF s.wide (s.land.take k) = m at *
    have hup : upKV (encM plE valB m) (.agg (placeP s.wide x).c) (.bool true) (ixOf Try.prog 85 (encM plE valB m) (.agg (placeP s.wide x).c)) = encM plE valB (mput m (placeP s.wide x) true) := kty.up valB m (placeP s.wide x) true
    refine Aw.seq (Aw.block ?_)
    refine Aw.sm tab_ok mb0 [(0, [.int x])] rfl rfl ?zo ?zk
    case zo =>
      repeat' apply AllP.cons
      all_goals first | exact trivial | exact rfl | exact Nat.le_of_ble_eq_true rfl | exact Int.natCast_nonneg _ | exact hgl
    case zk =>
    refine Aw.ed tab_ok mixed mb0 [(4, [.agg (placeP s.wide x).c])] rfl (by kernel_rfl) rfl rfl ?zo ?zk
    case zo =>
      repeat' apply AllP.cons
      all_goals first | exact trivial | exact Nat.le_of_ble_eq_true rfl | exact plc_t s ho 1 x hc' | exact kty.has valB m (placeP s.wide x)
    case zk =>
    refine Aw.em tab_ok mb0 [] rfl rfl ?zo ?zk
    case zo =>
      repeat' apply AllP.cons
      all_goals first | exact trivial | exact inrk k (by have := hf.l; omega)
    case zk =>
    exact ⟨k + 1, hlt, by omega, ⟨.refl _, .refl _, .refl _, .refl _, .refl _, trivial⟩, ⟨.refl _, trivial⟩, ⟨rfl, congrArg (fun x => some (B.map x)) (by rw [hst]; exact hup), rfl, trivial⟩, Nat.le_of_ble_eq_true rfl⟩
  have hle : k = s.land.length := by have := of_decide_eq_false h1; omega
  subst hle
  refine Aw.sm tab_ok mb0 [] rfl rfl ?zo ?zk
  case zo =>
    repeat' apply AllP.cons
    all_goals first | exact trivial | exact rfl | exact Nat.le_of_ble_eq_true rfl
  case zk =>
  refine Aw.ret ⟨_, .cons (resC rfl rfl rfl rfl rfl) (.cons (.tmp _) .nil), rfl, ?_⟩
  exact ⟨by rw [List.take_length]; rfl, trivial⟩
theorem opened_n (s : Sea) (hf : SeaFit s) (hok : s.ok = true) (nm : Nat) : NewMap Try.prog 77 [.agg s.c] nm (.tup [.agg (seaA s (.mp nm)), .int 0]) (kvsOf (kvsTo (encM plE valB (landF s.wide s.land)))) := by
  rw [kvs_to]
  exact NewMap.ren (k := 1) (enters_of Try.func77 rfl rfl) (all1 (.agg _ s.free)) (fun p hp => encM_free valB_free _ p hp) (opened_s s hf hok)
    (RenL.tup (.cons (RenL.agg (RenL.app (RenL.free s.free) (.cons .mp .nil))) (.cons (.free (.s _)) .nil))) fun u => rfl
end Go.Proofs.Ytohbjneaaahpcaa

namespace Go.Proofs.Ytohbjneaaahpcaa
open Go Go.AL Go.AL.Q Go.AL.Sh
def zeroLog : List A := zeroSea ++ [.sl true .exact []]
theorem zeroLog_free : ∀ x ∈ zeroLog, Free x := fun x hx => (List.mem_append.1 hx).elim (zeroSea_free x) (all1 (.sl _ _ _ fun _ h => nomatch h) x)
def repsK (w : Int) : List Rep → A
  | [] => .sl true .exact []
  | x :: l => .sl false (.own 105) ((x :: l).map (repC w))
theorem repsK_under (w : Int) {n : Nat} : ∀ l : List Rep, Under n (repsK w l)
  | [] => .sl _ _ _ fun _ h => nomatch h
  | x :: l => .sl _ _ _ (under_map (repC_free w) _)
theorem log_under (s : Sea) {n i : Nat} (h : i < n) (l : List Rep) : ∀ x ∈ seaA s (.mp i) ++ [repsK s.wide l], Under n x := fun x hx => (List.mem_append.1 hx).elim (sea_under s h x) (all1 (repsK_under _ l) x)
theorem repsK_down (w : Int) (l : List Rep) : (repsK w l).down = .sl l.isEmpty (match l with | [] => .exact | _ => .any) (l.map (repC w)) := by cases l <;> rfl
theorem repC_len (w : Int) (l : List Rep) : ∀ z ∈ l.map (repC w), z.length = 6 := fun z hz => by obtain ⟨r, _, rfl⟩ := List.mem_map.1 hz; rfl
theorem read_no (s : Sea) (hf : SeaFit s) (b : Bool) (l : List Rep) (hok : s.ok = false) : Ans Try.prog 47 [.agg s.c, .sl b .any (l.map Rep.c)] (.tup [.agg zeroLog, .int 10]) := by
  have hfr : Free (.tup [.agg zeroLog, .int 10]) := .tup _ (allC (.agg _ zeroLog_free) (all1 (.s _)))
  refine told Try.func47 rfl rfl (Pure.of tab_ok Try.func47 rfl Try.ntmps47 rfl (allC (.agg _ s.free) (all1 (free_map Rep.free _ _ _))) (allC (fun _ => rfl) (all1 (fun _ => rfl))) (by first | exact .s _ | assumption | exact .tup _ (by intro x hx; simp only [List.mem_cons, List.not_mem_nil, or_false] at hx; rcases hx with rfl | rfl | rfl | rfl <;> first | exact .s _ | (simp_all; done))) fun E hE => ?_)
  refine Aw.sm tab_ok mb0 [] rfl rfl ?zo ?zk
  case zo =>
    repeat' apply AllP.cons
    all_goals first | exact trivial
  case zk =>
  refine Aw.sm tab_ok mb0 [(1, [.tup [.agg zeroSea, .int 10]])] rfl rfl ?zo ?zk
  case zo =>
    repeat' apply AllP.cons
    all_goals first | exact trivial | exact rfl | exact Nat.le_of_ble_eq_true rfl | exact opened_no s hf hok
  case zk =>
  refine Aw.seq ?_
  refine Aw.sm tab_ok mb0 [] rfl rfl ?zo ?zk
  case zo =>
    repeat' apply AllP.cons
    all_goals first | exact trivial
  case zk =>
  refine Aw.cond rfl (fun h => ?_) (fun h => absurd h (by decide))
  refine Aw.sm tab_ok mb0 [] rfl rfl ?zo ?zk
  case zo =>
    repeat' apply AllP.cons
    all_goals first | exact trivial | exact rfl | exact Nat.le_of_ble_eq_true rfl
  case zk =>
  exact Aw.ret ⟨_, .cons (resC rfl rfl rfl rfl rfl) (.cons (.tmp _) .nil), rfl⟩
theorem read_bad (s : Sea) (hf : SeaFit s) (b : Bool) (l : List Rep) (hl : (l.length : Int) ≤ 9223372036854775806) (hok : s.ok = true) (hr : s.repsOk l = false) : Ans Try.prog 47 [.agg s.c, .sl b .any (l.map Rep.c)] (.tup [.agg zeroLog, .int 11]) := by
  have hfr : Free (.tup [.agg zeroLog, .int 11]) := .tup _ (allC (.agg _ zeroLog_free) (all1 (.s _)))
  refine told Try.func47 rfl rfl (Pure.of tab_ok Try.func47 rfl Try.ntmps47 rfl (allC (.agg _ s.free) (all1 (free_map Rep.free _ _ _))) (allC (fun _ => rfl) (all1 (fun _ => rfl))) (by first | exact .s _ | assumption | exact .tup _ (by intro x hx; simp only [List.mem_cons, List.not_mem_nil, or_false] at hx; rcases hx with rfl | rfl | rfl | rfl <;> first | exact .s _ | (simp_all; done))) fun E hE => ?_)
  refine Aw.sm tab_ok mb0 [] rfl rfl ?zo ?zk
  case zo =>
    repeat' apply AllP.cons
    all_goals first | exact trivial
  case zk =>
  refine Aw.sm tab_ok mb0 [(1, [.tup [.agg (seaA s (.mp 1)), .int 0], .sl false .any (kvsTo (encM plE valB (landF s.wide s.land)))])] rfl rfl ?zo ?zk
  case zo =>
    repeat' apply AllP.cons
    all_goals first | exact trivial | exact rfl | exact Nat.le_of_ble_eq_true rfl | exact opened_n s hf hok 1
  case zk =>
  refine Aw.seq ?_
  refine Aw.sm tab_ok mb0 [] rfl rfl ?zo ?zk
  case zo =>
    repeat' apply AllP.cons
    all_goals first | exact trivial
  case zk =>
  refine Aw.cond rfl (fun h => absurd h (by decide)) (fun h => Aw.skip ?_)
  refine Aw.seq ?_
  refine Aw.sm tab_ok mb0 [(2, [.bool false])] rfl rfl ?zo ?zk
  case zo =>
    repeat' apply AllP.cons
    all_goals first | exact trivial | exact Nat.le_of_ble_eq_true rfl | exact hr ▸ areReports_t s (Sea.ok_of hok) 1 b l hl
  case zk =>
  refine Aw.cond rfl (fun h => ?_) (fun h => absurd h (by decide))
  refine Aw.sm tab_ok mb0 [] rfl rfl ?zo ?zk
  case zo =>
    repeat' apply AllP.cons
    all_goals first | exact trivial | exact rfl | exact Nat.le_of_ble_eq_true rfl
  case zk =>
  exact Aw.ret ⟨_, .cons (resC rfl rfl rfl rfl rfl) (.cons (.tmp _) .nil), rfl⟩
theorem reps_fit {s : Sea} {l : List Rep} (h : s.repsOk l = true) : RepFit s l := by
  unfold Sea.repsOk at h
  refine ⟨of_decide_eq_true (ac1 h), fun r hr => ?_⟩
  have := List.all_eq_true.1 (ac2 h) r hr
  unfold Sea.repOk at this
  exact ⟨wi_iff.1 (ac1 (ac1 this)), wi_iff.1 (ac2 (ac1 this)), wi_iff.1 (ac2 this)⟩
theorem read_s (s : Sea) (hf : SeaFit s) (b : Bool) (l : List Rep) (hok : s.ok = true) (hr : s.repsOk l = true) :
    SCall Try.prog 47 [.agg s.c, .sl b .any (l.map Rep.c)] (fun _ => none) 0 (fun v H' _ => v = .tup [.agg (logA s (.mp 1) l), .int 0] ∧ H' = ofH [(1, landB s)]) := by
  have ho := Sea.ok_of hok
  have hrf := reps_fit hr
  have hlen := hrf.len
  have hm := ho.many
  have ll : ((l.map Rep.c).length : Int) = l.length := by simp
  have us : Under 4 (A.pt s.c) := (Free.pt _ s.free).under
  have ul : Under 4 (A.sl b .any (l.map Rep.c)) := (free_map Rep.free _ _ _).under
  refine SCall.drop (post := fun v H' _ => v = .tup [.agg (logA s (.mp 1) l), .int 0] ∧ HasH H' [(1, landB s)])
      ((SCall.of_bodyN (post := fun v H' _ => v = .tup [.agg (seaA s (.mp 1) ++ [(repsK s.wide l).down]), .int 0] ∧ HasH H' [(1, landB s)]) tab_ok Try.func47 rfl Try.ntmps47 (Nat.le_of_ble_eq_true rfl) (allC (fun _ => rfl) (all1 fun _ => rfl)) fun E hE => ?_).le fun v H' c' h => ⟨_, ?_, rfl, h.2⟩)
      (fun v H' c' h => ⟨_, h.2.ofH, h.1, rfl⟩)
  · have hE4 : ∀ id, 4 ≤ id → E.φ0 id = none := fun id h => hE id (by omega)
    refine Aw.sm tab_ok mb0 [] rfl rfl ?zo ?zk
    case zo =>
      repeat' apply AllP.cons
      all_goals first | exact trivial
    case zk =>
    refine Aw.sm tab_ok mb0 [(1, [.tup [.agg (seaA s (.mp 1)), .int 0], .sl false .any (kvsTo (encM plE valB (landF s.wide s.land)))])] rfl rfl ?zo ?zk
    case zo =>
      repeat' apply AllP.cons
      all_goals first | exact trivial | exact rfl | exact Nat.le_of_ble_eq_true rfl | exact opened_n s hf hok 1
    case zk =>
    refine Aw.seq ?_
    refine Aw.sm tab_ok mb0 [] rfl rfl ?zo ?zk
    case zo =>
      repeat' apply AllP.cons
      all_goals first | exact trivial
    case zk =>
    refine Aw.cond rfl (fun h => absurd h (by decide)) (fun h => Aw.skip ?_)
    refine Aw.seq ?_
    refine Aw.sm tab_ok mb0 [(2, [.bool true])] rfl rfl ?zo ?zk
    case zo =>
      repeat' apply AllP.cons
      all_goals first | exact trivial | exact Nat.le_of_ble_eq_true rfl | exact hr ▸ areReports_t s ho 1 b l (by omega)
    case zk =>
    refine Aw.cond rfl (fun h => absurd h (by decide)) (fun h => Aw.skip ?_)
    refine Aw.sm tab_ok mb0 [] rfl rfl ?zo ?zk
    case zo =>
      repeat' apply AllP.cons
      all_goals first | exact trivial | exact rfl | exact Nat.le_of_ble_eq_true rfl
    case zk =>
    refine Aw.seq ?_
    refine Aw.sm tab_ok mb0 [] rfl rfl ?zo ?zk
    case zo =>
      repeat' apply AllP.cons
      all_goals first | exact trivial
    case zk =>
    refine Aw.block (Aw.rounds 4 hE4 [(4, .ref 0 0), (6, .ref 2 0), (8, .ref 3 0), (27, .sl b .any (l.map Rep.c)), (28, .int l.length)] (fun k : Nat => [(29, .int k)]) (fun k => [(0, .cells zeroLog), (1, landB s), (2, .cells (seaA s (.mp 1))), (3, .cells (seaA s (.mp 1) ++ [repsK s.wide (l.take k)]))]) (fun k => k ≤ l.length) (fun k => l.length - k) 0
      (Nat.zero_le _) ⟨⟨.refl _, .refl _, .refl _, .refl _, .of_eq (congrArg A.int ll.symm), trivial⟩, ⟨.refl _, trivial⟩, ⟨rfl, congrArg (fun x => some (B.map x)) (kvs_to _), rfl, rfl, trivial⟩, Nat.le_of_ble_eq_true rfl⟩ ⟨.ref _ _ (by decide), .ref _ _ (by decide), .ref _ _ (by decide), ul, .s _, trivial⟩ (fun _ _ => ⟨.s _, trivial⟩)
      (fun _ _ => ⟨⟨by decide, .cells _ fun x hx => (zeroLog_free x hx).under⟩, ⟨by decide, map_under _⟩, ⟨by decide, .cells _ (sea_under s (by decide))⟩, ⟨by decide, .cells _ (log_under s (by decide) _)⟩, trivial⟩) fun k hk => ?_)
    refine Aw.sm tab_ok mb0 [] rfl rfl ?zo ?zk
    case zo =>
      repeat' apply AllP.cons
      all_goals first | exact trivial
    case zk =>
    refine Aw.seq (Aw.cond rfl (fun h1 => Aw.skip1 ?_) (fun h1 => Aw.exit2 ?_))
    · have hlt : k < l.length := by have := of_decide_eq_true h1; omega
      have hst : l.take (k + 1) = l.take k ++ [l[k]] := List.take_succ_eq_append_getElem hlt
      have hra := hrf.at' _ (List.getElem_mem hlt)
      have hgl := get_map (f := Rep.c) hlt
      have htl : (l.take k).length ≤ 24 := by rw [List.length_take]; omega
      generalize l[k] = r at *
      refine Aw.seq (Aw.block ?_)
      refine Aw.sm tab_ok mb0 [(0, r.c)] rfl rfl ?zo ?zk
      case zo =>
        repeat' apply AllP.cons
        all_goals first | exact trivial | exact rfl | exact Nat.le_of_ble_eq_true rfl | exact Int.natCast_nonneg _ | exact hgl
      case zk =>
      cases hm : l.take k with
      | nil =>
        rw [hm] at hst
        refine Aw.ed tab_ok mixed mb0 [(6, [.agg (placeP s.wide r.cell).c])] rfl (by kernel_rfl) rfl rfl ?zo ?zk
        case zo =>
          repeat' apply AllP.cons
          all_goals first | exact trivial | exact rfl | exact Nat.le_of_ble_eq_true rfl | exact plc_t s ho 1 r.cell (by omega) | exact (show ∀ z ∈ [] ++ [repC s.wide r], z.length = 6 from fun z hz => by simp at hz; subst hz; rfl)
        case zk =>
        refine Aw.em tab_ok mb0 [] rfl rfl ?zo ?zk
        case zo =>
          repeat' apply AllP.cons
          all_goals first | exact trivial | exact inrk k (by omega)
        case zk =>
        exact ⟨k + 1, hlt, by omega, ⟨.refl _, .refl _, .refl _, .refl _, .refl _, trivial⟩, ⟨.refl _, trivial⟩, ⟨rfl, rfl, rfl, by rw [hst]; rfl, trivial⟩, Nat.le_of_ble_eq_true rfl⟩
      | cons x t =>
        rw [hm] at hst htl
        have hz := repC_len s.wide (x :: t)
        have hzl : ((x :: t).map (repC s.wide)).length ≤ 24 := by rw [List.length_map]; exact htl
        refine Aw.ed tab_ok mixed mb0 [(1, []), (6, [.agg (placeP s.wide r.cell).c])] rfl (by kernel_rfl) rfl rfl ?zo ?zk
        case zo =>
          repeat' apply AllP.cons
          all_goals first | exact trivial | exact rfl | exact Nat.le_of_ble_eq_true rfl | exact plc_t s ho 1 r.cell (by omega) | exact hz | exact (show ∀ z ∈ [repC s.wide r], z.length = 6 from fun z hz => by simp at hz; subst hz; rfl) | exact (show (((x :: t).map (repC s.wide)).length + 1) * 48 ≤ 140737488355328 by omega) | exact (show ((x :: t).map (repC s.wide)).length + 1 ≤ maxLen by unfold maxLen; omega)
        case zk =>
        refine Aw.em tab_ok mb0 [] rfl rfl ?zo ?zk
        case zo =>
          repeat' apply AllP.cons
          all_goals first | exact trivial | exact inrk k (by omega)
        case zk =>
        exact ⟨k + 1, hlt, by omega, ⟨.refl _, .refl _, .refl _, .refl _, .refl _, trivial⟩, ⟨.refl _, trivial⟩, ⟨rfl, rfl, rfl, by rw [hst]; simp [repsK]; rfl, trivial⟩, Nat.le_of_ble_eq_true rfl⟩
    have hle : k = l.length := by have := of_decide_eq_false h1; omega
    subst hle
    rw [List.take_length]
    cases l with
    | nil =>
      refine Aw.sm tab_ok mb0 [] rfl rfl ?zo ?zk
      case zo =>
        repeat' apply AllP.cons
        all_goals first | exact trivial | exact rfl | exact Nat.le_of_ble_eq_true rfl
      case zk =>
      refine Aw.ret ⟨_, .cons (resC rfl rfl rfl rfl rfl) (.cons (.tmp _) .nil), rfl, ?_⟩
      exact ⟨rfl, trivial⟩
    | cons x t =>
      refine Aw.sm tab_ok mb0 [] rfl rfl ?zo ?zk
      case zo =>
        repeat' apply AllP.cons
        all_goals first | exact trivial | exact rfl | exact Nat.le_of_ble_eq_true rfl
      case zk =>
      refine Aw.ret ⟨_, .cons (resC rfl rfl rfl rfl rfl) (.cons (.tmp _) .nil), rfl, ?_⟩
      exact ⟨rfl, trivial⟩
  · rw [h.1]
    have e : A.Le (.sl l.isEmpty .any (l.map (repC s.wide))) (repsK s.wide l).down := by rw [repsK_down]; exact .any _ _ _
    exact A.Le.tupL (.cons (.agg (LeL.appL (LeL.refl _) (.cons e .nil))) (.cons (.refl _) .nil))
theorem read_n (s : Sea) (hf : SeaFit s) (b : Bool) (l : List Rep) (hok : s.ok = true) (hr : s.repsOk l = true) (nm : Nat) :
    NewMap Try.prog 47 [.agg s.c, .sl b .any (l.map Rep.c)] nm (.tup [.agg (logA s (.mp nm) l), .int 0]) (kvsOf (kvsTo (encM plE valB (landF s.wide s.land)))) := by
  rw [kvs_to]
  exact NewMap.ren (k := 1) (enters_of Try.func47 rfl rfl) (allC (.agg _ s.free) (all1 (free_map Rep.free _ _ _))) (fun p hp => encM_free valB_free _ p hp) (read_s s hf b l hok hr)
    (RenL.tup (.cons (RenL.agg (RenL.app (RenL.app (RenL.free s.free) (.cons .mp .nil)) (.cons (.free (free_map (repC_free _) _ _ _)) .nil))) (.cons (.free (.s _)) .nil))) fun u => rfl
def landH (s : Sea) : Hp := ofH [(20, landB s)]
theorem landH_lt (s : Sea) : ∀ id bx, landH s id = some bx → id < 21 := fun id bx h => by
  unfold landH at h
  by_cases e : id = 20
  · omega
  · have e1 : Nat.beq id 20 = false := beq_no e
    have e2 : Nat.beq 20 id = false := beq_no (Ne.symm e)
    simp [ofH, upd, updH, e1, e2] at h
theorem landH_at (s : Sea) : landH s 20 = some (landB s) := rfl
theorem sea_nms (s : Sea) : ∀ x ∈ seaA s (.mp 20), Nms (fun i => (landH s i).isSome = true) x := fun x hx => (List.mem_append.1 hx).elim (fun h => (s.free x h).nms) (all1 (.mp _ rfl) x)
theorem cells_s (s : Sea) : SCall Try.prog 59 [.agg (seaA s (.mp 20))] (landH s) 21 (fun v' H' _ => v' = .fn (.func 84) [] [.pt (seaA s (.mp 20))] ∧ ∀ id bx, landH s id = some bx → H' id = some bx) := by
  refine SCall.of_bodyN tab_ok Try.func59 rfl Try.ntmps59 (Nat.le_of_ble_eq_true rfl) (all1 fun _ => rfl) fun E hE => ?_
  refine Aw.sm tab_ok mb0 [] rfl rfl ?zo ?zk
  case zo =>
    repeat' apply AllP.cons
    all_goals first | exact trivial
  case zk =>
  refine Aw.sm tab_ok mb0 [] rfl rfl ?zo ?zk
  case zo =>
    repeat' apply AllP.cons
    all_goals first | exact trivial
  case zk =>
  exact Aw.ret ⟨_, .cons (.tmp _) .nil, rfl, fun id bx h => h⟩
theorem landH_nms (s : Sea) : ∀ id bx, landH s id = some bx → NmsB (fun i => (landH s i).isSome = true) bx := fun id bx h => by
  have e : id = 20 := by
    rcases Nat.lt_or_ge id 20 with h1 | h1
    · have e1 : Nat.beq id 20 = false := beq_no (by omega)
      have e2 : Nat.beq 20 id = false := beq_no (by omega)
      simp [landH, ofH, upd, updH, e1, e2] at h
    · have := landH_lt s id bx h; omega
  subst e
  rw [landH_at] at h
  cases h
  exact .map _ fun p hp => ⟨(encM_free valB_free _ p hp).1.nms, (encM_free valB_free _ p hp).2.nms⟩
theorem cells_r (s : Sea) : RCall Try.prog 59 [.agg (seaA s (.mp 20))] (landH s) (.fn (.func 84) [] [.pt (seaA s (.mp 20))]) :=
  RCall.of (enters_of Try.func59 rfl rfl) (landH_lt s) (landH_nms s) (all1 (.agg _ (sea_nms s))) (.fn _ _ _ (fun _ h => nomatch h) (all1 (.pt _ (sea_nms s)))) (fun _ => rfl) (cells_s s)
theorem at20 {s : Sea} {g : FuncId} {args : List A} {v : A} (h : RCall Try.prog g args (landH s) v) {H : Hp} (hH : H 20 = some (landB s)) : RCall Try.prog g args (onlyL H (idsOf [.mp 20])) v :=
  h.le rfl (fun _ _ => .refl _) fun id bx hb => by
    have e : id = 20 := by
      rcases Nat.lt_or_ge id 20 with h1 | h1
      · have e1 : Nat.beq id 20 = false := beq_no (by omega)
        simp [landH, ofH, updH, e1] at hb
      · have := landH_lt s id bx hb; omega
    subst e
    rw [landH_at] at hb
    cases hb
    exact hH
end Go.Proofs.Ytohbjneaaahpcaa

namespace Go.Proofs.Ytohbjneaaahpcaa
open Go Go.AL Go.AL.Q Go.AL.Sh
def watP (s : Sea) (k : Nat) : Bool := !isLand s.wide s.land (placeP s.wide k)
def cellsL (s : Sea) : List Nat := (List.range s.many.toNat).filter (watP s)
theorem lk_land (s : Sea) (p : Sp) : LkIs Try.prog tab 85 4 (encM plE valB (landF s.wide s.land)) (keyA plE p) (.bool (isLand s.wide s.land p)) (mget (landF s.wide s.land) p).isSome :=
  kty.lk valB _ p (by rw [land_get]; cases isLand s.wide s.land p <;> rfl) rfl
theorem updH_back {H : Hp} {i : Nat} {b : B} (h : H i = some b) : H = updH H i (some b) := by
  funext j
  by_cases e : j = i
  · subst e; rw [h, updH_same]
  · have e1 : Nat.beq j i = false := beq_no e
    have e2 : Nat.beq i j = false := beq_no (Ne.symm e)
    simp [updH, e1]
theorem cells1_t (s : Sea) (ho : s.Ok) {c id : Nat} {S : Slots} {nt : Nat} {ps : Array Tmp} {asg body : Code} {I : Nat → Hp → Prop} {D : Hp → Prop} (it : Iter Try.prog c id S nt ps asg body ((cellsL s).map fun k : Nat => [A.int k]) I D) (hid : id < c) (h20 : 20 < c)
    (hI0 : ∀ k H, I k H → H 20 = some (landB s)) {H : Hp} (hI : I 0 H) : SCall Try.prog 84 [.yl id, .pt (seaA s (.mp 20))] H c fun v H' c' => c ≤ c' ∧ (Sub H' (I (cellsL s).length) ∨ Sub H' D) := by
  have hm := ho.many
  have usa : Under c (A.pt (seaA s (.mp 20))) := .pt _ (sea_under s h20)
  have uyl : Under c (A.yl id) := .yl _ hid
  have hcnt : cntP (watP s) s.many.toNat = (cellsL s).length := rfl
  refine SCall.of_bodyN tab_ok Try.func84 rfl Try.ntmps84 (Nat.le_of_ble_eq_true rfl) (allC (fun _ => rfl) (all1 fun _ => rfl)) fun E hE => ?_
  refine Aw.scope ?_
  refine Aw.seq (Aw.label ?_)
  refine Aw.sm tab_ok mb0 [(1, [.int s.many])] rfl rfl ?zo ?zk
  case zo =>
    repeat' apply AllP.cons
    all_goals first | exact trivial | exact Nat.le_of_ble_eq_true rfl | exact many_t s ho 20
  case zk =>
  refine Aw.block (Aw.roundsH c hE [(0, .yl id), (1, .pt (seaA s (.mp 20))), (5, .int s.many)] (fun k : Nat => [(6, .int k)]) (fun k H => k ≤ s.many.toNat ∧ I (cntP (watP s) k) H) (fun k => s.many.toNat - k) 0
    ⟨⟨.refl _, .refl _, .refl _, trivial⟩, ⟨.refl _, trivial⟩, .self (H := H) ⟨Nat.zero_le _, hI⟩, Nat.le_refl _⟩ ⟨uyl, usa, .s _, trivial⟩ (fun _ => ⟨.s _, trivial⟩) (fun k H h => it.low _ H h.2) fun k H hJ => ?_)
  obtain ⟨hk, hJ⟩ := hJ
  have hlow := it.low _ H hJ
  have hH := updH_back (hI0 _ _ hJ)
  refine Aw.sm tab_ok mb0 [] rfl rfl ?zo ?zk
  case zo =>
    repeat' apply AllP.cons
    all_goals first | exact trivial
  case zk =>
  refine Aw.seq (Aw.cond rfl (fun h1 => Aw.skip1 ?_) (fun h1 => Aw.exit2 ?_))
  · have hlt : k < s.many.toNat := by have := of_decide_eq_true h1; omega
    refine Aw.seq (Aw.block ?_)
    refine Aw.sm tab_ok mb0 [] rfl rfl ?zo ?zk
    case zo =>
      repeat' apply AllP.cons
      all_goals first | exact trivial
    case zk =>
    rw [hH]
    refine Aw.seq ?_
    refine Aw.sd tab_ok mixed mb0 [(4, [.agg (placeP s.wide k).c]), (5, [.bool (isLand s.wide s.land (placeP s.wide k)), .bool (mget (landF s.wide s.land) (placeP s.wide k)).isSome])] rfl (by kernel_rfl) rfl rfl ?zo ?zk
    case zo =>
      repeat' apply AllP.cons
      all_goals first | exact trivial | exact Nat.le_of_ble_eq_true rfl | exact plc_t s ho 20 k (by omega) | exact lk_land s _
    case zk =>
    rw [← hH]
    refine Aw.cond rfl (fun h2 => Aw.exit (thenE (blkE ?_))) (fun h2 => Aw.skip ?_)
    · have hw : watP s k = false := by unfold watP; rw [show isLand s.wide s.land (placeP s.wide k) = true from h2]; rfl
      refine Aw.em tab_ok mb0 [] rfl rfl ?zo ?zk
      case zo =>
        repeat' apply AllP.cons
        all_goals first | exact trivial | exact (by simp only [Ob.of, inR]; omega)
      case zk =>
      refine ⟨k + 1, by omega, ⟨.refl _, .refl _, .refl _, trivial⟩, ⟨.refl _, trivial⟩, .self (H := H) ⟨hlt, ?_⟩, Nat.le_add_right _ _⟩
      rw [cntP_succ, hw]; exact hJ
    · have hw : watP s k = true := by unfold watP; rw [show isLand s.wide s.land (placeP s.wide k) = false from h2]; rfl
      refine Aw.keepH (n := c) (cst := [(0, .yl id), (1, .pt (seaA s (.mp 20))), (5, .int s.many)]) (v := [(3, .int k), (6, .int k)]) (J := fun H' => H = H') hE
        ⟨uyl, usa, .s _, trivial⟩ ⟨.s _, .s _, trivial⟩ (fun _ e => e ▸ hlow)
        ⟨⟨.refl _, .refl _, .refl _, trivial⟩, ⟨.refl _, .refl _, trivial⟩, ⟨H, rfl, fun _ _ h => h⟩, Nat.le_add_right _ _⟩ ?_
      rintro _ rfl
      refine Aw.ss rfl ?_
      refine RegL.partE tab_ok mb0 true 2 0 [] ?_
      conv => arg 5; whnf
      refine PartK.mk ?zo ?zk
      case zo =>
        repeat' apply AllP.cons
        all_goals first | exact trivial
      case zk =>
      refine Does.raw rfl (Iter.yield it rfl (k := cntP (watP s) k) rfl rfl rfl ?_ hJ ?_)
      · show ((cellsL s).map fun k : Nat => [A.int k])[cntP (watP s) k]? = some [A.int k]
        rw [List.getElem?_map, show (cellsL s)[cntP (watP s) k]? = some k from filter_get hlt hw]; rfl
      · rintro v H' c' ⟨hc', hv⟩
        have ecnt : cntP (watP s) (k + 1) = cntP (watP s) k + 1 := by rw [cntP_succ, hw]; rfl
        rcases hv with ⟨rfl, hs⟩ | ⟨rfl, hs⟩
        · refine RegL.partE tab_ok mb0 true 1 3 [] ?_
          conv => arg 5; whnf
          refine PartK.mk ?zo ?zk
          case zo =>
            repeat' apply AllP.cons
            all_goals first | exact trivial
          case zk =>
          refine Aw.cond rfl (fun h3 => by cases h3) (fun h3 => Aw.skip ?_)
          refine Aw.em tab_ok mb0 [] rfl rfl ?zo ?zk
          case zo =>
            repeat' apply AllP.cons
            all_goals first | exact trivial | exact (by simp only [Ob.of, inR]; omega)
          case zk =>
          obtain ⟨H2, hI2, hs2⟩ := hs
          exact ⟨k + 1, by omega, ⟨.refl _, .refl _, .refl _, trivial⟩, ⟨.refl _, trivial⟩, ⟨H2, ⟨hlt, by rw [ecnt]; exact hI2⟩, hs2⟩, hc'⟩
        · refine RegL.partE tab_ok mb0 true 1 3 [] ?_
          conv => arg 5; whnf
          refine PartK.mk ?zo ?zk
          case zo =>
            repeat' apply AllP.cons
            all_goals first | exact trivial
          case zk =>
          refine Aw.cond rfl (fun h3 => Aw.ret ?_) (fun h3 => by cases h3)
          exact ⟨[], .nil, hc', .inr hs⟩
  · have hend : k = s.many.toNat := by have := of_decide_eq_false h1; omega
    subst hend
    refine ⟨[], .nil, Nat.le_refl _, .inl ⟨H, ?_, fun _ _ h => h⟩⟩
    rw [← hcnt]; exact hJ
end Go.Proofs.Ytohbjneaaahpcaa

namespace Go.Proofs.Ytohbjneaaahpcaa
open Go Go.AL Go.AL.Q Go.AL.Sh
theorem placeP_bd {w cell : Int} (hw : 1 ≤ w ∧ w ≤ 10) (hc : -1000 ≤ cell ∧ cell ≤ 1000) : (-1000 ≤ (placeP w cell).lo ∧ (placeP w cell).lo ≤ 1000) ∧ -1000 ≤ (placeP w cell).hi ∧ (placeP w cell).hi ≤ 1000 := by
  have h1 : (cell.tmod w).natAbs < w.natAbs := by rw [Int.natAbs_tmod]; exact Nat.mod_lt _ (by omega)
  have h2 : (cell.tdiv w).natAbs ≤ cell.natAbs := by rw [Int.natAbs_tdiv]; exact Nat.div_le_self _ _
  show (-1000 ≤ cell.tmod w ∧ cell.tmod w ≤ 1000) ∧ -1000 ≤ cell.tdiv w ∧ cell.tdiv w ≤ 1000
  omega
def goL (s : Sea) (p : Nat → Bool) (j : Nat) : List Int := (((cellsL s).take j).filter p).map Int.ofNat
theorem goL_succ (s : Sea) (p : Nat → Bool) {j k : Nat} (h : (cellsL s)[j]? = some k) : goL s p (j + 1) = if p k then goL s p j ++ [(k : Int)] else goL s p j := by
  obtain ⟨hj, e⟩ := List.getElem?_eq_some_iff.1 h
  unfold goL
  rw [List.take_succ_eq_append_getElem hj, List.filter_append, List.map_append, e]
  cases hp : p k <;> simp [List.filter_cons, hp]
theorem cellsL_len (s : Sea) (ho : s.Ok) : (cellsL s).length ≤ 80 := by
  have := ho.many
  have h2 := List.length_filter_le (watP s) (List.range s.many.toNat)
  rw [List.length_range] at h2
  unfold cellsL; omega
theorem goL_len (s : Sea) (p : Nat → Bool) (j : Nat) : (goL s p j).length ≤ (cellsL s).length := by
  unfold goL
  rw [List.length_map]
  exact Nat.le_trans (List.length_filter_le _ _) (by rw [List.length_take]; omega)
theorem cellsL_in (s : Sea) (ho : s.Ok) {j k : Nat} (h : (cellsL s)[j]? = some k) : (k : Int) < s.many ∧ (k : Int) < 80 := by
  have := ho.many
  have := List.mem_range.1 (List.mem_filter.1 (List.mem_of_getElem? h)).1
  omega
def goH (s : Sea) (G : List Int) : List (Nat × B) := [(20, landB s), (21, .cells [grL 3 G])]
theorem goH_under (s : Sea) (G : List Int) : UnderH 22 (goH s G) := ⟨⟨by decide, map_under _⟩, ⟨by decide, .cells _ (all1 (grL_under _))⟩, trivial⟩
theorem logA_under (s : Sea) {n i : Nat} (h : i < n) (l : List Rep) : ∀ x ∈ logA s (.mp i) l, Under n x := fun x hx => (List.mem_append.1 hx).elim (sea_under s h x) (all1 (free_map (repC_free _) _ _ _).under x)
theorem back_s (s : Sea) (ho : s.Ok) (l : List Rep) (hour cell : Int) (h0 : 0 ≤ hour) (h1 : hour < s.drift.length) (hc : 0 ≤ cell ∧ cell ≤ 1000) :
    SCall Try.prog 87 [.int hour, .int cell, .pt (logA s (.mp 20) l)] (landH s) 21 (fun v' H' _ => v' = outA (goL s (fun k => s.steps hour (placeP s.wide cell) (placeP s.wide k)) (cellsL s).length) ∧ ∀ id bx, landH s id = some bx → H' id = some bx) := by
  have hm := ho.many
  have hdl := ho.dl
  have hlen : ∀ z ∈ (cellsL s).map fun k : Nat => [A.int k], z.length = 1 := fun z h => by obtain ⟨p, _, rfl⟩ := List.mem_map.1 h; rfl
  have hlm : ((cellsL s).map fun k : Nat => [A.int k]).length = (cellsL s).length := List.length_map _
  have hcl := cellsL_len s ho
  have bq := placeP_bd ho.w (show -1000 ≤ cell ∧ cell ≤ 1000 by omega)
  refine SCall.drop (post := fun v' H' _ => v' = outA (goL s (fun k => s.steps hour (placeP s.wide cell) (placeP s.wide k)) (cellsL s).length) ∧ HasH H' [(20, landB s)]) (SCall.of_bodyN tab_ok Try.func87 rfl Try.ntmps87 (Nat.le_of_ble_eq_true rfl) (allC (fun _ => rfl) (allC (fun _ => rfl) (all1 fun _ => rfl))) fun E hE => ?_)
    (fun v H' c' h => ⟨_, h.2.ofH, h.1, fun id bx h => h⟩)
  have h22 : ∀ id, 22 ≤ id → E.φ0 id = none := fun id h => hE id (by omega)
  have ulog : Under 22 (A.pt (logA s (.mp 20) l)) := .pt _ (logA_under s (by decide) l)
  have usa : Under 22 (A.pt (seaA s (.mp 20))) := .pt _ (sea_under s (by decide))
  have ufn : Under 22 (A.fn (.func 84) [] [.pt (seaA s (.mp 20))]) := .fn _ _ _ (fun _ h => nomatch h) (all1 usa)
  have uh : Under 22 (A.pt [A.int hour]) := .pt _ (all1 (.s _))
  have uc : Under 22 (A.pt [A.int cell]) := .pt _ (all1 (.s _))
  have ucst : UnderL 22 [(2, .pt (logA s (.mp 20) l)), (3, .pt [.int hour]), (4, .pt [.int cell]), (6, .ref 21 0)] := ⟨ulog, uh, uc, .ref _ _ (by decide), trivial⟩
  refine Aw.sm tab_ok mb0 [] rfl rfl ?zo ?zk
  case zo =>
    repeat' apply AllP.cons
    all_goals first | exact trivial
  case zk =>
  refine Aw.sm tab_ok mb0 [] rfl rfl ?zo ?zk
  case zo =>
    repeat' apply AllP.cons
    all_goals first | exact trivial
  case zk =>
  refine Aw.seq ?_
  refine Aw.sm tab_ok mb0 [(2, [.fn (.func 84) [] [.pt (seaA s (.mp 20))], .tup [.mp 20]])] rfl rfl ?zo ?zk
  case zo =>
    repeat' apply AllP.cons
    all_goals first | exact trivial | exact Nat.le_of_ble_eq_true rfl | exact at20 (cells_r s) rfl
  case zk =>
  refine Aw.keep (n := 22) (cst := [(2, .pt (logA s (.mp 20) l)), (3, .pt [.int hour]), (4, .pt [.int cell]), (6, .ref 21 0)]) (v := [(10, .fn (.func 84) [] [.pt (seaA s (.mp 20))])]) (Hl := goH s (goL s (fun k => s.steps hour (placeP s.wide cell) (placeP s.wide k)) 0)) h22 ⟨ulog, uh, uc, .ref _ _ (by decide), trivial⟩ ⟨ufn, trivial⟩ (goH_under s _)
    ⟨⟨.refl _, .refl _, .refl _, .refl _, trivial⟩, ⟨.refl _, trivial⟩, ⟨rfl, rfl, trivial⟩, Nat.le_of_ble_eq_true rfl⟩ ?_
  refine Aw.block (Aw.iterM rfl (enters_of Try.func84 rfl rfl) ((cellsL s).map fun k : Nat => [A.int k]) (fun j H => H = ofH (goH s (goL s (fun k => s.steps hour (placeP s.wide cell) (placeP s.wide k)) j))) (fun _ _ => False) rfl hlen
    (ofL2_under (UnderL.app (l := [(10, .fn (.func 84) [] [.pt (seaA s (.mp 20))])]) ⟨ufn, trivial⟩ ucst))
    (by rintro j H rfl; exact UnderH.ofH (goH_under s _)) (fun _ _ h => h.elim)
    (fun it hIJ H hI => by rw [hlm]; exact cells1_t s ho it (Nat.lt_succ_self _) (Nat.le_of_ble_eq_true rfl) (fun k H h => by obtain ⟨H0, rfl, h2⟩ := hIJ k H h; rw [h2 20 (Nat.ne_of_beq_eq_false rfl)]; rfl) hI) rfl ?_ ?_ (fun _ _ _ _ ⟨_, h, _⟩ => h.elim))
  · intro lpB ulp j as' ha H hI E2 b2 hE2
    subst hI
    obtain ⟨p, hp, rfl⟩ : ∃ p, (cellsL s)[j]? = some p ∧ [A.int (p : Nat)] = as' := by
      rw [List.getElem?_map] at ha
      cases e : (cellsL s)[j]? with
      | none => rw [e] at ha; cases ha
      | some p => rw [e] at ha; exact ⟨p, rfl, by simpa using ha⟩
    have hgo := goL_succ s (fun k => s.steps hour (placeP s.wide cell) (placeP s.wide k)) hp
    have hgl := goL_len s (fun k => s.steps hour (placeP s.wide cell) (placeP s.wide k)) j
    have hpc := cellsL_in s ho hp
    have bp := placeP_bd ho.w (show -1000 ≤ (p : Int) ∧ (p : Int) ≤ 1000 by omega)
    refine Aw.em tab_ok mb0 [] rfl rfl ?zo ?zk
    case zo =>
      repeat' apply AllP.cons
      all_goals first | exact trivial
    case zk =>
    refine ⟨rfl, rfl, ?_⟩
    refine Aw.block ?_
    refine Aw.sd tab_ok mixed mb0 [(6, [.agg (placeP s.wide cell).c]), (10, [.agg (placeP s.wide p).c]), (11, [.bool (s.steps hour (placeP s.wide cell) (placeP s.wide p))])] rfl (by kernel_rfl) rfl rfl ?zo ?zk
    case zo =>
      repeat' apply AllP.cons
      all_goals first | exact trivial | exact Nat.le_of_ble_eq_true rfl | exact plc_t s ho 20 cell (by omega) | exact plc_t s ho 20 p (by omega) | exact steps_t s ho 20 hour h0 h1 _ _ bq.1 bq.2 (placeP_near ho.w (by omega))
    case zk =>
    generalize goL s (fun k => s.steps hour (placeP s.wide cell) (placeP s.wide k)) j = G at *
    generalize goL s (fun k => s.steps hour (placeP s.wide cell) (placeP s.wide k)) (j + 1) = G' at *
    refine Aw.cond rfl (fun h2 => ?_) (fun h2 => Aw.skip ?_)
    · rw [if_pos h2] at hgo
      subst hgo
      cases G with
      | nil =>
        refine Aw.em tab_ok mb0 [] rfl rfl ?zo ?zk
        case zo =>
          repeat' apply AllP.cons
          all_goals first | exact trivial | exact rfl | exact Nat.le_of_ble_eq_true rfl | exact (show ∀ z ∈ [] ++ [[A.int _]], z.length = 1 from fun z hz => by simp at hz; subst hz; rfl)
        case zk =>
        exact ⟨⟨_, _, rfl⟩, Nat.le_of_ble_eq_true rfl, _, rfl, HasH.ofH (l := goH s [(p : Int)]) ⟨rfl, rfl, trivial⟩⟩
      | cons x t =>
        have hlen2 : (ints (x :: t)).length ≤ 1000 := by simp only [ints, List.length_map]; omega
        have hz : ∀ z ∈ ints (x :: t), z.length = 1 := fun z hz => by obtain ⟨i, _, rfl⟩ := List.mem_map.1 hz; rfl
        refine Aw.em tab_ok mb0 [] rfl rfl ?zo ?zk
        case zo =>
          repeat' apply AllP.cons
          all_goals first | exact trivial | exact rfl | exact Nat.le_of_ble_eq_true rfl | exact (show ∀ z ∈ [[A.int _]], z.length = 1 from fun z hz => by simp at hz; subst hz; rfl) | exact hz | exact (show ((ints (x :: t)).length + 1) * 8 ≤ 140737488355328 by omega) | exact (show (ints (x :: t)).length + 1 ≤ maxLen by unfold maxLen; omega)
        case zk =>
        exact ⟨⟨_, _, rfl⟩, Nat.le_of_ble_eq_true rfl, _, rfl, HasH.ofH (l := goH s ((x :: t) ++ [(p : Int)])) ⟨rfl, by simp [grL, ints]; rfl, trivial⟩⟩
    · rw [if_neg (ne_true_of_eq_false h2)] at hgo
      subst hgo
      exact ⟨⟨_, _, rfl⟩, Nat.le_of_ble_eq_true rfl, _, rfl, HasH.ofH (l := goH s G') ⟨rfl, rfl, trivial⟩⟩
  · rintro H c' hc' ⟨H0, rfl, hs⟩
    rw [hlm] at hs
    have hH := hasH_of_sub (l := goH s (goL s (fun k => s.steps hour (placeP s.wide cell) (placeP s.wide k)) (cellsL s).length)) rfl hs
    refine Aw.keep (n := 22) (cst := [(6, .ref 21 0)]) (v := []) (Hl := goH s (goL s (fun k => s.steps hour (placeP s.wide cell) (placeP s.wide k)) (cellsL s).length)) h22 ⟨.ref _ _ (by decide), trivial⟩ trivial (goH_under s _)
      ⟨⟨.refl _, trivial⟩, trivial, hH, hc'⟩ ?_
    generalize goL s (fun k => s.steps hour (placeP s.wide cell) (placeP s.wide k)) (cellsL s).length = G at *
    cases G with
    | nil =>
      refine Aw.sm tab_ok mb0 [] rfl rfl ?zo ?zk
      case zo =>
        repeat' apply AllP.cons
        all_goals first | exact trivial | exact Nat.le_of_ble_eq_true rfl
      case zk =>
      exact Aw.ret ⟨_, .cons (.tmp _) .nil, rfl, ⟨rfl, trivial⟩⟩
    | cons x t =>
      refine Aw.sm tab_ok mb0 [] rfl rfl ?zo ?zk
      case zo =>
        repeat' apply AllP.cons
        all_goals first | exact trivial | exact Nat.le_of_ble_eq_true rfl
      case zk =>
      exact Aw.ret ⟨_, .cons (.tmp _) .nil, rfl, ⟨rfl, trivial⟩⟩
theorem forth_s (s : Sea) (ho : s.Ok) (l : List Rep) (hour cell : Int) (h0 : 0 ≤ hour - 1) (h1 : hour - 1 < s.drift.length) (hc : 0 ≤ cell ∧ cell ≤ 1000) :
    SCall Try.prog 86 [.int hour, .int cell, .pt (logA s (.mp 20) l)] (landH s) 21 (fun v' H' _ => v' = outA (goL s (fun k => s.steps (hour - 1) (placeP s.wide k) (placeP s.wide cell)) (cellsL s).length) ∧ ∀ id bx, landH s id = some bx → H' id = some bx) := by
  have hm := ho.many
  have hdl := ho.dl
  have hlen : ∀ z ∈ (cellsL s).map fun k : Nat => [A.int k], z.length = 1 := fun z h => by obtain ⟨p, _, rfl⟩ := List.mem_map.1 h; rfl
  have hlm : ((cellsL s).map fun k : Nat => [A.int k]).length = (cellsL s).length := List.length_map _
  have hcl := cellsL_len s ho
  have bq := placeP_bd ho.w (show -1000 ≤ cell ∧ cell ≤ 1000 by omega)
  refine SCall.drop (post := fun v' H' _ => v' = outA (goL s (fun k => s.steps (hour - 1) (placeP s.wide k) (placeP s.wide cell)) (cellsL s).length) ∧ HasH H' [(20, landB s)]) (SCall.of_bodyN tab_ok Try.func86 rfl Try.ntmps86 (Nat.le_of_ble_eq_true rfl) (allC (fun _ => rfl) (allC (fun _ => rfl) (all1 fun _ => rfl))) fun E hE => ?_)
    (fun v H' c' h => ⟨_, h.2.ofH, h.1, fun id bx h => h⟩)
  have h22 : ∀ id, 22 ≤ id → E.φ0 id = none := fun id h => hE id (by omega)
  have ulog : Under 22 (A.pt (logA s (.mp 20) l)) := .pt _ (logA_under s (by decide) l)
  have usa : Under 22 (A.pt (seaA s (.mp 20))) := .pt _ (sea_under s (by decide))
  have ufn : Under 22 (A.fn (.func 84) [] [.pt (seaA s (.mp 20))]) := .fn _ _ _ (fun _ h => nomatch h) (all1 usa)
  have uh : Under 22 (A.pt [A.int hour]) := .pt _ (all1 (.s _))
  have uc : Under 22 (A.pt [A.int cell]) := .pt _ (all1 (.s _))
  have ucst : UnderL 22 [(2, .pt (logA s (.mp 20) l)), (3, .pt [.int hour]), (4, .pt [.int cell]), (6, .ref 21 0)] := ⟨ulog, uh, uc, .ref _ _ (by decide), trivial⟩
  refine Aw.sm tab_ok mb0 [] rfl rfl ?zo ?zk
  case zo =>
    repeat' apply AllP.cons
    all_goals first | exact trivial
  case zk =>
  refine Aw.sm tab_ok mb0 [] rfl rfl ?zo ?zk
  case zo =>
    repeat' apply AllP.cons
    all_goals first | exact trivial
  case zk =>
  refine Aw.seq ?_
  refine Aw.sm tab_ok mb0 [(2, [.fn (.func 84) [] [.pt (seaA s (.mp 20))], .tup [.mp 20]])] rfl rfl ?zo ?zk
  case zo =>
    repeat' apply AllP.cons
    all_goals first | exact trivial | exact Nat.le_of_ble_eq_true rfl | exact at20 (cells_r s) rfl
  case zk =>
  refine Aw.keep (n := 22) (cst := [(2, .pt (logA s (.mp 20) l)), (3, .pt [.int hour]), (4, .pt [.int cell]), (6, .ref 21 0)]) (v := [(10, .fn (.func 84) [] [.pt (seaA s (.mp 20))])]) (Hl := goH s (goL s (fun k => s.steps (hour - 1) (placeP s.wide k) (placeP s.wide cell)) 0)) h22 ⟨ulog, uh, uc, .ref _ _ (by decide), trivial⟩ ⟨ufn, trivial⟩ (goH_under s _)
    ⟨⟨.refl _, .refl _, .refl _, .refl _, trivial⟩, ⟨.refl _, trivial⟩, ⟨rfl, rfl, trivial⟩, Nat.le_of_ble_eq_true rfl⟩ ?_
  refine Aw.block (Aw.iterM rfl (enters_of Try.func84 rfl rfl) ((cellsL s).map fun k : Nat => [A.int k]) (fun j H => H = ofH (goH s (goL s (fun k => s.steps (hour - 1) (placeP s.wide k) (placeP s.wide cell)) j))) (fun _ _ => False) rfl hlen
    (ofL2_under (UnderL.app (l := [(10, .fn (.func 84) [] [.pt (seaA s (.mp 20))])]) ⟨ufn, trivial⟩ ucst))
    (by rintro j H rfl; exact UnderH.ofH (goH_under s _)) (fun _ _ h => h.elim)
    (fun it hIJ H hI => by rw [hlm]; exact cells1_t s ho it (Nat.lt_succ_self _) (Nat.le_of_ble_eq_true rfl) (fun k H h => by obtain ⟨H0, rfl, h2⟩ := hIJ k H h; rw [h2 20 (Nat.ne_of_beq_eq_false rfl)]; rfl) hI) rfl ?_ ?_ (fun _ _ _ _ ⟨_, h, _⟩ => h.elim))
  · intro lpB ulp j as' ha H hI E2 b2 hE2
    subst hI
    obtain ⟨p, hp, rfl⟩ : ∃ p, (cellsL s)[j]? = some p ∧ [A.int (p : Nat)] = as' := by
      rw [List.getElem?_map] at ha
      cases e : (cellsL s)[j]? with
      | none => rw [e] at ha; cases ha
      | some p => rw [e] at ha; exact ⟨p, rfl, by simpa using ha⟩
    have hgo := goL_succ s (fun k => s.steps (hour - 1) (placeP s.wide k) (placeP s.wide cell)) hp
    have hgl := goL_len s (fun k => s.steps (hour - 1) (placeP s.wide k) (placeP s.wide cell)) j
    have hpc := cellsL_in s ho hp
    have bp := placeP_bd ho.w (show -1000 ≤ (p : Int) ∧ (p : Int) ≤ 1000 by omega)
    refine Aw.em tab_ok mb0 [] rfl rfl ?zo ?zk
    case zo =>
      repeat' apply AllP.cons
      all_goals first | exact trivial
    case zk =>
    refine ⟨rfl, rfl, ?_⟩
    refine Aw.block ?_
    refine Aw.sd tab_ok mixed mb0 [(7, [.agg (placeP s.wide p).c]), (11, [.agg (placeP s.wide cell).c]), (12, [.bool (s.steps (hour - 1) (placeP s.wide p) (placeP s.wide cell))])] rfl (by kernel_rfl) rfl rfl ?zo ?zk
    case zo =>
      repeat' apply AllP.cons
      all_goals first | exact trivial | exact Nat.le_of_ble_eq_true rfl | exact plc_t s ho 20 p (by omega) | exact plc_t s ho 20 cell (by omega) | exact steps_t s ho 20 (hour - 1) h0 h1 _ _ bp.1 bp.2 (placeP_near ho.w (by omega)) | exact (by have := ho.hr; simp only [Ob.of, inR]; omega)
    case zk =>
    generalize goL s (fun k => s.steps (hour - 1) (placeP s.wide k) (placeP s.wide cell)) j = G at *
    generalize goL s (fun k => s.steps (hour - 1) (placeP s.wide k) (placeP s.wide cell)) (j + 1) = G' at *
    refine Aw.cond rfl (fun h2 => ?_) (fun h2 => Aw.skip ?_)
    · rw [if_pos h2] at hgo
      subst hgo
      cases G with
      | nil =>
        refine Aw.em tab_ok mb0 [] rfl rfl ?zo ?zk
        case zo =>
          repeat' apply AllP.cons
          all_goals first | exact trivial | exact rfl | exact Nat.le_of_ble_eq_true rfl | exact (show ∀ z ∈ [] ++ [[A.int _]], z.length = 1 from fun z hz => by simp at hz; subst hz; rfl)
        case zk =>
        exact ⟨⟨_, _, rfl⟩, Nat.le_of_ble_eq_true rfl, _, rfl, HasH.ofH (l := goH s [(p : Int)]) ⟨rfl, rfl, trivial⟩⟩
      | cons x t =>
        have hlen2 : (ints (x :: t)).length ≤ 1000 := by simp only [ints, List.length_map]; omega
        have hz : ∀ z ∈ ints (x :: t), z.length = 1 := fun z hz => by obtain ⟨i, _, rfl⟩ := List.mem_map.1 hz; rfl
        refine Aw.em tab_ok mb0 [] rfl rfl ?zo ?zk
        case zo =>
          repeat' apply AllP.cons
          all_goals first | exact trivial | exact rfl | exact Nat.le_of_ble_eq_true rfl | exact (show ∀ z ∈ [[A.int _]], z.length = 1 from fun z hz => by simp at hz; subst hz; rfl) | exact hz | exact (show ((ints (x :: t)).length + 1) * 8 ≤ 140737488355328 by omega) | exact (show (ints (x :: t)).length + 1 ≤ maxLen by unfold maxLen; omega)
        case zk =>
        exact ⟨⟨_, _, rfl⟩, Nat.le_of_ble_eq_true rfl, _, rfl, HasH.ofH (l := goH s ((x :: t) ++ [(p : Int)])) ⟨rfl, by simp [grL, ints]; rfl, trivial⟩⟩
    · rw [if_neg (ne_true_of_eq_false h2)] at hgo
      subst hgo
      exact ⟨⟨_, _, rfl⟩, Nat.le_of_ble_eq_true rfl, _, rfl, HasH.ofH (l := goH s G') ⟨rfl, rfl, trivial⟩⟩
  · rintro H c' hc' ⟨H0, rfl, hs⟩
    rw [hlm] at hs
    have hH := hasH_of_sub (l := goH s (goL s (fun k => s.steps (hour - 1) (placeP s.wide k) (placeP s.wide cell)) (cellsL s).length)) rfl hs
    refine Aw.keep (n := 22) (cst := [(6, .ref 21 0)]) (v := []) (Hl := goH s (goL s (fun k => s.steps (hour - 1) (placeP s.wide k) (placeP s.wide cell)) (cellsL s).length)) h22 ⟨.ref _ _ (by decide), trivial⟩ trivial (goH_under s _)
      ⟨⟨.refl _, trivial⟩, trivial, hH, hc'⟩ ?_
    generalize goL s (fun k => s.steps (hour - 1) (placeP s.wide k) (placeP s.wide cell)) (cellsL s).length = G at *
    cases G with
    | nil =>
      refine Aw.sm tab_ok mb0 [] rfl rfl ?zo ?zk
      case zo =>
        repeat' apply AllP.cons
        all_goals first | exact trivial | exact Nat.le_of_ble_eq_true rfl
      case zk =>
      exact Aw.ret ⟨_, .cons (.tmp _) .nil, rfl, ⟨rfl, trivial⟩⟩
    | cons x t =>
      refine Aw.sm tab_ok mb0 [] rfl rfl ?zo ?zk
      case zo =>
        repeat' apply AllP.cons
        all_goals first | exact trivial | exact Nat.le_of_ble_eq_true rfl
      case zk =>
      exact Aw.ret ⟨_, .cons (.tmp _) .nil, rfl, ⟨rfl, trivial⟩⟩
end Go.Proofs.Ytohbjneaaahpcaa

namespace Go.Proofs.Ytohbjneaaahpcaa
open Go Go.AL Go.AL.Q Go.AL.Sh
theorem log_nms (s : Sea) (l : List Rep) : ∀ x ∈ logA s (.mp 20) l, Nms (fun i => (landH s i).isSome = true) x := fun x hx => (List.mem_append.1 hx).elim (sea_nms s x) (all1 (free_map (repC_free _) _ _ _).nms x)
def forthA (s : Sea) (l : List Rep) : A := .agg [.fn (.func 86) [] [.pt (logA s (.mp 20) l)]]
def backA (s : Sea) (l : List Rep) : A := .agg [.fn (.func 87) [] [.pt (logA s (.mp 20) l)]]
theorem forthA_nms (s : Sea) (l : List Rep) : Nms (fun i => (landH s i).isSome = true) (forthA s l) := .agg _ (all1 (.fn _ _ _ (fun _ h => nomatch h) (all1 (.pt _ (log_nms s l)))))
theorem backA_nms (s : Sea) (l : List Rep) : Nms (fun i => (landH s i).isSome = true) (backA s l) := .agg _ (all1 (.fn _ _ _ (fun _ h => nomatch h) (all1 (.pt _ (log_nms s l)))))
theorem forth_w (s : Sea) (l : List Rep) : SCall Try.prog 81 [.agg (logA s (.mp 20) l)] (landH s) 21 (fun v' H' _ => v' = forthA s l ∧ ∀ id bx, landH s id = some bx → H' id = some bx) := by
  refine SCall.drop (post := fun v' H' _ => v' = forthA s l ∧ HasH H' [(20, landB s)]) (SCall.of_bodyN tab_ok Try.func81 rfl Try.ntmps81 (Nat.le_of_ble_eq_true rfl) (all1 fun _ => rfl) fun E hE => ?_) (fun v H' c' h => ⟨_, h.2.ofH, h.1, fun id bx h => h⟩)
  refine Aw.sm tab_ok mb0 [] rfl rfl ?zo ?zk
  case zo =>
    repeat' apply AllP.cons
    all_goals first | exact trivial
  case zk =>
  refine Aw.sm tab_ok mb0 [] rfl rfl ?zo ?zk
  case zo =>
    repeat' apply AllP.cons
    all_goals first | exact trivial | exact rfl | exact Nat.le_of_ble_eq_true rfl
  case zk =>
  exact Aw.ret ⟨_, .cons (resC rfl rfl rfl rfl rfl) .nil, rfl, ⟨rfl, trivial⟩⟩
theorem back_w (s : Sea) (l : List Rep) : SCall Try.prog 82 [.agg (logA s (.mp 20) l)] (landH s) 21 (fun v' H' _ => v' = backA s l ∧ ∀ id bx, landH s id = some bx → H' id = some bx) := by
  refine SCall.drop (post := fun v' H' _ => v' = backA s l ∧ HasH H' [(20, landB s)]) (SCall.of_bodyN tab_ok Try.func82 rfl Try.ntmps82 (Nat.le_of_ble_eq_true rfl) (all1 fun _ => rfl) fun E hE => ?_) (fun v H' c' h => ⟨_, h.2.ofH, h.1, fun id bx h => h⟩)
  refine Aw.sm tab_ok mb0 [] rfl rfl ?zo ?zk
  case zo =>
    repeat' apply AllP.cons
    all_goals first | exact trivial
  case zk =>
  refine Aw.sm tab_ok mb0 [] rfl rfl ?zo ?zk
  case zo =>
    repeat' apply AllP.cons
    all_goals first | exact trivial | exact rfl | exact Nat.le_of_ble_eq_true rfl
  case zk =>
  exact Aw.ret ⟨_, .cons (resC rfl rfl rfl rfl rfl) .nil, rfl, ⟨rfl, trivial⟩⟩
theorem forthA_r (s : Sea) (l : List Rep) : RCall Try.prog 81 [.agg (logA s (.mp 20) l)] (landH s) (forthA s l) :=
  RCall.of (enters_of Try.func81 rfl rfl) (landH_lt s) (landH_nms s) (all1 (.agg _ (log_nms s l))) (forthA_nms s l) (fun _ => rfl) (forth_w s l)
theorem backA_r (s : Sea) (l : List Rep) : RCall Try.prog 82 [.agg (logA s (.mp 20) l)] (landH s) (backA s l) :=
  RCall.of (enters_of Try.func82 rfl rfl) (landH_lt s) (landH_nms s) (all1 (.agg _ (log_nms s l))) (backA_nms s l) (fun _ => rfl) (back_w s l)
def fromF (s : Sea) (hour cell : Int) : List Int := goL s (fun k => s.steps (hour - 1) (placeP s.wide k) (placeP s.wide cell)) (cellsL s).length
def fromB (s : Sea) (hour cell : Int) : List Int := goL s (fun k => s.steps hour (placeP s.wide cell) (placeP s.wide k)) (cellsL s).length
theorem outA_spare (l : List Int) : ∀ u, spareOf (outA l) u = none := fun u => by cases l <;> rfl
theorem forth_r (s : Sea) (ho : s.Ok) (l : List Rep) (hour cell : Int) (h0 : 0 ≤ hour - 1) (h1 : hour - 1 < s.drift.length) (hc : 0 ≤ cell ∧ cell ≤ 1000) : RCall Try.prog 86 [.int hour, .int cell, .pt (logA s (.mp 20) l)] (landH s) (outA (fromF s hour cell)) :=
  RCall.of (enters_of Try.func86 rfl rfl) (landH_lt s) (landH_nms s) (allC (.s _) (allC (.s _) (all1 (.pt _ (log_nms s l))))) (outA_free _).nms (outA_spare _) (forth_s s ho l hour cell h0 h1 hc)
theorem back_r (s : Sea) (ho : s.Ok) (l : List Rep) (hour cell : Int) (h0 : 0 ≤ hour) (h1 : hour < s.drift.length) (hc : 0 ≤ cell ∧ cell ≤ 1000) : RCall Try.prog 87 [.int hour, .int cell, .pt (logA s (.mp 20) l)] (landH s) (outA (fromB s hour cell)) :=
  RCall.of (enters_of Try.func87 rfl rfl) (landH_lt s) (landH_nms s) (allC (.s _) (allC (.s _) (all1 (.pt _ (log_nms s l))))) (outA_free _).nms (outA_spare _) (back_s s ho l hour cell h0 h1 hc)
end Go.Proofs.Ytohbjneaaahpcaa

namespace Go.Proofs.Ytohbjneaaahpcaa
open Go Go.AL Go.AL.Q Go.AL.Sh
def cntB (l : List Int) : B := .cells (l.map A.int)
theorem cntB_under (l : List Int) {n : Nat} : UnderB n (cntB l) := .cells _ fun x hx => by obtain ⟨v, _, rfl⟩ := List.mem_map.1 hx; exact .s _
theorem set_cells {l : List Int} {k : Nat} {v : Int} (h : k < l.length) : setSeg (l.map A.int) (0 + k * 1) [A.int v] = (l.set k v).map A.int := by
  have := setSeg_app (l := []) (r := l.map A.int) (v := A.int v) (i := k) (by simpa using h)
  simp only [List.length_nil, Nat.zero_add, List.nil_append] at this
  rw [Nat.zero_add, Nat.mul_one, this, List.map_set]
theorem dn_int (l : List Int) : (l.map A.int).map A.down = l.map A.int := by rw [List.map_map]; rfl
theorem ld80 {G : List Int} (h : G.length = 80) : A.agg (((List.drop 0 (G.map A.int)).take 80).map A.down) = .agg (G.map A.int) := by
  rw [List.drop_zero, List.take_of_length_le (by simp [h]), dn_int]
theorem set80 {G : List Int} (h : G.length = 80) : setSeg ((nevK 0).map A.int) 0 ((G.map A.int).map A.down) = G.map A.int := by
  rw [dn_int]
  unfold setSeg
  simp [nevK, h]
set_option maxRecDepth 20000 in
theorem gone0_s (s : Sea) (ho : s.Ok) (l : List Rep) (hl : RepFit s l) (w : A) (hw : w = forthA s l ∨ w = backA s l) (hour : Int) :
    SCall Try.prog 80 [.agg (logA s (.mp 20) l), w, .int hour, .s (.pointer none)] (landH s) 21 (fun v' H' _ => v' = .agg ((setK (fun p => untrueF s.wide l hour (placeP s.wide p)) (cellsL s)).map A.int) ∧ ∀ id bx, landH s id = some bx → H' id = some bx) := by
  have hlen : ∀ z ∈ (cellsL s).map fun k : Nat => [A.int k], z.length = 1 := fun z h => by obtain ⟨p, _, rfl⟩ := List.mem_map.1 h; rfl
  have hlm : ((cellsL s).map fun k : Nat => [A.int k]).length = (cellsL s).length := List.length_map _
  have hcl := cellsL_len s ho
  obtain ⟨wf, rfl⟩ : ∃ wf : FuncId, w = .agg [.fn (.func wf) [] [.pt (logA s (.mp 20) l)]] := by
    rcases hw with rfl | rfl
    · exact ⟨86, rfl⟩
    · exact ⟨87, rfl⟩
  refine SCall.drop (post := fun v' H' _ => v' = .agg ((setK (fun p => untrueF s.wide l hour (placeP s.wide p)) (cellsL s)).map A.int) ∧ HasH H' [(20, landB s)]) (SCall.of_bodyN tab_ok Try.func80 rfl Try.ntmps80 (Nat.le_of_ble_eq_true rfl) (allC (fun _ => rfl) (allC (fun _ => rfl) (allC (fun _ => rfl) (all1 fun _ => rfl)))) fun E hE => ?_)
    (fun v H' c' h => ⟨_, h.2.ofH, h.1, fun id bx h => h⟩)
  have h23 : ∀ id, 23 ≤ id → E.φ0 id = none := fun id h => hE id (by omega)
  have ulog : Under 23 (A.pt (logA s (.mp 20) l)) := .pt _ (logA_under s (by decide) l)
  have uway : Under 23 (A.pt [.fn (.func wf) [] [.pt (logA s (.mp 20) l)]]) := .pt _ (all1 (.fn _ _ _ (fun _ h => nomatch h) (all1 ulog)))
  have usa : Under 23 (A.pt (seaA s (.mp 20))) := .pt _ (sea_under s (by decide))
  have ufn : Under 23 (A.fn (.func 84) [] [.pt (seaA s (.mp 20))]) := .fn _ _ _ (fun _ h => nomatch h) (all1 usa)
  have ucst : UnderL 23 [(4, .pt (logA s (.mp 20) l)), (5, .pt [.fn (.func wf) [] [.pt (logA s (.mp 20) l)]]), (6, .pt [.int hour]), (7, .pt [.s (.pointer none)]), (8, .ref 21 0), (9, .ref 22 0)] := ⟨ulog, uway, .pt _ (all1 (.s _)), .pt _ (all1 (.s _)), .ref _ _ (by decide), .ref _ _ (by decide), trivial⟩
  have uH : ∀ a b : List Int, UnderH 23 [(20, landB s), (21, cntB a), (22, cntB b)] := fun a b => ⟨⟨by decide, map_under _⟩, ⟨by decide, cntB_under _⟩, ⟨by decide, cntB_under _⟩, trivial⟩
  refine Aw.sm tab_ok mb0 [] rfl rfl ?zo ?zk
  case zo =>
    repeat' apply AllP.cons
    all_goals first | exact trivial
  case zk =>
  refine Aw.sm tab_ok mb0 [] rfl rfl ?zo ?zk
  case zo =>
    repeat' apply AllP.cons
    all_goals first | exact trivial
  case zk =>
  refine Aw.seq ?_
  refine Aw.sm tab_ok mb0 [] rfl rfl ?zo ?zk
  case zo =>
    repeat' apply AllP.cons
    all_goals first | exact trivial
  case zk =>
  refine Aw.block (Aw.rounds 23 h23 [(4, .pt (logA s (.mp 20) l)), (5, .pt [.fn (.func wf) [] [.pt (logA s (.mp 20) l)]]), (6, .pt [.int hour]), (7, .pt [.s (.pointer none)]), (8, .ref 21 0), (9, .ref 22 0)] (fun k : Nat => [(16, .int k)]) (fun k => [(20, landB s), (21, cntB (nevK 0)), (22, cntB (nevK k))]) (fun k => k ≤ 80) (fun k => 80 - k) 0
    (Nat.zero_le _) ⟨⟨.refl _, .refl _, .refl _, .refl _, .refl _, .refl _, trivial⟩, ⟨.refl _, trivial⟩, ⟨rfl, rfl, rfl, trivial⟩, Nat.le_of_ble_eq_true rfl⟩ ucst (fun _ _ => ⟨.s _, trivial⟩) (fun _ _ => uH _ _) fun k hk => ?_)
  refine Aw.sm tab_ok mb0 [] rfl rfl ?zo ?zk
  case zo =>
    repeat' apply AllP.cons
    all_goals first | exact trivial
  case zk =>
  refine Aw.seq (Aw.cond rfl (fun h1 => Aw.skip1 ?_) (fun h1 => Aw.exit2 ?_))
  · have hlt : k < 80 := by have := of_decide_eq_true h1; omega
    have hn := nevK_len hk
    have hst := nevK_step hlt
    generalize nevK k = G at *
    refine Aw.seq (Aw.block ?_)
    refine Aw.sm tab_ok mb0 [] rfl rfl ?zo ?zk
    case zo =>
      repeat' apply AllP.cons
      all_goals first | exact trivial
    case zk =>
    refine Aw.em tab_ok mb0 [] rfl rfl ?zo ?zk
    case zo =>
      repeat' apply AllP.cons
      all_goals first | exact trivial | exact rfl | exact Int.natCast_nonneg _ | exact (show 0 + (Int.toNat (k : Int)) * 1 + 1 ≤ (G.map A.int).length by rw [List.length_map, hn, Int.toNat_natCast]; omega) | exact (by simp only [Ob.of]; omega)
    case zk =>
    refine Aw.em tab_ok mb0 [] rfl rfl ?zo ?zk
    case zo =>
      repeat' apply AllP.cons
      all_goals first | exact trivial | exact inrk k (by omega)
    case zk =>
    exact ⟨k + 1, hlt, by omega, ⟨.refl _, .refl _, .refl _, .refl _, .refl _, .refl _, trivial⟩, ⟨.refl _, trivial⟩, ⟨rfl, rfl, by rw [← hst]; exact congrArg (fun x => some (B.cells x)) (set_cells (by omega)), trivial⟩, Nat.le_of_ble_eq_true rfl⟩
  have hle : k = 80 := by have := of_decide_eq_false h1; omega
  subst hle
  generalize hval : (fun p : Nat => untrueF s.wide l hour (placeP s.wide p)) = val at *
  refine Aw.seq ?_
  refine Aw.sm tab_ok mb0 [(2, [.fn (.func 84) [] [.pt (seaA s (.mp 20))], .tup [.mp 20]])] rfl rfl ?zo ?zk
  case zo =>
    repeat' apply AllP.cons
    all_goals first | exact trivial | exact Nat.le_of_ble_eq_true rfl | exact at20 (cells_r s) rfl
  case zk =>
  refine Aw.keep (n := 23) (cst := [(4, .pt (logA s (.mp 20) l)), (5, .pt [.fn (.func wf) [] [.pt (logA s (.mp 20) l)]]), (6, .pt [.int hour]), (7, .pt [.s (.pointer none)]), (8, .ref 21 0), (9, .ref 22 0)]) (v := [(24, .fn (.func 84) [] [.pt (seaA s (.mp 20))])]) (Hl := [(20, landB s), (21, cntB (nevK 0)), (22, cntB (setK val ((cellsL s).take 0)))]) h23 ucst ⟨ufn, trivial⟩ (uH _ _)
    ⟨⟨.refl _, .refl _, .refl _, .refl _, .refl _, .refl _, trivial⟩, ⟨.refl _, trivial⟩, ⟨rfl, rfl, rfl, trivial⟩, Nat.le_of_ble_eq_true rfl⟩ ?_
  refine Aw.block (Aw.iterM rfl (enters_of Try.func84 rfl rfl) ((cellsL s).map fun k : Nat => [A.int k]) (fun j H => H = ofH [(20, landB s), (21, cntB (nevK 0)), (22, cntB (setK val ((cellsL s).take j)))]) (fun _ _ => False) rfl hlen
    (ofL2_under (UnderL.app (l := [(24, .fn (.func 84) [] [.pt (seaA s (.mp 20))])]) ⟨ufn, trivial⟩ ucst))
    (by rintro j H rfl; exact UnderH.ofH (uH _ _)) (fun _ _ h => h.elim)
    (fun it hIJ H hI => by rw [hlm]; exact cells1_t s ho it (Nat.lt_succ_self _) (Nat.le_of_ble_eq_true rfl) (fun k H h => by obtain ⟨H0, rfl, h2⟩ := hIJ k H h; rw [h2 20 (Nat.ne_of_beq_eq_false rfl)]; rfl) hI) rfl ?_ ?_ (fun _ _ _ _ ⟨_, h, _⟩ => h.elim))
  · intro lpB ulp j as' ha H hI E2 b2 hE2
    subst hI
    obtain ⟨p, hp, rfl⟩ : ∃ p, (cellsL s)[j]? = some p ∧ [A.int (p : Nat)] = as' := by
      rw [List.getElem?_map] at ha
      cases e : (cellsL s)[j]? with
      | none => rw [e] at ha; cases ha
      | some p => rw [e] at ha; exact ⟨p, rfl, by simpa using ha⟩
    have hgo := setK_succ val hp
    have hgl := setK_len val ((cellsL s).take j)
    have hpc := cellsL_in s ho hp
    have hv : untrueF s.wide l hour (placeP s.wide p) = val p := by rw [← hval]
    generalize setK val ((cellsL s).take j) = G at *
    generalize setK val ((cellsL s).take (j + 1)) = G' at *
    subst hgo
    refine Aw.em tab_ok mb0 [] rfl rfl ?zo ?zk
    case zo =>
      repeat' apply AllP.cons
      all_goals first | exact trivial
    case zk =>
    refine ⟨rfl, rfl, ?_⟩
    refine Aw.block ?_
    refine Aw.sm tab_ok mb0 [(3, [.int (val p)])] rfl rfl ?zo ?zk
    case zo =>
      repeat' apply AllP.cons
      all_goals first | exact trivial | exact Nat.le_of_ble_eq_true rfl | exact hv ▸ untrue_t s ho l hl 20 hour p (by omega)
    case zk =>
    refine Aw.seq ?_
    refine Aw.sm tab_ok mb0 [] rfl rfl ?zo ?zk
    case zo =>
      repeat' apply AllP.cons
      all_goals first | exact trivial | exact Nat.le_of_ble_eq_true rfl
    case zk =>
    refine Aw.cond rfl (fun h2 => ?_) (fun h2 => absurd h2 (by decide))
    refine Aw.sm tab_ok mb0 [] rfl rfl ?zo ?zk
    case zo =>
      repeat' apply AllP.cons
      all_goals first | exact trivial | exact rfl | exact Int.natCast_nonneg _ | exact (show 0 + (Int.toNat ((p : Nat) : Int)) * 1 + 1 ≤ (G.map A.int).length by rw [List.length_map, hgl, Int.toNat_natCast]; omega) | exact (by simp only [Ob.of]; omega)
    case zk =>
    refine Aw.exit (thenE (blkE ?_))
    exact ⟨⟨_, _, rfl⟩, Nat.le_of_ble_eq_true rfl, _, rfl, HasH.ofH (l := [(20, landB s), (21, cntB (nevK 0)), (22, cntB (G.set p (val p)))]) ⟨rfl, rfl, congrArg (fun x => some (B.cells x)) (set_cells (by omega)), trivial⟩⟩
  · rintro H c' hc' ⟨H0, rfl, hs⟩
    rw [hlm, List.take_length] at hs
    have hH := hasH_of_sub (l := [(20, landB s), (21, cntB (nevK 0)), (22, cntB (setK val (cellsL s)))]) rfl hs
    have hgl := setK_len val (cellsL s)
    generalize setK val (cellsL s) = G at *
    refine Aw.keep (n := 23) (cst := [(8, .ref 21 0), (9, .ref 22 0)]) (v := []) (Hl := [(20, landB s), (21, cntB (nevK 0)), (22, cntB G)]) h23 ⟨.ref _ _ (by decide), .ref _ _ (by decide), trivial⟩ trivial (uH _ _)
      ⟨⟨.refl _, .refl _, trivial⟩, trivial, hH, hc'⟩ ?_
    refine Aw.sm tab_ok mb0 [(0, [.agg (G.map A.int)])] rfl rfl ?zo ?zk
    case zo =>
      repeat' apply AllP.cons
      all_goals first | exact trivial | exact Nat.le_of_ble_eq_true rfl | exact ld80 hgl | exact (show (0 : Nat) + 80 ≤ (G.map A.int).length by rw [List.length_map, hgl]; decide) | exact (show (G.map A.int).length = 80 by rw [List.length_map, hgl])
    case zk =>
    refine Aw.keep (n := 23) (cst := [(8, .ref 21 0)]) (v := [(3, A.un)]) (Hl := [(20, landB s), (21, cntB G)]) h23 ⟨.ref _ _ (by decide), trivial⟩ ⟨.un, trivial⟩ ⟨⟨by decide, map_under _⟩, ⟨by decide, cntB_under _⟩, trivial⟩
      ⟨⟨.refl _, trivial⟩, ⟨⟨fun _ _ _ v _ => .un v, fun u p h => absurd h (by simp [spareOf])⟩, trivial⟩, ⟨rfl, congrArg (fun x => some (B.cells x)) (set80 hgl), trivial⟩, Nat.le_of_ble_eq_true rfl⟩ ?_
    exact Aw.ret ⟨_, .cons (resC rfl rfl rfl (by rw [Nat.ble_eq, List.length_map, hgl]; exact Nat.le_refl 80) (ld80 hgl)) .nil, rfl, ⟨rfl, trivial⟩⟩
end Go.Proofs.Ytohbjneaaahpcaa

namespace Go.Proofs.Ytohbjneaaahpcaa
open Go Go.AL Go.AL.Q Go.AL.Sh
def unN (s : Sea) (l : List Rep) (h c : Nat) : Nat := l.countP (falseAt s.wide h (placeP s.wide c))
theorem unN_eq (s : Sea) (l : List Rep) (h c : Nat) : untrueF s.wide l h (placeP s.wide c) = (unN s l h c : Int) := rfl
theorem unN_le (s : Sea) {l : List Rep} (hl : l.length ≤ 24) (h c : Nat) : unN s l h c ≤ 24 := Nat.le_trans List.countP_le_length hl
def stp (s : Sea) (h a b : Nat) : Bool := s.steps h (placeP s.wide a) (placeP s.wide b)
def okW (s : Sea) : Nat → List Nat → Prop
  | _, [] => True
  | h, c :: t => c ∈ cellsL s ∧ (∀ d, t.head? = some d → stp s h c d = true) ∧ okW s (h + 1) t
def costW (s : Sea) (l : List Rep) : Nat → List Nat → Nat
  | _, [] => 0
  | h, c :: t => unN s l h c + costW s l (h + 1) t
theorem costW_app (s : Sea) (l : List Rep) : ∀ (a b : List Nat) (h : Nat), costW s l h (a ++ b) = costW s l h a + costW s l (h + a.length) b
  | [], b, h => by simp [costW]
  | c :: a, b, h => by
    rw [List.cons_append, costW, costW_app s l a b, costW, List.length_cons, show h + 1 + a.length = h + (a.length + 1) by omega]; omega
theorem costW_le (s : Sea) {l : List Rep} (hl : l.length ≤ 24) : ∀ (t : List Nat) (h : Nat), costW s l h t ≤ 24 * t.length
  | [], h => by simp [costW]
  | c :: t, h => by
    have := costW_le s hl t (h + 1); have := unN_le s hl h c
    rw [costW, List.length_cons]; omega
theorem okW_app (s : Sea) : ∀ (a : List Nat) (c : Nat) (b : List Nat) (h : Nat), okW s h (a ++ c :: b) ↔ okW s h (a ++ [c]) ∧ okW s (h + a.length) (c :: b)
  | [], c, b, h => by
    simp only [List.nil_append, List.length_nil, Nat.add_zero]
    constructor
    · intro k; exact ⟨⟨k.1, fun d e => by simp at e, trivial⟩, k⟩
    · intro k; exact k.2
  | d :: a, c, b, h => by
    have e : ∀ x : List Nat, (a ++ c :: x).head? = some (a.head?.getD c) := fun x => by cases a <;> rfl
    simp only [List.cons_append, okW, okW_app s a c b (h + 1), e, List.length_cons, show h + 1 + a.length = h + (a.length + 1) by omega]
    constructor
    · rintro ⟨h1, h2, h3, h4⟩; exact ⟨⟨h1, h2, h3⟩, h4⟩
    · rintro ⟨⟨h1, h2, h3⟩, h4⟩; exact ⟨h1, h2, h3, h4⟩
theorem okW_mem (s : Sea) : ∀ {t : List Nat} {h : Nat}, okW s h t → ∀ c ∈ t, c ∈ cellsL s
  | c :: t, h, k, d, hd => by
    rcases List.mem_cons.1 hd with rfl | h1
    · exact k.1
    · exact okW_mem s k.2.2 d h1
structure MinIs (inf : Nat) (P : Nat → Prop) (v : Int) : Prop where
  or : (v = inf ∧ ∀ n, ¬ P n) ∨ ∃ n : Nat, v = n ∧ P n ∧ ∀ m, P m → n ≤ m
theorem MinIs.congr {inf : Nat} {P Q : Nat → Prop} {v : Int} (h : MinIs inf P v) (e : ∀ n, P n ↔ Q n) : MinIs inf Q v := by
  rcases h.or with ⟨h1, h2⟩ | ⟨n, h1, h2, h3⟩
  · exact ⟨.inl ⟨h1, fun n h => h2 n ((e n).2 h)⟩⟩
  · exact ⟨.inr ⟨n, h1, (e n).1 h2, fun m h => h3 m ((e m).2 h)⟩⟩
theorem MinIs.le_iff {inf : Nat} {P : Nat → Prop} {v w : Int} (h : MinIs inf P v) (hw : w < inf) : v ≤ w ↔ ∃ n : Nat, (n : Int) ≤ w ∧ P n := by
  rcases h.or with ⟨h1, h2⟩ | ⟨n, h1, h2, h3⟩
  · constructor
    · intro h; omega
    · rintro ⟨n, _, h⟩; exact absurd h (h2 n)
  · constructor
    · intro h; exact ⟨n, by omega, h2⟩
    · rintro ⟨m, h4, h5⟩; have := h3 m h5; omega
theorem MinIs.nonneg {inf : Nat} {P : Nat → Prop} {v : Int} (h : MinIs inf P v) : 0 ≤ v := by
  rcases h.or with ⟨h1, _⟩ | ⟨n, h1, _⟩ <;> omega
theorem MinIs.le {inf : Nat} {P : Nat → Prop} {v : Int} (h : MinIs inf P v) (hb : ∀ n, P n → n ≤ inf) : v ≤ inf := by
  rcases h.or with ⟨h1, _⟩ | ⟨n, h1, h2, _⟩
  · omega
  · have := hb n h2; omega
theorem MinIs.both {inf inf' : Nat} {P : Nat → Prop} {v v' : Int} (h : MinIs inf P v) (h' : MinIs inf' P v') : (v = inf ∧ v' = inf' ∧ ∀ n, ¬ P n) ∨ ∃ n : Nat, v = n ∧ v' = n ∧ P n ∧ ∀ m, P m → n ≤ m := by
  rcases h.or with ⟨h1, h2⟩ | ⟨n, h1, h2, h3⟩ <;> rcases h'.or with ⟨k1, k2⟩ | ⟨m, k1, k2, k3⟩
  · exact .inl ⟨h1, k1, h2⟩
  · exact absurd k2 (h2 m)
  · exact absurd h2 (k2 n)
  · have := h3 m k2; have := k3 n h2
    exact .inr ⟨n, h1, by omega, h2, h3⟩
theorem MinIs.min {inf : Nat} {P Q : Nat → Prop} {v u : Int} (h : MinIs inf P v) (k : MinIs inf Q u) (hP : ∀ n, P n → n ≤ inf) (hQ : ∀ n, Q n → n ≤ inf) : MinIs inf (fun n => P n ∨ Q n) (gmin v u) := by
  rw [gmin_eq]
  rcases h.or with ⟨h1, h2⟩ | ⟨n, h1, h2, h3⟩ <;> rcases k.or with ⟨k1, k2⟩ | ⟨m, k1, k2, k3⟩
  · exact ⟨.inl ⟨by omega, fun n h => h.elim (h2 n) (k2 n)⟩⟩
  · have := hQ m k2
    exact ⟨.inr ⟨m, by omega, .inr k2, fun j h => h.elim (fun h => absurd h (h2 j)) (k3 j)⟩⟩
  · have := hP n h2
    exact ⟨.inr ⟨n, by omega, .inl h2, fun j h => h.elim (h3 j) (fun h => absurd h (k2 j))⟩⟩
  · by_cases hnm : n ≤ m
    · exact ⟨.inr ⟨n, by omega, .inl h2, fun j h => h.elim (h3 j) (fun h => by have := k3 j h; omega)⟩⟩
    · exact ⟨.inr ⟨m, by omega, .inr k2, fun j h => h.elim (fun h => by have := h3 j h; omega) (k3 j)⟩⟩
theorem MinIs.add {inf u : Nat} {P : Nat → Prop} {v : Int} (h : MinIs inf P v) (hb : ∀ n, P n → n + u ≤ inf) : MinIs inf (fun n => ∃ m, P m ∧ n = m + u) (gmin inf (v + u)) := by
  rw [gmin_eq]
  rcases h.or with ⟨h1, h2⟩ | ⟨n, h1, h2, h3⟩
  · exact ⟨.inl ⟨by omega, fun n ⟨m, h, _⟩ => h2 m h⟩⟩
  · have := hb n h2
    exact ⟨.inr ⟨n + u, by omega, ⟨n, h2, rfl⟩, fun j ⟨m, h, e⟩ => by have := h3 m h; omega⟩⟩
theorem MinIs.fold {α : Type} {inf : Nat} (P : α → Nat → Prop) (f : α → Int) : ∀ (F : List α) (Q : Nat → Prop) (b : Int), MinIs inf Q b → (∀ o ∈ F, MinIs inf (P o) (f o)) → (∀ n, Q n → n ≤ inf) → (∀ o ∈ F, ∀ n, P o n → n ≤ inf) →
    MinIs inf (fun n => Q n ∨ ∃ o ∈ F, P o n) (F.foldl (fun b o => gmin b (f o)) b)
  | [], Q, b, h, _, _, _ => h.congr fun n => by simp
  | o :: F, Q, b, h, k, hQ, hP => by
    rw [List.foldl_cons]
    refine (MinIs.fold P f F (fun n => Q n ∨ P o n) _ (h.min (k o (by simp)) hQ (hP o (by simp))) (fun x hx => k x (by simp [hx])) (fun n h => h.elim (hQ n) (hP o (by simp) n)) fun x hx => hP x (by simp [hx])).congr fun n => ?_
    simp only [List.mem_cons, exists_eq_or_imp, or_assoc]
theorem MinIs.none {inf : Nat} : MinIs inf (fun _ => False) inf := ⟨.inl ⟨rfl, fun _ h => h⟩⟩
def leastOf (bc : List Int) (F : List Int) : Int := F.foldl (fun b o => gmin b (bc.getD o.toNat 0)) 1048576
def fwR (s : Sea) (l : List Rep) : Nat → List Int
  | 0 => setK (fun p => untrueF s.wide l (0 : Nat) (placeP s.wide p)) (cellsL s)
  | h + 1 => setK (fun p => gmin 1048576 (leastOf (fwR s l h) (fromF s (h + 1 : Nat) p) + untrueF s.wide l (h + 1 : Nat) (placeP s.wide p))) (cellsL s)
def hrs (s : Sea) : Nat := s.hours.toNat
def bkR (s : Sea) (l : List Rep) : Nat → List Int
  | 0 => setK (fun p => untrueF s.wide l (hrs s - 1 : Nat) (placeP s.wide p)) (cellsL s)
  | j + 1 => setK (fun p => gmin 1048576 (leastOf (bkR s l j) (fromB s (hrs s - 1 - (j + 1) : Nat) p) + untrueF s.wide l (hrs s - 1 - (j + 1) : Nat) (placeP s.wide p))) (cellsL s)
def thrV (s : Sea) (l : List Rep) (h c : Nat) : Int := gmin 1048576 ((fwR s l h).getD c 0 + (bkR s l (hrs s - 1 - h)).getD c 0 - untrueF s.wide l h (placeP s.wide c))
def thrR (s : Sea) (l : List Rep) (h : Nat) : List Int := setK (thrV s l h) (cellsL s)
theorem wat_lt {s : Sea} (ho : s.Ok) {c : Nat} (h : c ∈ cellsL s) : c < 80 := by
  obtain ⟨j, hj, e⟩ := List.getElem_of_mem h
  have := (cellsL_in s ho (j := j) (k := c) (by rw [List.getElem?_eq_getElem hj, e])).2
  omega
theorem setK_at {s : Sea} (ho : s.Ok) (val : Nat → Int) {c : Nat} (h : c ∈ cellsL s) : (setK val (cellsL s)).getD c 0 = val c := by
  rw [setK_get val c _ (wat_lt ho h), if_pos h]
theorem setK_no {s : Sea} (val : Nat → Int) {c : Nat} (h8 : c < 80) (h : c ∉ cellsL s) : (setK val (cellsL s)).getD c 0 = 1048576 := by
  rw [setK_get val c _ h8, if_neg h]
theorem goL_all (s : Sea) (p : Nat → Bool) : goL s p (cellsL s).length = ((cellsL s).filter p).map Int.ofNat := by unfold goL; rw [List.take_length]
theorem leastOf_go (s : Sea) (bc : List Int) (p : Nat → Bool) : leastOf bc (goL s p (cellsL s).length) = ((cellsL s).filter p).foldl (fun b o => gmin b (bc.getD o 0)) 1048576 := by
  rw [goL_all]; unfold leastOf
  rw [List.foldl_map]; rfl
def FwP (s : Sea) (l : List Rep) (h c n : Nat) : Prop := ∃ t, t.length = h ∧ okW s 0 (t ++ [c]) ∧ costW s l 0 (t ++ [c]) = n
theorem FwP.le {s : Sea} {l : List Rep} (hl : l.length ≤ 24) {h c n : Nat} (k : FwP s l h c n) : n ≤ 24 * (h + 1) := by
  obtain ⟨t, rfl, _, rfl⟩ := k
  have := costW_le s hl (t ++ [c]) 0
  simpa using this
theorem FwP.mem {s : Sea} {l : List Rep} {h c n : Nat} (k : FwP s l h c n) : c ∈ cellsL s := by
  obtain ⟨t, _, k, _⟩ := k
  exact okW_mem s k c (by simp)
theorem FwP.zero {s : Sea} {l : List Rep} {c : Nat} (hc : c ∈ cellsL s) (n : Nat) : FwP s l 0 c n ↔ n = unN s l 0 c := by
  constructor
  · rintro ⟨t, h1, _, h3⟩
    cases t with
    | nil => simpa [costW] using h3.symm
    | cons a t => cases h1
  · rintro rfl; exact ⟨[], rfl, ⟨hc, fun d e => by simp at e, trivial⟩, by simp [costW]⟩
theorem FwP.succ {s : Sea} {l : List Rep} {h c : Nat} (hc : c ∈ cellsL s) (n : Nat) : FwP s l (h + 1) c n ↔ ∃ m, (∃ o ∈ (cellsL s).filter (fun o => stp s h o c), FwP s l h o m) ∧ n = m + unN s l (h + 1) c := by
  constructor
  · rintro ⟨t, h1, h2, h3⟩
    have hne : t ≠ [] := by intro e; rw [e] at h1; cases h1
    obtain ⟨t0, o, rfl⟩ : ∃ t0 o, t = t0 ++ [o] := ⟨t.dropLast, t.getLast hne, (List.dropLast_concat_getLast hne).symm⟩
    have hl0 : t0.length = h := by simpa using h1
    rw [List.append_assoc, List.singleton_append, okW_app] at h2
    obtain ⟨k1, k2, k3, k4⟩ := h2
    rw [Nat.zero_add, hl0] at k3
    refine ⟨costW s l 0 (t0 ++ [o]), ⟨o, List.mem_filter.2 ⟨k2, k3 c rfl⟩, t0, hl0, k1, rfl⟩, ?_⟩
    rw [← h3, costW_app s l (t0 ++ [o]) [c]]
    simp [costW, hl0]
  · rintro ⟨m, ⟨o, h1, t, h2, h3, h4⟩, rfl⟩
    obtain ⟨h5, h6⟩ := List.mem_filter.1 h1
    refine ⟨t ++ [o], by simp [h2], ?_, ?_⟩
    · rw [List.append_assoc, List.singleton_append, okW_app]
      refine ⟨h3, h5, fun d e => ?_, hc, fun d e => by simp at e, trivial⟩
      cases e
      rw [Nat.zero_add, h2]; exact h6
    · rw [costW_app s l (t ++ [o]) [c], h4]
      simp [costW, h2]
theorem fw_min {s : Sea} (ho : s.Ok) {l : List Rep} (hl : l.length ≤ 24) : ∀ (h : Nat), h < hrs s → ∀ c, c ∈ cellsL s → MinIs 1048576 (FwP s l h c) ((fwR s l h).getD c 0)
  | 0, _, c, hc => by
    rw [fwR, setK_at ho _ hc]
    exact ⟨.inr ⟨unN s l 0 c, rfl, (FwP.zero hc _).2 rfl, fun m h => by rw [(FwP.zero hc _).1 h]; exact Nat.le_refl _⟩⟩
  | h + 1, hh, c, hc => by
    have hr : hrs s ≤ 12 := by have := ho.hr; unfold hrs; omega
    rw [fwR, setK_at ho _ hc, show fromF s (h + 1 : Nat) c = goL s (fun o => stp s h o c) (cellsL s).length by unfold fromF; rw [show ((h + 1 : Nat) : Int) - 1 = (h : Int) by omega]; rfl, leastOf_go]
    have key := (MinIs.fold (FwP s l h) (fun o => (fwR s l h).getD o 0) ((cellsL s).filter fun o => stp s h o c) _ _ (MinIs.none (inf := 1048576)) (fun o ho' => fw_min ho hl h (by omega) o (List.mem_filter.1 ho').1) (fun n h => h.elim) fun o ho' n hn => by have := hn.le hl; omega).add (u := unN s l (h + 1) c) (fun n hn => by
      rcases hn with hn | ⟨o, _, hn⟩
      · exact hn.elim
      · have := hn.le hl; have := unN_le s hl (h + 1) c; omega)
    exact key.congr fun n => by rw [FwP.succ hc]; simp only [false_or]
def BwP (s : Sea) (l : List Rep) (h c n : Nat) : Prop := ∃ t, t.length + 1 + h = hrs s ∧ okW s h (c :: t) ∧ costW s l h (c :: t) = n
theorem BwP.le {s : Sea} {l : List Rep} (hl : l.length ≤ 24) {h c n : Nat} (k : BwP s l h c n) : n ≤ 24 * hrs s := by
  obtain ⟨t, h1, _, rfl⟩ := k
  have := costW_le s hl (c :: t) h
  simp only [List.length_cons] at this
  omega
theorem BwP.ge {s : Sea} {l : List Rep} {h c n : Nat} (k : BwP s l h c n) : unN s l h c ≤ n := by
  obtain ⟨t, h1, _, rfl⟩ := k
  rw [costW]; omega
theorem BwP.last {s : Sea} {l : List Rep} {h c : Nat} (hh : h + 1 = hrs s) (hc : c ∈ cellsL s) (n : Nat) : BwP s l h c n ↔ n = unN s l h c := by
  constructor
  · rintro ⟨t, h1, _, h3⟩
    cases t with
    | nil => simpa [costW] using h3.symm
    | cons a t => simp at h1; omega
  · rintro rfl; exact ⟨[], by simp; omega, ⟨hc, fun d e => by simp at e, trivial⟩, by simp [costW]⟩
theorem BwP.succ {s : Sea} {l : List Rep} {h c : Nat} (hh : h + 1 < hrs s) (hc : c ∈ cellsL s) (n : Nat) : BwP s l h c n ↔ ∃ m, (∃ o ∈ (cellsL s).filter (fun o => stp s h c o), BwP s l (h + 1) o m) ∧ n = m + unN s l h c := by
  constructor
  · rintro ⟨t, h1, h2, h3⟩
    cases t with
    | nil => simp at h1; omega
    | cons o t =>
      obtain ⟨k1, k2, k3⟩ := h2
      refine ⟨costW s l (h + 1) (o :: t), ⟨o, List.mem_filter.2 ⟨k3.1, k2 o rfl⟩, t, by simp only [List.length_cons] at h1; omega, k3, rfl⟩, ?_⟩
      rw [← h3, costW]; omega
  · rintro ⟨m, ⟨o, h1, t, h2, h3, h4⟩, rfl⟩
    obtain ⟨h5, h6⟩ := List.mem_filter.1 h1
    refine ⟨o :: t, by simp only [List.length_cons]; omega, ⟨hc, fun d e => by cases e; exact h6, h3⟩, ?_⟩
    rw [costW, h4]; omega
theorem bk_min {s : Sea} (ho : s.Ok) {l : List Rep} (hl : l.length ≤ 24) : ∀ (j : Nat), j < hrs s → ∀ c, c ∈ cellsL s → MinIs 1048576 (BwP s l (hrs s - 1 - j) c) ((bkR s l j).getD c 0)
  | 0, hj, c, hc => by
    have hh : hrs s - 1 - 0 + 1 = hrs s := by omega
    rw [bkR, setK_at ho _ hc]
    exact ⟨.inr ⟨unN s l (hrs s - 1) c, rfl, (BwP.last hh hc _).2 rfl, fun m h => by rw [(BwP.last hh hc _).1 h]; exact Nat.le_refl _⟩⟩
  | j + 1, hj, c, hc => by
    have hr : hrs s ≤ 12 := by have := ho.hr; unfold hrs; omega
    have hh : hrs s - 1 - (j + 1) + 1 = hrs s - 1 - j := by omega
    rw [bkR, setK_at ho _ hc, show fromB s (hrs s - 1 - (j + 1) : Nat) c = goL s (fun o => stp s (hrs s - 1 - (j + 1)) c o) (cellsL s).length from rfl, leastOf_go]
    have key := (MinIs.fold (BwP s l (hrs s - 1 - j)) (fun o => (bkR s l j).getD o 0) ((cellsL s).filter fun o => stp s (hrs s - 1 - (j + 1)) c o) _ _ (MinIs.none (inf := 1048576)) (fun o ho' => bk_min ho hl j (by omega) o (List.mem_filter.1 ho').1) (fun n h => h.elim) fun o ho' n hn => by have := hn.le hl; omega).add (u := unN s l (hrs s - 1 - (j + 1)) c) (fun n hn => by
      rcases hn with hn | ⟨o, _, hn⟩
      · exact hn.elim
      · have := hn.le hl; have := unN_le s hl (hrs s - 1 - (j + 1)) c; omega)
    exact key.congr fun n => by rw [BwP.succ (by omega) hc, hh]; simp only [false_or]
structure Trk (s : Sea) (T : List Nat) : Prop where
  len : T.length = hrs s
  ok : okW s 0 T
def TrP (s : Sea) (l : List Rep) (h c n : Nat) : Prop := ∃ T, Trk s T ∧ T[h]? = some c ∧ costW s l 0 T = n
theorem TrP.iff {s : Sea} {l : List Rep} {h c : Nat} (n : Nat) : TrP s l h c n ↔ ∃ a b, FwP s l h c a ∧ BwP s l h c b ∧ n + unN s l h c = a + b := by
  constructor
  · rintro ⟨T, ⟨h1, h2⟩, h3, h4⟩
    obtain ⟨hlt, he⟩ := List.getElem?_eq_some_iff.1 h3
    have e : T = T.take h ++ c :: T.drop (h + 1) := by rw [← he, ← List.drop_eq_getElem_cons hlt, List.take_append_drop]
    have ht : (T.take h).length = h := by rw [List.length_take]; omega
    rw [e, okW_app, Nat.zero_add, ht] at h2
    refine ⟨_, _, ⟨T.take h, ht, h2.1, rfl⟩, ⟨T.drop (h + 1), by rw [List.length_drop]; omega, h2.2, rfl⟩, ?_⟩
    have hc : costW s l 0 T = costW s l 0 (T.take h) + costW s l h (c :: T.drop (h + 1)) := by
      have := congrArg (costW s l 0) e
      rw [costW_app, Nat.zero_add, ht] at this; exact this
    have hc2 : costW s l 0 (T.take h ++ [c]) = costW s l 0 (T.take h) + unN s l h c := by rw [costW_app, ht]; simp [costW]
    rw [hc2]; omega
  · rintro ⟨a, b, ⟨t, h1, h2, h3⟩, ⟨u, k1, k2, k3⟩, e⟩
    refine ⟨t ++ c :: u, ⟨by rw [List.length_append, List.length_cons]; omega, (okW_app s t c u 0).2 ⟨h2, by rw [Nat.zero_add, h1]; exact k2⟩⟩, ?_, ?_⟩
    · rw [List.getElem?_append_right (by omega), h1, Nat.sub_self]; rfl
    · rw [costW_app] at h3 ⊢
      rw [Nat.zero_add, h1] at h3 ⊢
      rw [k3]
      simp only [costW, Nat.add_zero] at h3
      omega
theorem thr_min {s : Sea} (ho : s.Ok) {l : List Rep} (hl : l.length ≤ 24) {h : Nat} (hh : h < hrs s) {c : Nat} (hc : c ∈ cellsL s) : MinIs 1048576 (TrP s l h c) ((thrR s l h).getD c 0) := by
  have hr : hrs s ≤ 12 := by have := ho.hr; unfold hrs; omega
  have h1 := fw_min ho hl h hh c hc
  have h2 := bk_min ho hl (hrs s - 1 - h) (by omega) c hc
  rw [show hrs s - 1 - (hrs s - 1 - h) = h by omega] at h2
  have hu := unN_le s hl h c
  rw [thrR, setK_at ho _ hc, thrV, gmin_eq, unN_eq]
  rcases h1.or with ⟨e1, n1⟩ | ⟨a, e1, p1, m1⟩
  · have : (unN s l h c : Int) ≤ (bkR s l (hrs s - 1 - h)).getD c 0 := by
      rcases h2.or with ⟨e2, _⟩ | ⟨b, e2, p2, _⟩
      · omega
      · have := p2.ge; omega
    exact ⟨.inl ⟨by omega, fun n hn => by obtain ⟨a, b, k, _⟩ := (TrP.iff n).1 hn; exact n1 a k⟩⟩
  · have ha := p1.le hl
    rcases h2.or with ⟨e2, n2⟩ | ⟨b, e2, p2, m2⟩
    · have : (unN s l h c : Int) ≤ (fwR s l h).getD c 0 := by
        obtain ⟨t, h3, h4, h5⟩ := p1
        rw [costW_app, h3] at h5
        simp only [costW, Nat.zero_add, Nat.add_zero] at h5
        omega
      exact ⟨.inl ⟨by omega, fun n hn => by obtain ⟨a, b, _, k, _⟩ := (TrP.iff n).1 hn; exact n2 b k⟩⟩
    · have hb := p2.le hl
      have hg := p2.ge
      refine ⟨.inr ⟨a + b - unN s l h c, by omega, (TrP.iff _).2 ⟨a, b, p1, p2, by omega⟩, fun m hm => ?_⟩⟩
      obtain ⟨a', b', k1, k2, k3⟩ := (TrP.iff m).1 hm
      have := m1 a' k1; have := m2 b' k2
      omega
end Go.Proofs.Ytohbjneaaahpcaa

