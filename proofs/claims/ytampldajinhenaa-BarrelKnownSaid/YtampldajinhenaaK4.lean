/- What the proof leans on, part 4: BT B1 B2 B3 B4 B5 B6 B7 B8 B9 B10. -/
import Derived.Test.YtampldajinhenaaK3
import Derived.KernelRfl
import Derived.Test.YtampldajinhenaaProg
set_option linter.all false
namespace Go.Proofs.Ytampldajinhenaa
open Go Go.AL
def tyT : Nat → Ty
  | 1 => .func
  | 2 => .int
  | 3 => .int
  | 4 => .bool
  | 15 => .ptr 156
  | 16 => .ptr 159
  | 17 => .ptr 168
  | 18 => .struct [(17, 0)]
  | 19 => .struct [(17, 0)]
  | 22 => .slice 3
  | 23 => .struct [(22, 0), (3, 1), (3, 2)]
  | 24 => .struct [(22, 0), (3, 1), (3, 2)]
  | 25 => .slice 22
  | 26 => .int
  | 28 => .func
  | 29 => .func
  | 31 => .func
  | 32 => .func
  | 33 => .func
  | 34 => .func
  | 35 => .slice 70
  | 37 => .func
  | 38 => .func
  | 39 => .func
  | 40 => .func
  | 42 => .func
  | 44 => .func
  | 45 => .func
  | 46 => .func
  | 47 => .slice 76
  | 48 => .struct [(3, 0), (47, 1)]
  | 49 => .struct [(3, 0), (47, 1)]
  | 50 => .func
  | 51 => .func
  | 52 => .slice 68
  | 54 => .func
  | 55 => .func
  | 56 => .func
  | 57 => .arr 2 3
  | 58 => .func
  | 59 => .func
  | 60 => .func
  | 61 => .func
  | 62 => .func
  | 63 => .func
  | 64 => .func
  | 65 => .func
  | 66 => .func
  | 67 => .struct [(3, 0), (3, 1)]
  | 68 => .struct [(3, 0), (3, 1)]
  | 69 => .struct [(3, 0), (3, 1), (3, 2), (68, 3)]
  | 70 => .struct [(3, 0), (3, 1), (3, 2), (68, 3)]
  | 71 => .func
  | 72 => .arr 4 3
  | 73 => .func
  | 74 => .func
  | 75 => .struct [(3, 0), (3, 1), (68, 2)]
  | 76 => .struct [(3, 0), (3, 1), (68, 2)]
  | 77 => .func
  | 78 => .func
  | 79 => .func
  | 80 => .func
  | 82 => .func
  | 83 => .func
  | 85 => .func
  | 86 => .func
  | 87 => .func
  | 88 => .arr 3 3
  | 89 => .func
  | 90 => .func
  | 91 => .func
  | 92 => .slice 24
  | 93 => .slice 25
  | 94 => .func
  | 95 => .slice 35
  | 96 => .func
  | 97 => .slice 49
  | 98 => .arr 10 4
  | 99 => .arr 10 4
  | 100 => .struct [(24, 0)]
  | 101 => .struct [(24, 0)]
  | 102 => .func
  | 103 => .func
  | 104 => .func
  | 105 => .func
  | 106 => .map 99 25
  | 107 => .func
  | 109 => .func
  | 110 => .func
  | 111 => .arr 4 3
  | 112 => .func
  | 114 => .func
  | 115 => .struct [(59, 0)]
  | 116 => .struct [(59, 0)]
  | 117 => .func
  | 119 => .func
  | 120 => .struct [(70, 0)]
  | 121 => .struct [(70, 0)]
  | 122 => .func
  | 123 => .func
  | 124 => .map 127 4
  | 125 => .func
  | 126 => .struct [(3, 0), (111, 1)]
  | 127 => .struct [(3, 0), (111, 1)]
  | 128 => .func
  | 129 => .struct [(49, 0)]
  | 130 => .struct [(49, 0)]
  | 131 => .func
  | 133 => .func
  | 134 => .func
  | 135 => .func
  | 136 => .func
  | 137 => .func
  | 138 => .struct [(76, 0)]
  | 139 => .struct [(76, 0)]
  | 140 => .func
  | 141 => .func
  | 142 => .func
  | 143 => .func
  | 144 => .func
  | 145 => .func
  | 146 => .map 3 4
  | 147 => .slice 151
  | 149 => .func
  | 150 => .struct [(3, 0), (4, 1)]
  | 151 => .struct [(3, 0), (4, 1)]
  | 152 => .func
  | 154 => .func
  | 163 => .func
  | 164 => .ptr 5
  | _ => .none
def szT : Nat → Nat
  | 23 => 3
  | 24 => 3
  | 48 => 2
  | 49 => 2
  | 57 => 2
  | 67 => 2
  | 68 => 2
  | 69 => 5
  | 70 => 5
  | 72 => 4
  | 75 => 4
  | 76 => 4
  | 88 => 3
  | 98 => 10
  | 99 => 10
  | 100 => 3
  | 101 => 3
  | 111 => 4
  | 120 => 5
  | 121 => 5
  | 126 => 5
  | 127 => 5
  | 129 => 2
  | 130 => 2
  | 138 => 4
  | 139 => 4
  | 150 => 2
  | 151 => 2
  | _ => 1
def byT : Nat → Nat
  | 1 => 8
  | 2 => 8
  | 3 => 8
  | 4 => 1
  | 15 => 8
  | 16 => 8
  | 17 => 8
  | 18 => 8
  | 19 => 8
  | 22 => 24
  | 23 => 40
  | 24 => 40
  | 25 => 24
  | 26 => 8
  | 28 => 8
  | 29 => 8
  | 31 => 8
  | 32 => 8
  | 33 => 8
  | 34 => 8
  | 35 => 24
  | 37 => 8
  | 38 => 8
  | 39 => 8
  | 40 => 8
  | 42 => 8
  | 44 => 8
  | 45 => 8
  | 46 => 8
  | 47 => 24
  | 48 => 32
  | 49 => 32
  | 50 => 8
  | 51 => 8
  | 52 => 24
  | 54 => 8
  | 55 => 8
  | 56 => 8
  | 57 => 16
  | 58 => 8
  | 59 => 8
  | 60 => 8
  | 61 => 8
  | 62 => 8
  | 63 => 8
  | 64 => 8
  | 65 => 8
  | 66 => 8
  | 67 => 16
  | 68 => 16
  | 69 => 40
  | 70 => 40
  | 71 => 8
  | 72 => 32
  | 73 => 8
  | 74 => 8
  | 75 => 32
  | 76 => 32
  | 77 => 8
  | 78 => 8
  | 79 => 8
  | 80 => 8
  | 82 => 8
  | 83 => 8
  | 85 => 8
  | 86 => 8
  | 87 => 8
  | 88 => 24
  | 89 => 8
  | 90 => 8
  | 91 => 8
  | 92 => 24
  | 93 => 24
  | 94 => 8
  | 95 => 24
  | 96 => 8
  | 97 => 24
  | 98 => 10
  | 99 => 10
  | 100 => 40
  | 101 => 40
  | 102 => 8
  | 103 => 8
  | 104 => 8
  | 105 => 8
  | 106 => 8
  | 107 => 8
  | 109 => 8
  | 110 => 8
  | 111 => 32
  | 112 => 8
  | 114 => 8
  | 115 => 8
  | 116 => 8
  | 117 => 8
  | 119 => 8
  | 120 => 40
  | 121 => 40
  | 122 => 8
  | 123 => 8
  | 124 => 8
  | 125 => 8
  | 126 => 40
  | 127 => 40
  | 128 => 8
  | 129 => 32
  | 130 => 32
  | 131 => 8
  | 133 => 8
  | 134 => 8
  | 135 => 8
  | 136 => 8
  | 137 => 8
  | 138 => 32
  | 139 => 32
  | 140 => 8
  | 141 => 8
  | 142 => 8
  | 143 => 8
  | 144 => 8
  | 145 => 8
  | 146 => 8
  | 147 => 24
  | 149 => 8
  | 150 => 16
  | 151 => 16
  | 152 => 8
  | 154 => 8
  | 163 => 8
  | 164 => 8
  | _ => 0
def zrT : Nat → List A
  | 1 => [.s .nilFunc]
  | 2 => [.s (.int .i64 0)]
  | 3 => [.s (.int .i64 0)]
  | 4 => [.s (.bool false)]
  | 15 => [.s (.pointer none)]
  | 16 => [.s (.pointer none)]
  | 17 => [.s (.pointer none)]
  | 18 => [.s (.pointer none)]
  | 19 => [.s (.pointer none)]
  | 22 => [.sl true .exact []]
  | 23 => [.sl true .exact [], .s (.int .i64 0), .s (.int .i64 0)]
  | 24 => [.sl true .exact [], .s (.int .i64 0), .s (.int .i64 0)]
  | 25 => [.sl true .exact []]
  | 26 => [.s (.int .i64 0)]
  | 28 => [.s .nilFunc]
  | 29 => [.s .nilFunc]
  | 31 => [.s .nilFunc]
  | 32 => [.s .nilFunc]
  | 33 => [.s .nilFunc]
  | 34 => [.s .nilFunc]
  | 35 => [.sl true .exact []]
  | 37 => [.s .nilFunc]
  | 38 => [.s .nilFunc]
  | 39 => [.s .nilFunc]
  | 40 => [.s .nilFunc]
  | 42 => [.s .nilFunc]
  | 44 => [.s .nilFunc]
  | 45 => [.s .nilFunc]
  | 46 => [.s .nilFunc]
  | 47 => [.sl true .exact []]
  | 48 => [.s (.int .i64 0), .sl true .exact []]
  | 49 => [.s (.int .i64 0), .sl true .exact []]
  | 50 => [.s .nilFunc]
  | 51 => [.s .nilFunc]
  | 52 => [.sl true .exact []]
  | 54 => [.s .nilFunc]
  | 55 => [.s .nilFunc]
  | 56 => [.s .nilFunc]
  | 57 => [.s (.int .i64 0), .s (.int .i64 0)]
  | 58 => [.s .nilFunc]
  | 59 => [.s .nilFunc]
  | 60 => [.s .nilFunc]
  | 61 => [.s .nilFunc]
  | 62 => [.s .nilFunc]
  | 63 => [.s .nilFunc]
  | 64 => [.s .nilFunc]
  | 65 => [.s .nilFunc]
  | 66 => [.s .nilFunc]
  | 67 => [.s (.int .i64 0), .s (.int .i64 0)]
  | 68 => [.s (.int .i64 0), .s (.int .i64 0)]
  | 69 => [.s (.int .i64 0), .s (.int .i64 0), .s (.int .i64 0), .s (.int .i64 0), .s (.int .i64 0)]
  | 70 => [.s (.int .i64 0), .s (.int .i64 0), .s (.int .i64 0), .s (.int .i64 0), .s (.int .i64 0)]
  | 71 => [.s .nilFunc]
  | 72 => [.s (.int .i64 0), .s (.int .i64 0), .s (.int .i64 0), .s (.int .i64 0)]
  | 73 => [.s .nilFunc]
  | 74 => [.s .nilFunc]
  | 75 => [.s (.int .i64 0), .s (.int .i64 0), .s (.int .i64 0), .s (.int .i64 0)]
  | 76 => [.s (.int .i64 0), .s (.int .i64 0), .s (.int .i64 0), .s (.int .i64 0)]
  | 77 => [.s .nilFunc]
  | 78 => [.s .nilFunc]
  | 79 => [.s .nilFunc]
  | 80 => [.s .nilFunc]
  | 82 => [.s .nilFunc]
  | 83 => [.s .nilFunc]
  | 85 => [.s .nilFunc]
  | 86 => [.s .nilFunc]
  | 87 => [.s .nilFunc]
  | 88 => [.s (.int .i64 0), .s (.int .i64 0), .s (.int .i64 0)]
  | 89 => [.s .nilFunc]
  | 90 => [.s .nilFunc]
  | 91 => [.s .nilFunc]
  | 92 => [.sl true .exact []]
  | 93 => [.sl true .exact []]
  | 94 => [.s .nilFunc]
  | 95 => [.sl true .exact []]
  | 96 => [.s .nilFunc]
  | 97 => [.sl true .exact []]
  | 98 => [.s (.bool false), .s (.bool false), .s (.bool false), .s (.bool false), .s (.bool false), .s (.bool false), .s (.bool false), .s (.bool false), .s (.bool false), .s (.bool false)]
  | 99 => [.s (.bool false), .s (.bool false), .s (.bool false), .s (.bool false), .s (.bool false), .s (.bool false), .s (.bool false), .s (.bool false), .s (.bool false), .s (.bool false)]
  | 100 => [.sl true .exact [], .s (.int .i64 0), .s (.int .i64 0)]
  | 101 => [.sl true .exact [], .s (.int .i64 0), .s (.int .i64 0)]
  | 102 => [.s .nilFunc]
  | 103 => [.s .nilFunc]
  | 104 => [.s .nilFunc]
  | 105 => [.s .nilFunc]
  | 106 => [.s (.map none)]
  | 107 => [.s .nilFunc]
  | 109 => [.s .nilFunc]
  | 110 => [.s .nilFunc]
  | 111 => [.s (.int .i64 0), .s (.int .i64 0), .s (.int .i64 0), .s (.int .i64 0)]
  | 112 => [.s .nilFunc]
  | 114 => [.s .nilFunc]
  | 115 => [.s .nilFunc]
  | 116 => [.s .nilFunc]
  | 117 => [.s .nilFunc]
  | 119 => [.s .nilFunc]
  | 120 => [.s (.int .i64 0), .s (.int .i64 0), .s (.int .i64 0), .s (.int .i64 0), .s (.int .i64 0)]
  | 121 => [.s (.int .i64 0), .s (.int .i64 0), .s (.int .i64 0), .s (.int .i64 0), .s (.int .i64 0)]
  | 122 => [.s .nilFunc]
  | 123 => [.s .nilFunc]
  | 124 => [.s (.map none)]
  | 125 => [.s .nilFunc]
  | 126 => [.s (.int .i64 0), .s (.int .i64 0), .s (.int .i64 0), .s (.int .i64 0), .s (.int .i64 0)]
  | 127 => [.s (.int .i64 0), .s (.int .i64 0), .s (.int .i64 0), .s (.int .i64 0), .s (.int .i64 0)]
  | 128 => [.s .nilFunc]
  | 129 => [.s (.int .i64 0), .sl true .exact []]
  | 130 => [.s (.int .i64 0), .sl true .exact []]
  | 131 => [.s .nilFunc]
  | 133 => [.s .nilFunc]
  | 134 => [.s .nilFunc]
  | 135 => [.s .nilFunc]
  | 136 => [.s .nilFunc]
  | 137 => [.s .nilFunc]
  | 138 => [.s (.int .i64 0), .s (.int .i64 0), .s (.int .i64 0), .s (.int .i64 0)]
  | 139 => [.s (.int .i64 0), .s (.int .i64 0), .s (.int .i64 0), .s (.int .i64 0)]
  | 140 => [.s .nilFunc]
  | 141 => [.s .nilFunc]
  | 142 => [.s .nilFunc]
  | 143 => [.s .nilFunc]
  | 144 => [.s .nilFunc]
  | 145 => [.s .nilFunc]
  | 146 => [.s (.map none)]
  | 147 => [.sl true .exact []]
  | 149 => [.s .nilFunc]
  | 150 => [.s (.int .i64 0), .s (.bool false)]
  | 151 => [.s (.int .i64 0), .s (.bool false)]
  | 152 => [.s .nilFunc]
  | 154 => [.s .nilFunc]
  | 163 => [.s .nilFunc]
  | 164 => [.s (.pointer none)]
  | _ => []
noncomputable def tab : Tab := ⟨tyT, szT, byT, zrT, pureEq Try.prog, findIx Try.prog, keyOk Try.prog⟩
theorem tyT_none : ∀ t, 170 ≤ t → tyT t = .none := by
  intro t h
  unfold tyT
  split <;> first | rfl | omega
theorem tab_chk : ((List.range 170).all fun t => tab.chkAt Try.prog t) = true := by kernel_rfl
theorem tab_ok : tab.Ok Try.prog := Tab.ok_of tab_chk tyT_none (by kernel_rfl) (by kernel_rfl) (by kernel_rfl)
end Go.Proofs.Ytampldajinhenaa

namespace Go.Proofs.Ytampldajinhenaa
open Go Go.AL Go.AL.Q
def mb0 : Nat → Bool := fun _ => false
theorem mixed : Try.prog.follows .mixedOrders = true := by kernel_rfl
theorem told {f : Nat} {fn : Func} {c : Code} {args : List A} {v : A} (hf : Try.prog.funcs[f]? = some fn) (hb : fn.body = some c) (hn : enterOk fn = true) (h : Pure Try.prog f args v) : Ans Try.prog f args v := ⟨enters_of hf hb hn, h⟩
theorem within_t (n a b : Int) : Ans Try.prog 62 [.int n, .int a, .int b] (.bool (wi n a b)) := by
  refine told Try.func62 rfl rfl (Pure.of tab_ok Try.func62 rfl Try.ntmps62 rfl (allC (.s _) (allC (.s _) (all1 (.s _)))) (allC (fun _ => rfl) (allC (fun _ => rfl) (all1 (fun _ => rfl)))) (by first | exact .s _ | assumption | exact .tup _ (by intro x hx; simp only [List.mem_cons, List.not_mem_nil, or_false] at hx; rcases hx with rfl | rfl | rfl | rfl <;> first | exact .s _ | (simp_all; done))) fun E hE => ?_)
  refine Aw.sm tab_ok mb0 [] rfl rfl ?zo ?zk
  case zo =>
    repeat' apply AllP.cons
    all_goals first | exact trivial
  case zk =>
  refine Aw.sm tab_ok mb0 [] rfl rfl ?zo ?zk
  case zo =>
    repeat' apply AllP.cons
    all_goals first | exact trivial | exact id | exact fun _ => rfl
  case zk =>
  exact Aw.ret ⟨_, .cons (.tmp _) .nil, rfl⟩
theorem same_t (p q : Bool) (a b : List Int) (hl : (a.length : Int) ≤ 9223372036854775806) : Ans Try.prog 25 [.sl p .any (ints a), .sl q .any (ints b)] (.bool (a == b)) := by
  refine told Try.func25 rfl rfl (Pure.of tab_ok Try.func25 rfl Try.ntmps25 rfl (allC (free_ints _ _ _) (all1 (free_ints _ _ _))) (allC (fun _ => rfl) (all1 (fun _ => rfl))) (by first | exact .s _ | assumption | exact .tup _ (by intro x hx; simp only [List.mem_cons, List.not_mem_nil, or_false] at hx; rcases hx with rfl | rfl | rfl | rfl <;> first | exact .s _ | (simp_all; done))) fun E hE => ?_)
  have za := ints_lenI a
  have zb := ints_lenI b
  refine Aw.sm tab_ok mb0 [] rfl rfl ?zo ?zk
  case zo =>
    repeat' apply AllP.cons
    all_goals first | exact trivial
  case zk =>
  refine Aw.seq ?_
  refine Aw.sm tab_ok mb0 [] rfl rfl ?zo ?zk
  case zo =>
    repeat' apply AllP.cons
    all_goals first | exact trivial
  case zk =>
  refine Aw.cond rfl (fun h1 => ?_) (fun h1 => Aw.skip ?_)
  · have h1 : (((ints a).length : Int) != ((ints b).length : Int)) = true := h1
    have hne : (a == b) = false := by
      cases e : (a == b) with
      | false => rfl
      | true => rw [za, zb, eq_of_beq e] at h1; simp at h1
    rw [hne]
    refine Aw.sm tab_ok mb0 [] rfl rfl ?zo ?zk
    case zo =>
      repeat' apply AllP.cons
      all_goals first | exact trivial
    case zk =>
    exact Aw.ret ⟨_, .cons (.tmp _) .nil, rfl⟩
  have h1 : (((ints a).length : Int) != ((ints b).length : Int)) = false := h1
  have hlen : a.length = b.length := by
    rw [za, zb] at h1; simp at h1; omega
  generalize hR : (a == b) = R
  have ua : Under 0 (A.sl p .any (ints a)) := (free_ints _ _ _).under
  have ub : Under 0 (A.sl q .any (ints b)) := (free_ints _ _ _).under
  refine Aw.seq ?_
  refine Aw.sm tab_ok mb0 [] rfl rfl ?zo ?zk
  case zo =>
    repeat' apply AllP.cons
    all_goals first | exact trivial
  case zk =>
  refine Aw.block (Aw.rounds 0 hE [(0, .sl p .any (ints a)), (1, .sl q .any (ints b))] (fun k : Nat => [(5, .int k)]) (fun _ => []) (fun k => k ≤ a.length ∧ (a.drop k == b.drop k) = R) (fun k => a.length - k) 0
    ⟨Nat.zero_le _, by simpa using hR⟩ ⟨⟨.refl _, .refl _, trivial⟩, ⟨.refl _, trivial⟩, trivial, Nat.le_refl _⟩ ⟨ua, ub, trivial⟩ (fun _ _ => ⟨.s _, trivial⟩) (fun _ _ => trivial) ?_)
  rintro k ⟨hk, hrun⟩
  refine Aw.seq ?_
  refine Aw.sm tab_ok mb0 [] rfl rfl ?zo ?zk
  case zo =>
    repeat' apply AllP.cons
    all_goals first | exact trivial
  case zk =>
  refine Aw.cond rfl (fun h2 => Aw.skip ?_) (fun h2 => ?_)
  · have hlt : k < a.length := by have := of_decide_eq_true h2; omega
    have hlb : k < b.length := by omega
    rw [List.drop_eq_getElem_cons hlt, List.drop_eq_getElem_cons hlb, List.cons_beq_cons] at hrun
    refine Aw.seq (Aw.block ?_)
    refine Aw.sd tab_ok mixed mb0 [(2, [.int a[k]]), (6, [.int b[k]])] rfl (by kernel_rfl) rfl rfl ?zo ?zk
    case zo =>
      repeat' apply AllP.cons
      all_goals first | exact trivial | exact rfl | exact Nat.le_of_ble_eq_true rfl | exact Int.natCast_nonneg _ | exact ints_get hlt | exact ints_get hlb
    case zk =>
    refine Aw.cond rfl (fun h3 => ?_) (fun h3 => Aw.skip ?_)
    · have h3 : (a[k] != b[k]) = true := h3
      have h4 : (a[k] == b[k]) = false := by simpa using h3
      have : R = false := by rw [← hrun, h4]; rfl
      subst this
      refine Aw.sm tab_ok mb0 [] rfl rfl ?zo ?zk
      case zo =>
        repeat' apply AllP.cons
        all_goals first | exact trivial
      case zk =>
      exact Aw.ret ⟨_, .cons (.tmp _) .nil, rfl⟩
    · have h3 : (a[k] != b[k]) = false := h3
      have h4 : (a[k] == b[k]) = true := by simpa using h3
      rw [h4, Bool.true_and] at hrun
      refine Aw.em tab_ok mb0 [] rfl rfl ?zo ?zk
      case zo =>
        repeat' apply AllP.cons
        all_goals first | exact trivial | exact inrk k (by omega)
      case zk =>
      exact ⟨k + 1, ⟨hlt, hrun⟩, by omega, ⟨.refl _, .refl _, trivial⟩, ⟨.refl _, trivial⟩, trivial, Nat.zero_le _⟩
  · have hend : k = a.length := by have := of_decide_eq_false h2; omega
    have : R = true := by rw [← hrun, hend, List.drop_length, hlen, List.drop_length]; rfl
    subst this
    refine Aw.exit2 ?_
    refine Aw.sm tab_ok mb0 [] rfl rfl ?zo ?zk
    case zo =>
      repeat' apply AllP.cons
      all_goals first | exact trivial
    case zk =>
    exact Aw.ret ⟨_, .cons (.tmp _) .nil, rfl⟩
theorem spanned_t (lo hi n : Int) : Ans Try.prog 76 [.agg [.int lo, .int hi], .int n] (.bool (spannedF lo hi 0 n)) := by
  have e : spannedF lo hi 0 n = cond (cond (decide (0 ≤ lo)) (decide (lo ≤ hi)) false) (decide (hi ≤ n)) false := by
    rw [Bool.eq_iff_iff]
    simp only [spannedF, c_and, Bool.and_eq_true, wi_iff, decide_eq_true_eq]
    omega
  rw [e]
  refine told Try.func76 rfl rfl (Pure.of tab_ok Try.func76 rfl Try.ntmps76 rfl (allC (.agg _ (allC (.s _) (all1 (.s _)))) (all1 (.s _))) (allC (fun _ => rfl) (all1 (fun _ => rfl))) (by first | exact .s _ | assumption | exact .tup _ (by intro x hx; simp only [List.mem_cons, List.not_mem_nil, or_false] at hx; rcases hx with rfl | rfl | rfl | rfl <;> first | exact .s _ | (simp_all; done))) fun E hE => ?_)
  refine Aw.sm tab_ok mb0 [] rfl rfl ?zo ?zk
  case zo =>
    repeat' apply AllP.cons
    all_goals first | exact trivial
  case zk =>
  refine Aw.sm tab_ok mb0 [] rfl rfl ?zo ?zk
  case zo =>
    repeat' apply AllP.cons
    all_goals first | exact trivial | exact id | exact fun _ => rfl | exact Nat.le_of_ble_eq_true rfl | exact fun _ => Nat.le_of_ble_eq_true rfl
  case zk =>
  exact Aw.ret ⟨_, .cons (.tmp _) .nil, rfl⟩
theorem sum_t (b : Bool) (c : Cap) (l : List Int) (hl : (l.length : Int) ≤ 9223372036854775806) (h : ∀ k, k ≤ l.length → inR (l.take k).sum) (hc : ∀ u, spareOf (.sl b c (ints l)) u = none) : Ans Try.prog 90 [.sl b c (ints l)] (.int l.sum) := by
  refine told Try.func90 rfl rfl (Pure.of tab_ok Try.func90 rfl Try.ntmps90 rfl (all1 (free_ints _ _ _)) (all1 hc) (.s _) fun E hE => ?_)
  refine Aw.keep (n := 0) (cst := []) (v := [(0, .sl b .any (ints l))]) (Hl := []) hE trivial ⟨(free_ints _ _ _).under, trivial⟩ trivial ⟨trivial, ⟨.any _ _ _, trivial⟩, trivial, Nat.le_refl _⟩ ?_
  refine Aw.sm tab_ok mb0 [] rfl rfl ?zo ?zk
  case zo =>
    repeat' apply AllP.cons
    all_goals first | exact trivial
  case zk =>
  refine Aw.seq ?_
  refine Aw.sm tab_ok mb0 [] rfl rfl ?zo ?zk
  case zo =>
    repeat' apply AllP.cons
    all_goals first | exact trivial
  case zk =>
  have hlen : (ints l).length = l.length := by simp [ints]
  refine Aw.block (Aw.rounds 0 hE [(5, .sl b .any (ints l)), (6, .int (ints l).length)] (fun k : Nat => [(2, .int (l.take k).sum), (7, .int k)]) (fun _ => []) (fun k => k ≤ l.length) (fun k => l.length - k) 0
    (Nat.zero_le _) ⟨⟨.refl _, .refl _, trivial⟩, ⟨.refl _, .refl _, trivial⟩, trivial, Nat.le_refl _⟩ ⟨(free_ints _ _ _).under, .s _, trivial⟩ (fun _ _ => ⟨.s _, .s _, trivial⟩) (fun _ _ => trivial) fun k hk => ?_)
  refine Aw.sm tab_ok mb0 [] rfl rfl ?zo ?zk
  case zo =>
    repeat' apply AllP.cons
    all_goals first | exact trivial
  case zk =>
  refine Aw.seq (Aw.cond rfl (fun h1 => Aw.skip1 ?_) (fun h1 => Aw.exit2 ?_))
  · have hlt : k < l.length := by have := of_decide_eq_true h1; omega
    have ht := sum_take_succ hlt
    refine Aw.seq (Aw.block ?_)
    refine Aw.sm tab_ok mb0 [(0, [.int l[k]])] rfl rfl ?zo ?zk
    case zo =>
      repeat' apply AllP.cons
      all_goals first | exact trivial | exact rfl | exact Nat.le_of_ble_eq_true rfl | exact Int.natCast_nonneg _ | exact ints_get hlt
    case zk =>
    refine Aw.em tab_ok mb0 [] rfl rfl ?zo ?zk
    case zo =>
      repeat' apply AllP.cons
      all_goals first | exact trivial | exact ht ▸ h (k + 1) hlt
    case zk =>
    refine Aw.em tab_ok mb0 [] rfl rfl ?zo ?zk
    case zo =>
      repeat' apply AllP.cons
      all_goals first | exact trivial | exact inrk k (by omega)
    case zk =>
    exact ⟨k + 1, hlt, by omega, ⟨.refl _, .refl _, trivial⟩, ⟨.of_eq (by rw [ht]; rfl), .refl _, trivial⟩, trivial, Nat.le_refl _⟩
  · have hle : k = l.length := by have := of_decide_eq_false h1; omega
    subst hle
    refine Aw.sm tab_ok mb0 [] rfl rfl ?zo ?zk
    case zo =>
      repeat' apply AllP.cons
      all_goals first | exact trivial
    case zk =>
    exact Aw.ret ⟨_, .cons (.tmp _) .nil, by rw [List.take_length]; rfl⟩
theorem sum_g (l : List Int) (b : Int) (hl : l.length ≤ 1000) (hb : b ≤ 1000000000000) (h : ∀ x ∈ l, 0 ≤ x ∧ x ≤ b) : ∀ k, k ≤ l.length → inR (l.take k).sum := fun k _ => by
  have h1 := sum_bd (l := l.take k) fun x hx => h x (List.mem_of_mem_take hx)
  have h2 : (l.take k).length ≤ 1000 := by rw [List.length_take]; omega
  have h3 : b * ((l.take k).length : Int) ≤ 1000000000000 * ((l.take k).length : Int) := Int.mul_le_mul_of_nonneg_right hb (by omega)
  have h4 : 1000000000000 * ((l.take k).length : Int) ≤ 1000000000000 * 1000 := Int.mul_le_mul_of_nonneg_left (by omega) (by omega)
  simp only [inR]; omega
theorem sum_out (l : List Int) (h : ∀ k, k ≤ l.length → inR (l.take k).sum) (hl : l.length ≤ 1000) : Ans Try.prog 90 [outA l] (.int l.sum) := by
  cases l with
  | nil => exact sum_t true .exact [] (by simp) (fun _ _ => by simp [inR]) (fun _ => rfl)
  | cons x l => exact sum_t false .any (x :: l) (by simp at hl ⊢; omega) h (fun _ => rfl)
theorem sp_beq (s t : Sp) : (s == t) = (s.lo == t.lo && s.hi == t.hi) := by
  obtain ⟨a, b⟩ := s
  obtain ⟨c, d⟩ := t
  rw [Bool.eq_iff_iff]
  simp only [beq_iff_eq, Bool.and_eq_true, Sp.mk.injEq]
theorem to_t (a b : Int) : Ans Try.prog 51 [.int a, .int b] (.agg (Sp.c ⟨a, b⟩)) := by
  have hfr : Free (.agg (Sp.c ⟨a, b⟩)) := .agg _ (Sp.free _)
  refine told Try.func51 rfl rfl (Pure.of tab_ok Try.func51 rfl Try.ntmps51 rfl (allC (.s _) (all1 (.s _))) (allC (fun _ => rfl) (all1 (fun _ => rfl))) (by first | exact .s _ | assumption | exact .tup _ (by intro x hx; simp only [List.mem_cons, List.not_mem_nil, or_false] at hx; rcases hx with rfl | rfl | rfl | rfl <;> first | exact .s _ | (simp_all; done))) fun E hE => ?_)
  refine Aw.sm tab_ok mb0 [] rfl rfl ?zo ?zk
  case zo =>
    repeat' apply AllP.cons
    all_goals first | exact trivial
  case zk =>
  refine Aw.sm tab_ok mb0 [] rfl rfl ?zo ?zk
  case zo =>
    repeat' apply AllP.cons
    all_goals first | exact trivial | exact rfl | exact Nat.le_of_ble_eq_true rfl
  case zk =>
  exact Aw.ret ⟨_, .cons (resC rfl rfl (by decide) rfl rfl) .nil, rfl⟩
end Go.Proofs.Ytampldajinhenaa

namespace Go.Proofs.Ytampldajinhenaa
open Go Go.AL Go.AL.Q Go.AL.Br
theorem wide_t (n : Int) : Ans Try.prog 67 [.int n] (.bool (!stOk n)) := by
  refine told Try.func67 rfl rfl (Pure.of tab_ok Try.func67 rfl Try.ntmps67 rfl (all1 (.s _)) (all1 (fun _ => rfl)) (by first | exact .s _ | assumption | exact .tup _ (by intro x hx; simp only [List.mem_cons, List.not_mem_nil, or_false] at hx; rcases hx with rfl | rfl | rfl | rfl <;> first | exact .s _ | (simp_all; done))) fun E hE => ?_)
  refine Aw.sm tab_ok mb0 [] rfl rfl ?zo ?zk
  case zo =>
    repeat' apply AllP.cons
    all_goals first | exact trivial
  case zk =>
  refine Aw.sm tab_ok mb0 [(1, [.bool (stOk n)])] rfl rfl ?zo ?zk
  case zo =>
    repeat' apply AllP.cons
    all_goals first | exact trivial | exact within_t _ _ _
  case zk =>
  exact Aw.ret ⟨_, .cons (.tmp _) .nil, rfl⟩
def idxF (p : Int → Bool) : Nat → List Int → Int
  | _, [] => -1
  | k, x :: l => if p x then k else idxF p (k + 1) l
theorem idxF_nn {p : Int → Bool} : ∀ (l : List Int) (k : Nat), decide (idxF p k l ≥ 0) = l.any p
  | [], k => rfl
  | x :: l, k => by
    rw [idxF, List.any_cons]
    cases h : p x with
    | true => simp
    | false => simpa using idxF_nn l (k + 1)
theorem index_t (f : Nat) (p : Int → Bool) (hf : ∀ n, Ans Try.prog f [.int n] (.bool (p n))) (b : Bool) (l : List Int) (hl : (l.length : Int) ≤ 9223372036854775806) : Ans Try.prog 92 [.sl b .any (ints l), .fn (.func f) [] []] (.int (idxF p 0 l)) := by
  have ll := ints_lenI l
  have ul : ∀ {m : Nat}, Under m (A.sl b .any (ints l)) := (free_ints _ _ _).under
  have hfn : Free (.fn (.func f) [] []) := .fn _ _ _ allN allN
  have uf : ∀ {m : Nat}, Under m (A.fn (.func f) [] []) := hfn.under
  refine told Try.func92 rfl rfl (Pure.of tab_ok Try.func92 rfl Try.ntmps92 rfl (allC (free_ints _ _ _) (all1 (hfn))) (allC (fun _ => rfl) (all1 (fun _ => rfl))) (by first | exact .s _ | assumption | exact .tup _ (by intro x hx; simp only [List.mem_cons, List.not_mem_nil, or_false] at hx; rcases hx with rfl | rfl | rfl | rfl <;> first | exact .s _ | (simp_all; done))) fun E hE => ?_)
  refine Aw.sm tab_ok mb0 [] rfl rfl ?zo ?zk
  case zo =>
    repeat' apply AllP.cons
    all_goals first | exact trivial
  case zk =>
  refine Aw.seq ?_
  refine Aw.sm tab_ok mb0 [] rfl rfl ?zo ?zk
  case zo =>
    repeat' apply AllP.cons
    all_goals first | exact trivial
  case zk =>
  refine Aw.block (Aw.rounds 0 hE [(0, .sl b .any (ints l)), (1, .fn (.func f) [] []), (7, .int l.length)] (fun k : Nat => [(8, .int k)]) (fun k => []) (fun k => k ≤ l.length ∧ idxF p 0 l = idxF p k (l.drop k)) (fun k => l.length - k) 0 ?zg ⟨?zc, ?zv, ?zh, Nat.le_of_ble_eq_true rfl⟩ ?zu (fun k zhk => ?zw) (fun k zhk => ?zx) fun k hk => ?zr)
  case zg =>
    (repeat' (first | exact ⟨Nat.zero_le _, rfl⟩))
  case zc =>
    (repeat' (first | (refine And.intro ?_ ?_) | exact trivial | exact A.Le.refl _ | exact .of_eq (congrArg A.int ll.symm)))
  case zv =>
    (repeat' (first | (refine And.intro ?_ ?_) | exact trivial | exact A.Le.refl _))
  case zh =>
    (repeat' (first | exact trivial))
  case zu =>
    (repeat' (first | exact trivial | exact Under.s _ | exact (free_ints _ _ _).under | exact uf | (refine And.intro ?_ ?_)))
  case zw =>
    (repeat' (first | exact trivial | exact Under.s _ | (refine And.intro ?_ ?_)))
  case zx =>
    (repeat' (first | exact trivial))
  case zr =>
  obtain ⟨hk, he⟩ := hk
  refine Aw.sm tab_ok mb0 [] rfl rfl ?zo ?zk
  case zo =>
    repeat' apply AllP.cons
    all_goals first | exact trivial
  case zk =>
  refine Aw.seq (Aw.cond rfl (fun h1 => Aw.skip1 ?_) (fun h1 => Aw.exit2 ?_))
  · have hlt : k < l.length := by have := of_decide_eq_true h1; omega
    have hd : l.drop k = l[k] :: l.drop (k + 1) := List.drop_eq_getElem_cons hlt
    rw [hd, idxF] at he
    refine Aw.seq (Aw.block ?_)
    refine Aw.sm tab_ok mb0 [] rfl rfl ?zo ?zk
    case zo =>
      repeat' apply AllP.cons
      all_goals first | exact trivial
    case zk =>
    refine Aw.sm tab_ok mb0 [(3, [.int l[k]]), (5, [.bool (p l[k])])] rfl rfl ?zo ?zk
    case zo =>
      repeat' apply AllP.cons
      all_goals first | exact trivial | exact rfl | exact Nat.le_of_ble_eq_true rfl | exact Int.natCast_nonneg _ | exact ints_get hlt | exact hf _
    case zk =>
    refine Aw.cond rfl (fun h2 => ?_) (fun h2 => Aw.skip ?_)
    · have h2 : p l[k] = true := h2
      rw [if_pos h2] at he
      refine Aw.sm tab_ok mb0 [] rfl rfl ?zo ?zk
      case zo =>
        repeat' apply AllP.cons
        all_goals first | exact trivial
      case zk =>
      exact Aw.ret ⟨_, .cons (.tmp _) .nil, congrArg A.int he.symm⟩
    · have h2 : p l[k] = false := h2
      rw [h2] at he
      refine Aw.em tab_ok mb0 [] rfl rfl ?zo ?zk
      case zo =>
        repeat' apply AllP.cons
        all_goals first | exact trivial | exact inrk k (by omega)
      case zk =>
      refine ⟨k + 1, ?zg, ?zm, ⟨?zc, ?zv, ?zh, Nat.le_of_ble_eq_true rfl⟩⟩
      case zg =>
        (repeat' (first | exact ⟨hlt, he⟩))
      case zm =>
        (repeat' (first | omega))
      case zc =>
        (repeat' (first | (refine And.intro ?_ ?_) | exact trivial | exact A.Le.refl _))
      case zv =>
        (repeat' (first | (refine And.intro ?_ ?_) | exact trivial | exact A.Le.refl _))
      case zh =>
        (repeat' (first | exact trivial))
  have hle : k = l.length := by have := of_decide_eq_false h1; omega
  subst hle
  rw [List.drop_length] at he
  refine Aw.sm tab_ok mb0 [] rfl rfl ?zo ?zk
  case zo =>
    repeat' apply AllP.cons
    all_goals first | exact trivial
  case zk =>
  exact Aw.ret ⟨_, .cons (.tmp _) .nil, congrArg A.int he.symm⟩
theorem contains_t (f : Nat) (p : Int → Bool) (hf : ∀ n, Ans Try.prog f [.int n] (.bool (p n))) (b : Bool) (l : List Int) (hl : (l.length : Int) ≤ 9223372036854775806) : Ans Try.prog 66 [.sl b .any (ints l), .fn (.func f) [] []] (.bool (l.any p)) := by
  have hfn : Free (.fn (.func f) [] []) := .fn _ _ _ allN allN
  have e := idxF_nn (p := p) l 0
  refine told Try.func66 rfl rfl (Pure.of tab_ok Try.func66 rfl Try.ntmps66 rfl (allC (free_ints _ _ _) (all1 (hfn))) (allC (fun _ => rfl) (all1 (fun _ => rfl))) (by first | exact .s _ | assumption | exact .tup _ (by intro x hx; simp only [List.mem_cons, List.not_mem_nil, or_false] at hx; rcases hx with rfl | rfl | rfl | rfl <;> first | exact .s _ | (simp_all; done))) fun E hE => ?_)
  refine Aw.sm tab_ok mb0 [] rfl rfl ?zo ?zk
  case zo =>
    repeat' apply AllP.cons
    all_goals first | exact trivial
  case zk =>
  refine Aw.sm tab_ok mb0 [(2, [.int (idxF p 0 l)])] rfl rfl ?zo ?zk
  case zo =>
    repeat' apply AllP.cons
    all_goals first | exact trivial | exact index_t f p hf b l hl
  case zk =>
  exact Aw.ret ⟨_, .cons (.tmp _) .nil, congrArg A.bool e⟩
theorem any_not {p : Int → Bool} (l : List Int) : (l.any fun n => !p n) = !l.all p := by
  induction l with
  | nil => rfl
  | cons x l ih => rw [List.any_cons, List.all_cons, ih]; cases p x <;> rfl
theorem pile_t (p : Pile) (hl : (p.st.length : Int) ≤ 9223372036854775806) : Ans Try.prog 18 [.agg p.c] (.int p.chk) := by
  have ll := ints_lenI p.st
  have hany := contains_t 67 (fun n => !stOk n) wide_t p.nn p.st hl
  rw [any_not] at hany
  have hch : p.chk = if (cond (!wi p.st.length 1 10) true (cond (!wi p.girth 1 5000) true (cond (!wi p.play 0 100) true (!p.st.all stOk)))) = true then 60 else 0 := by
    unfold Pile.chk Pile.ok
    cases wi p.st.length 1 10 <;> cases wi p.girth 1 5000 <;> cases wi p.play 0 100 <;> cases p.st.all stOk <;> rfl
  refine told Try.func18 rfl rfl (Pure.of tab_ok Try.func18 rfl Try.ntmps18 rfl (all1 (.agg _ p.free)) (all1 (fun _ => rfl)) (by first | exact .s _ | assumption | exact .tup _ (by intro x hx; simp only [List.mem_cons, List.not_mem_nil, or_false] at hx; rcases hx with rfl | rfl | rfl | rfl <;> first | exact .s _ | (simp_all; done))) fun E hE => ?_)
  refine Aw.sm tab_ok mb0 [] rfl rfl ?zo ?zk
  case zo =>
    repeat' apply AllP.cons
    all_goals first | exact trivial
  case zk =>
  refine Aw.seq ?_
  refine Aw.sm tab_ok mb0 [(3, [.bool (wi p.st.length 1 10)]), (8, [.bool (wi p.girth 1 5000)]), (14, [.bool (wi p.play 0 100)]), (20, [.bool (!p.st.all stOk)])] rfl rfl ?zo ?zk
  case zo =>
    repeat' apply AllP.cons
    all_goals first | exact trivial | exact id | exact fun _ => rfl | exact Nat.le_of_ble_eq_true rfl | exact fun _ => Nat.le_of_ble_eq_true rfl | exact (within_t _ _ _).un | exact gq_f | exact (by rw [ll]; exact within_t _ _ _) | exact fun _ => hany
  case zk =>
  rw [hch]
  cases wi p.st.length 1 10 <;> cases wi p.girth 1 5000 <;> cases wi p.play 0 100 <;> cases p.st.all stOk
  all_goals first
  | (refine Aw.cond rfl (fun h => ?_) (fun h => by cases h)
     refine Aw.sm tab_ok mb0 [] rfl rfl ?zo ?zk
     case zo =>
       repeat' apply AllP.cons
       all_goals first | exact trivial
     case zk =>
     exact Aw.ret ⟨_, .cons (.tmp _) .nil, rfl⟩)
  | (refine Aw.cond rfl (fun h => by cases h) (fun _ => Aw.skip ?_)
     refine Aw.sm tab_ok mb0 [] rfl rfl ?zo ?zk
     case zo =>
       repeat' apply AllP.cons
       all_goals first | exact trivial
     case zk =>
     exact Aw.ret ⟨_, .cons (.tmp _) .nil, rfl⟩)
theorem c4 (a b c d e : Bool) : cond a (cond (cond (cond b c false) d false) e false) false = cond (cond (cond (cond a b false) c false) d false) e false := by cases a <;> cases b <;> cases c <;> cases d <;> rfl
theorem yard_chk (y : List Cask) (b : Bool) (hl : (y.length : Int) ≤ 9223372036854775806) : Ans Try.prog 26 [.sl b .any (y.map Cask.c)] (.int (yardChk y)) := by
  have ll : ((y.map Cask.c).length : Int) = y.length := by simp
  have fy : Free (.sl b .any (y.map Cask.c)) := free_map Cask.free _ _ _
  have uy : ∀ {m : Nat}, Under m (A.sl b .any (y.map Cask.c)) := fy.under
  refine told Try.func26 rfl rfl (Pure.of tab_ok Try.func26 rfl Try.ntmps26 rfl (all1 (fy)) (all1 (fun _ => rfl)) (by first | exact .s _ | assumption | exact .tup _ (by intro x hx; simp only [List.mem_cons, List.not_mem_nil, or_false] at hx; rcases hx with rfl | rfl | rfl | rfl <;> first | exact .s _ | (simp_all; done))) fun E hE => ?_)
  refine Aw.sm tab_ok mb0 [] rfl rfl ?zo ?zk
  case zo =>
    repeat' apply AllP.cons
    all_goals first | exact trivial
  case zk =>
  refine Aw.sm tab_ok mb0 [(2, [.bool (wi y.length 1 4)])] rfl rfl ?zo ?zk
  case zo =>
    repeat' apply AllP.cons
    all_goals first | exact trivial | exact (by rw [ll]; exact within_t _ _ _)
  case zk =>
  refine Aw.seq ?_
  refine Aw.sm tab_ok mb0 [] rfl rfl ?zo ?zk
  case zo =>
    repeat' apply AllP.cons
    all_goals first | exact trivial
  case zk =>
  refine Aw.block (Aw.rounds 0 hE [(10, .sl b .any (y.map Cask.c)), (11, .int y.length)] (fun k : Nat => [(3, .bool (andAll (wi y.length 1 4) Cask.ok y k)), (12, .int k)]) (fun k => []) (fun k => k ≤ y.length) (fun k => y.length - k) 0 ?zg ⟨?zc, ?zv, ?zh, Nat.le_of_ble_eq_true rfl⟩ ?zu (fun k zhk => ?zw) (fun k zhk => ?zx) fun k hk => ?zr)
  case zg =>
    (repeat' (first | exact Nat.zero_le _))
  case zc =>
    (repeat' (first | (refine And.intro ?_ ?_) | exact trivial | exact A.Le.refl _ | exact .of_eq (congrArg A.int ll.symm)))
  case zv =>
    (repeat' (first | (refine And.intro ?_ ?_) | exact trivial | exact A.Le.refl _ | exact .of_eq (by rw [andAll_zero]; rfl)))
  case zh =>
    (repeat' (first | exact trivial))
  case zu =>
    (repeat' (first | exact trivial | exact Under.s _ | exact uy | (refine And.intro ?_ ?_)))
  case zw =>
    (repeat' (first | exact trivial | exact Under.s _ | (refine And.intro ?_ ?_)))
  case zx =>
    (repeat' (first | exact trivial))
  case zr =>
  refine Aw.sm tab_ok mb0 [] rfl rfl ?zo ?zk
  case zo =>
    repeat' apply AllP.cons
    all_goals first | exact trivial
  case zk =>
  refine Aw.seq (Aw.cond rfl (fun h1 => Aw.skip1 ?_) (fun h1 => Aw.exit2 ?_))
  · have hlt : k < y.length := by have := of_decide_eq_true h1; omega
    have hst := andAll_step (b := wi y.length 1 4) (p := Cask.ok) hlt
    have hg := get_map (f := Cask.c) hlt
    generalize y[k] = c at *
    refine Aw.seq (Aw.block ?_)
    refine Aw.sm tab_ok mb0 [(0, c.c)] rfl rfl ?zo ?zk
    case zo =>
      repeat' apply AllP.cons
      all_goals first | exact trivial | exact rfl | exact Nat.le_of_ble_eq_true rfl | exact Int.natCast_nonneg _ | exact hg
    case zk =>
    refine Aw.sm tab_ok mb0 [] rfl rfl ?zo ?zk
    case zo =>
      repeat' apply AllP.cons
      all_goals first | exact trivial | exact rfl | exact Nat.le_of_ble_eq_true rfl
    case zk =>
    refine Aw.em tab_ok mb0 [(5, [.bool (wi c.full 1 1000)]), (14, [.bool (wi c.level 0 c.full)]), (23, [.bool (wi c.line 0 c.full)]), (29, [.bool (spannedF c.lo c.hi 0 1000)])] rfl rfl ?zo ?zk
    case zo =>
      repeat' apply AllP.cons
      all_goals first | exact trivial | exact id | exact fun _ => rfl | exact fun _ => Nat.le_of_ble_eq_true rfl | exact (within_t _ _ _).un | exact (spanned_t _ _ _).un
    case zk =>
    refine Aw.em tab_ok mb0 [] rfl rfl ?zo ?zk
    case zo =>
      repeat' apply AllP.cons
      all_goals first | exact trivial | exact inrk k (by omega)
    case zk =>
    refine ⟨k + 1, ?zg, ?zm, ⟨?zc, ?zv, ?zh, Nat.le_of_ble_eq_true rfl⟩⟩
    case zg =>
      (repeat' (first | assumption))
    case zm =>
      (repeat' (first | omega))
    case zc =>
      (repeat' (first | (refine And.intro ?_ ?_) | exact trivial | exact A.Le.refl _))
    case zv =>
      (repeat' (first | (refine And.intro ?_ ?_) | exact trivial | exact A.Le.refl _ | exact .of_eq (congrArg A.bool (hst.trans (c4 _ _ _ _ _)))))
    case zh =>
      (repeat' (first | exact trivial))
  have hle : k = y.length := by have := of_decide_eq_false h1; omega
  subst hle
  have e2 : andAll (wi y.length 1 4) Cask.ok y y.length = yardOk y := andAll_full
  rw [e2]
  refine Aw.seq ?_
  refine Aw.sm tab_ok mb0 [] rfl rfl ?zo ?zk
  case zo =>
    repeat' apply AllP.cons
    all_goals first | exact trivial
  case zk =>
  refine Aw.cond rfl (fun h1 => ?_) (fun h1 => Aw.skip ?_)
  · have hno : yardOk y = false := by simpa using h1
    refine Aw.sm tab_ok mb0 [] rfl rfl ?zo ?zk
    case zo =>
      repeat' apply AllP.cons
      all_goals first | exact trivial
    case zk =>
    exact Aw.ret ⟨_, .cons (.tmp _) .nil, by unfold yardChk; rw [hno]; rfl⟩
  · have hyes : yardOk y = true := by simpa using h1
    refine Aw.sm tab_ok mb0 [] rfl rfl ?zo ?zk
    case zo =>
      repeat' apply AllP.cons
      all_goals first | exact trivial
    case zk =>
    exact Aw.ret ⟨_, .cons (.tmp _) .nil, by unfold yardChk; rw [if_pos hyes]; rfl⟩
theorem book_chk (b : Book) (hl : (b.ms.length : Int) ≤ 9223372036854775806) : Ans Try.prog 35 [.agg b.c] (.int b.chk) := by
  have ll : ((b.ms.map Mv.c).length : Int) = b.ms.length := by simp
  have fm : Free (.sl b.nn .any (b.ms.map Mv.c)) := free_map Mv.free _ _ _
  have um : ∀ {m : Nat}, Under m (A.sl b.nn .any (b.ms.map Mv.c)) := fm.under
  have ub : ∀ {m : Nat}, Under m (A.pt b.c) := (Free.pt _ b.free).under
  refine told Try.func35 rfl rfl (Pure.of tab_ok Try.func35 rfl Try.ntmps35 rfl (all1 (.agg _ b.free)) (all1 (fun _ => rfl)) (by first | exact .s _ | assumption | exact .tup _ (by intro x hx; simp only [List.mem_cons, List.not_mem_nil, or_false] at hx; rcases hx with rfl | rfl | rfl | rfl <;> first | exact .s _ | (simp_all; done))) fun E hE => ?_)
  refine Aw.sm tab_ok mb0 [] rfl rfl ?zo ?zk
  case zo =>
    repeat' apply AllP.cons
    all_goals first | exact trivial
  case zk =>
  refine Aw.sm tab_ok mb0 [(2, [.bool (wi b.n 2 6)]), (7, [.bool (wi b.ms.length 1 10)])] rfl rfl ?zo ?zk
  case zo =>
    repeat' apply AllP.cons
    all_goals first | exact trivial | exact id | exact fun _ => rfl | exact Nat.le_of_ble_eq_true rfl | exact fun _ => Nat.le_of_ble_eq_true rfl | exact within_t _ _ _ | exact (by rw [ll]; exact (within_t _ _ _).un)
  case zk =>
  refine Aw.seq ?_
  refine Aw.sm tab_ok mb0 [] rfl rfl ?zo ?zk
  case zo =>
    repeat' apply AllP.cons
    all_goals first | exact trivial | exact Nat.le_of_ble_eq_true rfl
  case zk =>
  refine Aw.block (Aw.rounds 0 hE [(1, .pt b.c), (16, .sl b.nn .any (b.ms.map Mv.c)), (17, .int b.ms.length)] (fun k : Nat => [(3, .bool (andAll b.b0 (mvOk b.n) b.ms k)), (18, .int k)]) (fun k => []) (fun k => k ≤ b.ms.length) (fun k => b.ms.length - k) 0 ?zg ⟨?zc, ?zv, ?zh, Nat.le_of_ble_eq_true rfl⟩ ?zu (fun k zhk => ?zw) (fun k zhk => ?zx) fun k hk => ?zr)
  case zg =>
    (repeat' (first | exact Nat.zero_le _))
  case zc =>
    (repeat' (first | (refine And.intro ?_ ?_) | exact trivial | exact A.Le.refl _ | exact .of_eq (congrArg A.int ll.symm)))
  case zv =>
    (repeat' (first | (refine And.intro ?_ ?_) | exact trivial | exact A.Le.refl _ | exact .of_eq (by rw [andAll_zero]; rfl)))
  case zh =>
    (repeat' (first | exact trivial))
  case zu =>
    (repeat' (first | exact trivial | exact Under.s _ | exact um | exact ub | (refine And.intro ?_ ?_)))
  case zw =>
    (repeat' (first | exact trivial | exact Under.s _ | (refine And.intro ?_ ?_)))
  case zx =>
    (repeat' (first | exact trivial))
  case zr =>
  refine Aw.sm tab_ok mb0 [] rfl rfl ?zo ?zk
  case zo =>
    repeat' apply AllP.cons
    all_goals first | exact trivial
  case zk =>
  refine Aw.seq (Aw.cond rfl (fun h1 => Aw.skip1 ?_) (fun h1 => Aw.exit2 ?_))
  · have hlt : k < b.ms.length := by have := of_decide_eq_true h1; omega
    have hst := andAll_step (b := b.b0) (p := mvOk b.n) hlt
    have hg := get_map (f := Mv.c) hlt
    have hn : andAll b.b0 (mvOk b.n) b.ms k = true → 2 ≤ b.n ∧ b.n ≤ 6 := fun h => (Book.b0_iff.1 (ac1 h)).1
    generalize b.ms[k] = m at *
    generalize andAll b.b0 (mvOk b.n) b.ms k = b0 at *
    refine Aw.seq (Aw.block ?_)
    refine Aw.sm tab_ok mb0 [(0, m.c)] rfl rfl ?zo ?zk
    case zo =>
      repeat' apply AllP.cons
      all_goals first | exact trivial | exact rfl | exact Nat.le_of_ble_eq_true rfl | exact Int.natCast_nonneg _ | exact hg
    case zk =>
    refine Aw.em tab_ok mb0 [(7, [.bool (wi m.fr 0 (b.n - 1))]), (15, [.bool (wi m.to 0 (b.n - 1))]), (27, [.bool (spannedF m.lo m.hi 0 1000)])] rfl rfl ?zo ?zk
    case zo =>
      repeat' apply AllP.cons
      all_goals first | exact trivial | exact id | exact fun _ => rfl | exact fun _ => Nat.le_of_ble_eq_true rfl | exact (within_t _ _ _).un | exact (spanned_t _ _ _).un | exact fun h => (by have := hn h; simp only [Ob.of, inR]; omega) | exact fun h => (by have := hn (ac1 h); simp only [Ob.of, inR]; omega)
    case zk =>
    refine Aw.em tab_ok mb0 [] rfl rfl ?zo ?zk
    case zo =>
      repeat' apply AllP.cons
      all_goals first | exact trivial | exact inrk k (by omega)
    case zk =>
    refine ⟨k + 1, ?zg, ?zm, ⟨?zc, ?zv, ?zh, Nat.le_of_ble_eq_true rfl⟩⟩
    case zg =>
      (repeat' (first | assumption))
    case zm =>
      (repeat' (first | omega))
    case zc =>
      (repeat' (first | (refine And.intro ?_ ?_) | exact trivial | exact A.Le.refl _))
    case zv =>
      (repeat' (first | (refine And.intro ?_ ?_) | exact trivial | exact A.Le.refl _ | exact .of_eq (congrArg A.bool (hst.trans (c4 _ _ _ _ _)))))
    case zh =>
      (repeat' (first | exact trivial))
  have hle : k = b.ms.length := by have := of_decide_eq_false h1; omega
  subst hle
  have e2 : andAll b.b0 (mvOk b.n) b.ms b.ms.length = b.ok := andAll_full
  rw [e2]
  refine Aw.seq ?_
  refine Aw.sm tab_ok mb0 [] rfl rfl ?zo ?zk
  case zo =>
    repeat' apply AllP.cons
    all_goals first | exact trivial
  case zk =>
  refine Aw.cond rfl (fun h1 => ?_) (fun h1 => Aw.skip ?_)
  · have hno : b.ok = false := by simpa using h1
    refine Aw.sm tab_ok mb0 [] rfl rfl ?zo ?zk
    case zo =>
      repeat' apply AllP.cons
      all_goals first | exact trivial
    case zk =>
    exact Aw.ret ⟨_, .cons (.tmp _) .nil, by unfold Book.chk; rw [hno]; rfl⟩
  · have hyes : b.ok = true := by simpa using h1
    refine Aw.sm tab_ok mb0 [] rfl rfl ?zo ?zk
    case zo =>
      repeat' apply AllP.cons
      all_goals first | exact trivial
    case zk =>
    exact Aw.ret ⟨_, .cons (.tmp _) .nil, by unfold Book.chk; rw [if_pos hyes]; rfl⟩
end Go.Proofs.Ytampldajinhenaa

namespace Go.Proofs.Ytampldajinhenaa
open Go Go.AL Go.AL.Q Go.AL.Br
def lvB (l : List Int) : B := .cells (l.map A.int)
theorem lvB_under (l : List Int) {n : Nat} : UnderB n (lvB l) := .cells _ fun x hx => by obtain ⟨v, _, rfl⟩ := List.mem_map.1 hx; exact .s _
theorem lv_free (l : List Int) : ∀ x ∈ l.map A.int, Free x := fun x hx => by obtain ⟨v, _, rfl⟩ := List.mem_map.1 hx; exact .s _
theorem set_cells {l : List Int} {k : Nat} {v : Int} (h : k < l.length) : setSeg (l.map A.int) (0 + k * 1) [A.int v] = (l.set k v).map A.int := by
  have := setSeg_app (l := []) (r := l.map A.int) (v := A.int v) (i := k) (by simpa using h)
  simp only [List.length_nil, Nat.zero_add, List.nil_append] at this
  rw [Nat.zero_add, Nat.mul_one, this, List.map_set]
theorem four {l : List Int} (h : l.length = 4) : ∃ a b c d, l = [a, b, c, d] := by
  match l, h with
  | [a, b, c, d], _ => exact ⟨a, b, c, d, rfl⟩
theorem cask_at {y : List Cask} {k : Nat} (h : k < y.length) : (y.map Cask.c)[k]? = some (ck y k).c := by rw [ck_get h]; exact get_map h
theorem begin_t (y : List Cask) (b : Bool) (hy : YardOk y) : Ans Try.prog 70 [.sl b .any (y.map Cask.c)] (.agg ((lev0 y).map A.int)) := by
  have ll : ((y.map Cask.c).length : Int) = y.length := by simp
  have fy : Free (.sl b .any (y.map Cask.c)) := free_map Cask.free _ _ _
  have uy : ∀ {m : Nat}, Under m (A.sl b .any (y.map Cask.c)) := fy.under
  have hfr : Free (.agg ((lev0 y).map A.int)) := .agg _ (lv_free _)
  have hn := hy.n
  refine told Try.func70 rfl rfl (Pure.of tab_ok Try.func70 rfl Try.ntmps70 rfl (all1 (fy)) (all1 (fun _ => rfl)) (by first | exact .s _ | assumption | exact .tup _ (by intro x hx; simp only [List.mem_cons, List.not_mem_nil, or_false] at hx; rcases hx with rfl | rfl | rfl | rfl <;> first | exact .s _ | (simp_all; done))) fun E hE => ?_)
  refine Aw.sm tab_ok mb0 [] rfl rfl ?zo ?zk
  case zo =>
    repeat' apply AllP.cons
    all_goals first | exact trivial
  case zk =>
  refine Aw.sm tab_ok mb0 [] rfl rfl ?zo ?zk
  case zo =>
    repeat' apply AllP.cons
    all_goals first | exact trivial
  case zk =>
  have h2e : ∀ id, 2 ≤ id → E.φ0 id = none := fun id _ => hE id (Nat.zero_le _)
  refine Aw.seq ?_
  refine Aw.sm tab_ok mb0 [] rfl rfl ?zo ?zk
  case zo =>
    repeat' apply AllP.cons
    all_goals first | exact trivial
  case zk =>
  refine Aw.block (Aw.rounds 2 h2e [(0, .sl b .any (y.map Cask.c)), (2, .ref 0 0), (3, .ref 1 0), (6, .int y.length)] (fun k : Nat => [(7, .int k)]) (fun k => [(0, lvB (lev0K y 0)), (1, lvB (lev0K y k))]) (fun k => k ≤ y.length) (fun k => y.length - k) 0 ?zg ⟨?zc, ?zv, ?zh, Nat.le_of_ble_eq_true rfl⟩ ?zu (fun k zhk => ?zw) (fun k zhk => ?zx) fun k hk => ?zr)
  case zg =>
    (repeat' (first | exact Nat.zero_le _))
  case zc =>
    (repeat' (first | (refine And.intro ?_ ?_) | exact trivial | exact A.Le.refl _ | exact .of_eq (congrArg A.int ll.symm)))
  case zv =>
    (repeat' (first | (refine And.intro ?_ ?_) | exact trivial | exact A.Le.refl _))
  case zh =>
    (repeat' (first | (refine And.intro ?_ ?_) | exact trivial | exact rfl))
  case zu =>
    (repeat' (first | exact trivial | exact Under.s _ | exact Under.ref _ _ (by decide) | exact uy | (refine And.intro ?_ ?_)))
  case zw =>
    (repeat' (first | exact trivial | exact Under.s _ | (refine And.intro ?_ ?_)))
  case zx =>
    (repeat' (first | exact trivial | exact Nat.le_of_ble_eq_true rfl | exact lvB_under _ | (refine And.intro ?_ ?_)))
  case zr =>
  refine Aw.sm tab_ok mb0 [] rfl rfl ?zo ?zk
  case zo =>
    repeat' apply AllP.cons
    all_goals first | exact trivial
  case zk =>
  refine Aw.seq (Aw.cond rfl (fun h1 => Aw.skip1 ?_) (fun h1 => Aw.exit2 ?_))
  · have hlt : k < y.length := by have := of_decide_eq_true h1; omega
    have hst := lev0K_succ y (show k < 4 by omega)
    have hg := cask_at hlt
    have hl4 : (lev0K y k).length = 4 := by simp [lev0K]
    have hc := congrArg (fun x => some (B.cells x)) (set_cells (l := lev0K y k) (k := k) (v := (ck y k).level) (by omega))
    rw [hst] at hc
    generalize ck y k = c at *
    generalize lev0K y k = G at *
    refine Aw.seq (Aw.block ?_)
    refine Aw.sm tab_ok mb0 [] rfl rfl ?zo ?zk
    case zo =>
      repeat' apply AllP.cons
      all_goals first | exact trivial
    case zk =>
    refine Aw.em tab_ok mb0 [(3, c.c)] rfl rfl ?zo ?zk
    case zo =>
      repeat' apply AllP.cons
      all_goals first | exact trivial | exact rfl | exact Nat.le_of_ble_eq_true rfl | exact Int.natCast_nonneg _ | exact hg | exact (show 0 + (Int.toNat (k : Int)) * 1 + 1 ≤ (G.map A.int).length by rw [List.length_map, hl4, Int.toNat_natCast]; omega) | exact (by simp only [Ob.of]; omega)
    case zk =>
    refine Aw.em tab_ok mb0 [] rfl rfl ?zo ?zk
    case zo =>
      repeat' apply AllP.cons
      all_goals first | exact trivial | exact inrk k (by omega)
    case zk =>
    refine ⟨k + 1, ?zg, ?zm, ⟨?zc, ?zv, ?zh, Nat.le_of_ble_eq_true rfl⟩⟩
    case zg =>
      (repeat' (first | assumption))
    case zm =>
      (repeat' (first | omega))
    case zc =>
      (repeat' (first | (refine And.intro ?_ ?_) | exact trivial | exact A.Le.refl _))
    case zv =>
      (repeat' (first | (refine And.intro ?_ ?_) | exact trivial | exact A.Le.refl _))
    case zh =>
      (repeat' (first | (refine And.intro ?_ ?_) | exact trivial | exact rfl | exact hc))
  have hle : k = y.length := by have := of_decide_eq_false h1; omega
  subst hle
  rw [lev0K_end hn.2]
  refine Aw.sm tab_ok mb0 [] rfl rfl ?zo ?zk
  case zo =>
    repeat' apply AllP.cons
    all_goals first | exact trivial | exact rfl | exact Nat.le_of_ble_eq_true rfl
  case zk =>
  exact Aw.ret ⟨_, .cons (resC rfl rfl rfl rfl rfl) .nil, rfl⟩
theorem most_t (y : List Cask) (b : Bool) : Ans Try.prog 78 [.sl b .any (y.map Cask.c)] (.agg [.fn (.func 95) [] [.pt [.sl b .any (y.map Cask.c)]]]) := by
  have fy : Free (.sl b .any (y.map Cask.c)) := free_map Cask.free _ _ _
  have hfr : Free (.agg [.fn (.func 95) [] [.pt [.sl b .any (y.map Cask.c)]]]) := .agg _ (all1 (.fn _ _ _ allN (all1 (.pt _ (all1 fy)))))
  refine told Try.func78 rfl rfl (Pure.of tab_ok Try.func78 rfl Try.ntmps78 rfl (all1 (fy)) (all1 (fun _ => rfl)) (by first | exact .s _ | assumption | exact .tup _ (by intro x hx; simp only [List.mem_cons, List.not_mem_nil, or_false] at hx; rcases hx with rfl | rfl | rfl | rfl <;> first | exact .s _ | (simp_all; done))) fun E hE => ?_)
  refine Aw.sm tab_ok mb0 [] rfl rfl ?zo ?zk
  case zo =>
    repeat' apply AllP.cons
    all_goals first | exact trivial
  case zk =>
  refine Aw.sm tab_ok mb0 [] rfl rfl ?zo ?zk
  case zo =>
    repeat' apply AllP.cons
    all_goals first | exact trivial | exact rfl | exact Nat.le_of_ble_eq_true rfl
  case zk =>
  exact Aw.ret ⟨_, .cons (resC rfl rfl rfl rfl rfl) .nil, rfl⟩
theorem mostOf_t (y : List Cask) (b : Bool) (m : Int) {i : Nat} (hi : i < y.length) : Ans Try.prog 95 [.int m, .int i, .pt [.sl b .any (y.map Cask.c)]] (.int (mostOf y i)) := by
  have fy : Free (.sl b .any (y.map Cask.c)) := free_map Cask.free _ _ _
  have hg := cask_at hi
  have e : mostOf y i = (ck y i).hi := rfl
  rw [e]
  generalize ck y i = c at *
  refine told Try.func95 rfl rfl (Pure.of tab_ok Try.func95 rfl Try.ntmps95 rfl (allC (.s _) (allC (.s _) (all1 (.pt _ (all1 fy))))) (allC (fun _ => rfl) (allC (fun _ => rfl) (all1 (fun _ => rfl)))) (by first | exact .s _ | assumption | exact .tup _ (by intro x hx; simp only [List.mem_cons, List.not_mem_nil, or_false] at hx; rcases hx with rfl | rfl | rfl | rfl <;> first | exact .s _ | (simp_all; done))) fun E hE => ?_)
  refine Aw.sm tab_ok mb0 [] rfl rfl ?zo ?zk
  case zo =>
    repeat' apply AllP.cons
    all_goals first | exact trivial
  case zk =>
  refine Aw.sm tab_ok mb0 [(2, c.c)] rfl rfl ?zo ?zk
  case zo =>
    repeat' apply AllP.cons
    all_goals first | exact trivial | exact rfl | exact Nat.le_of_ble_eq_true rfl | exact Int.natCast_nonneg _ | exact hg
  case zk =>
  exact Aw.ret ⟨_, .cons (.tmp _) .nil, rfl⟩
theorem runOf_t (l : List NL) (b : Bool) {m i : Nat} (hm : m < l.length) (hi : i < (l.getD m ⟨true, []⟩).l.length) : Ans Try.prog 72 [.int m, .int i, .pt [.sl b .any (l.map NL.c)]] (.int (lkOf l m i)) := by
  have fl : Free (.sl b .any (l.map NL.c)) := free_map NL.free _ _ _
  have hg : (l.map NL.c)[m]? = some (l.getD m ⟨true, []⟩).c := by rw [get_map hm]; simp [List.getD_eq_getElem?_getD, hm]
  have e : lkOf l m i = (l.getD m ⟨true, []⟩).l.getD i 0 := rfl
  rw [e]
  generalize l.getD m ⟨true, []⟩ = x at *
  have hg2 := ints_getD hi
  refine told Try.func72 rfl rfl (Pure.of tab_ok Try.func72 rfl Try.ntmps72 rfl (allC (.s _) (allC (.s _) (all1 (.pt _ (all1 fl))))) (allC (fun _ => rfl) (allC (fun _ => rfl) (all1 (fun _ => rfl)))) (by first | exact .s _ | assumption | exact .tup _ (by intro x hx; simp only [List.mem_cons, List.not_mem_nil, or_false] at hx; rcases hx with rfl | rfl | rfl | rfl <;> first | exact .s _ | (simp_all; done))) fun E hE => ?_)
  refine Aw.sm tab_ok mb0 [] rfl rfl ?zo ?zk
  case zo =>
    repeat' apply AllP.cons
    all_goals first | exact trivial
  case zk =>
  refine Aw.sm tab_ok mb0 [(2, x.c), (5, [.int (x.l.getD i 0)])] rfl rfl ?zo ?zk
  case zo =>
    repeat' apply AllP.cons
    all_goals first | exact trivial | exact rfl | exact Nat.le_of_ble_eq_true rfl | exact Int.natCast_nonneg _ | exact hg | exact hg2
  case zk =>
  exact Aw.ret ⟨_, .cons (.tmp _) .nil, rfl⟩
def mb5 : Nat → Bool := fun t => Nat.beq t 5
theorem leaked_t (y : List Cask) (b : Bool) (hy : YardOk y) (g : Nat) (cb : Bool) (ces : List (List A)) (hces : Free (.sl cb .any ces)) (of : Nat → Int) (m : Nat) (hof : ∀ i, i < y.length → Ans Try.prog g [.int m, .int i, .pt [.sl cb .any ces]] (.int (of i))) (hbd : ∀ i, i < y.length → 0 ≤ of i ∧ of i ≤ 1000)
    (l : List Int) (hl : LvOk l) :
    Ans Try.prog 71 [.sl b .any (y.map Cask.c), .agg (l.map A.int), .int m, .agg [.fn (.func g) [] [.pt [.sl cb .any ces]]]] (.tup [.agg ((leakL y of l).map A.int), .int (dryF y of l)]) := by
  have ll : ((y.map Cask.c).length : Int) = y.length := by simp
  have fy : Free (.sl b .any (y.map Cask.c)) := free_map Cask.free _ _ _
  have uy : ∀ {m : Nat}, Under m (A.sl b .any (y.map Cask.c)) := fy.under
  have ffn : Free (.fn (.func g) [] [.pt [.sl cb .any ces]]) := .fn _ _ _ allN (all1 (.pt _ (all1 hces)))
  have ufn : ∀ {m : Nat}, Under m (A.pt [.fn (.func g) [] [.pt [.sl cb .any ces]]]) := (Free.pt _ (all1 ffn)).under
  have hfr : Free (.tup [.agg ((leakL y of l).map A.int), .int (dryF y of l)]) := .tup _ (allC (.agg _ (lv_free _)) (all1 (.s _)))
  have hn := hy.n
  obtain ⟨a0, a1, a2, a3, hl4⟩ := four hl.n
  have hl0 : l.map A.int = [.int a0, .int a1, .int a2, .int a3] := by rw [hl4]; rfl
  rw [hl0]
  have fl0 : ∀ x ∈ [A.int a0, .int a1, .int a2, .int a3], Free x := hl0 ▸ lv_free l
  refine told Try.func71 rfl rfl (Pure.of tab_ok Try.func71 rfl Try.ntmps71 rfl (allC (fy) (allC (.agg _ fl0) (allC (.s _) (all1 (.agg _ (all1 ffn)))))) (allC (fun _ => rfl) (allC (fun _ => rfl) (allC (fun _ => rfl) (all1 (fun _ => rfl))))) (by first | exact .s _ | assumption | exact .tup _ (by intro x hx; simp only [List.mem_cons, List.not_mem_nil, or_false] at hx; rcases hx with rfl | rfl | rfl | rfl <;> first | exact .s _ | (simp_all; done))) fun E hE => ?_)
  refine Aw.sm tab_ok mb5 [] rfl rfl ?zo ?zk
  case zo =>
    repeat' apply AllP.cons
    all_goals first | exact trivial
  case zk =>
  refine Aw.sm tab_ok mb5 [] rfl rfl ?zo ?zk
  case zo =>
    repeat' apply AllP.cons
    all_goals first | exact trivial
  case zk =>
  have h2e : ∀ id, 2 ≤ id → E.φ0 id = none := fun id _ => hE id (Nat.zero_le _)
  refine Aw.seq ?_
  refine Aw.sm tab_ok mb5 [] rfl rfl ?zo ?zk
  case zo =>
    repeat' apply AllP.cons
    all_goals first | exact trivial
  case zk =>
  refine Aw.block (Aw.rounds 2 h2e [(0, .sl b .any (y.map Cask.c)), (2, .int m), (5, .ref 0 0), (7, .pt [.fn (.func g) [] [.pt [.sl cb .any ces]]]), (8, .ref 1 0), (13, .int y.length)] (fun k : Nat => [(10, .int (dryK y of l k)), (14, .int k)]) (fun k => [(0, lvB (lkK of l k)), (1, lvB [0, 0, 0, 0])]) (fun k => k ≤ y.length) (fun k => y.length - k) 0 ?zg ⟨?zc, ?zv, ?zh, Nat.le_of_ble_eq_true rfl⟩ ?zu (fun k zhk => ?zw) (fun k zhk => ?zx) fun k hk => ?zr)
  case zg =>
    (repeat' (first | exact Nat.zero_le _))
  case zc =>
    (repeat' (first | (refine And.intro ?_ ?_) | exact trivial | exact A.Le.refl _ | exact .of_eq (congrArg A.int ll.symm)))
  case zv =>
    (repeat' (first | (refine And.intro ?_ ?_) | exact trivial | exact A.Le.refl _))
  case zh =>
    (repeat' (first | (refine And.intro ?_ ?_) | exact trivial | exact rfl | exact (by rw [lkK_zero]; exact congrArg (fun x => some (B.cells x)) hl0.symm)))
  case zu =>
    (repeat' (first | exact trivial | exact Under.s _ | exact Under.ref _ _ (by decide) | exact uy | exact ufn | (refine And.intro ?_ ?_)))
  case zw =>
    (repeat' (first | exact trivial | exact Under.s _ | (refine And.intro ?_ ?_)))
  case zx =>
    (repeat' (first | exact trivial | exact Nat.le_of_ble_eq_true rfl | exact lvB_under _ | (refine And.intro ?_ ?_)))
  case zr =>
  refine Aw.sm tab_ok mb5 [] rfl rfl ?zo ?zk
  case zo =>
    repeat' apply AllP.cons
    all_goals first | exact trivial
  case zk =>
  refine Aw.seq (Aw.cond rfl (fun h1 => Aw.skip1 ?_) (fun h1 => Aw.exit2 ?_))
  · have hlt : k < y.length := by have := of_decide_eq_true h1; omega
    have hk4 : k < l.length := by rw [hl.n]; omega
    have hG4 : k < (lkK of l k).length := by rw [lkK_len]; exact hk4
    have hget : (lkK of l k).getD k 0 = l.getD k 0 := by rw [lkK_get hk4, if_neg (by omega)]
    have hst := lkK_succ (of := of) hk4
    have hlb := hl.get (show k < 4 by omega)
    have hob := hbd k hlt
    have hg := cask_at hlt
    have hca := hof k hlt
    have hdb := dryK_bd y of l k
    have hd1 : dryK y of l (k + 1) = if cond (decide (mx0 (l.getD k 0 - of k) < (ck y k).line)) (decide (dryK y of l k < 0)) false = true then (k : Int) else dryK y of l k := rfl
    have hc := congrArg (fun x => some (B.cells x)) (set_cells (l := lkK of l k) (k := k) (v := mx0 (l.getD k 0 - of k)) hG4)
    rw [hst] at hc
    have hG1 : (lkK of l (k + 1)).length = l.length := lkK_len _ _ _
    have hv1 : (lkK of l (k + 1)).getD k 0 = mx0 (l.getD k 0 - of k) := by rw [lkK_get hk4, if_pos (Nat.lt_succ_self _)]
    generalize ck y k = c at *
    generalize hG1e : lkK of l (k + 1) = G1 at *
    generalize lkK of l k = G at *
    generalize l.getD k 0 = x at *
    generalize of k = o at *
    generalize dryK y of l k = d at *
    refine Aw.seq (Aw.block ?_)
    refine Aw.sm tab_ok mb5 [] rfl rfl ?zo ?zk
    case zo =>
      repeat' apply AllP.cons
      all_goals first | exact trivial
    case zk =>
    have hi1 : ((G.map A.int).getD (0 + Int.toNat (k : Int) * 1) .un).down = .int x := by rw [Int.toNat_natCast, Nat.zero_add, Nat.mul_one, ← hget]; simp [List.getD_eq_getElem?_getD, hG4]; rfl
    have hi2 : 0 + Int.toNat (k : Int) * 1 + 1 ≤ (G.map A.int).length := by rw [List.length_map, Int.toNat_natCast]; omega
    refine Aw.sd tab_ok mixed mb5 [(3, [.int x]), (8, [.int o])] rfl (by kernel_rfl) rfl rfl ?zo ?zk
    case zo =>
      repeat' apply AllP.cons
      all_goals first | exact trivial | exact rfl | exact Nat.le_of_ble_eq_true rfl | exact Int.natCast_nonneg _ | exact hi1 | exact hi2 | exact hca | exact (show inR (x - o) by simp only [inR]; omega) | exact (by simp only [Ob.of]; omega)
    case zk =>
    have hj1 : ((G1.map A.int).getD (0 + Int.toNat (k : Int) * 1) .un).down = .int (mx0 (x - o)) := by rw [Int.toNat_natCast, Nat.zero_add, Nat.mul_one, ← hv1]; simp [List.getD_eq_getElem?_getD, show k < G1.length by omega]; rfl
    have hj2 : 0 + Int.toNat (k : Int) * 1 + 1 ≤ (G1.map A.int).length := by rw [List.length_map, Int.toNat_natCast]; omega
    refine Aw.keep (n := 2) (cst := [(0, .sl b .any (y.map Cask.c)), (2, .int m), (5, .ref 0 0), (7, .pt [.fn (.func g) [] [.pt [.sl cb .any ces]]]), (8, .ref 1 0), (13, .int y.length)]) (v := [(10, .int d), (11, .int k), (14, .int k)]) (Hl := [(0, lvB G1), (1, lvB [0, 0, 0, 0])]) h2e ?zu ?zw ?zx ⟨?zc, ?zv, ?zh, Nat.le_of_ble_eq_true rfl⟩ ?zr
    case zu =>
      (repeat' (first | exact trivial | exact Under.s _ | exact Under.ref _ _ (by decide) | exact uy | exact ufn | (refine And.intro ?_ ?_)))
    case zw =>
      (repeat' (first | exact trivial | exact Under.s _ | (refine And.intro ?_ ?_)))
    case zx =>
      (repeat' (first | exact trivial | exact Nat.le_of_ble_eq_true rfl | exact lvB_under _ | (refine And.intro ?_ ?_)))
    case zc =>
      (repeat' (first | (refine And.intro ?_ ?_) | exact trivial | exact A.Le.refl _))
    case zv =>
      (repeat' (first | (refine And.intro ?_ ?_) | exact trivial | exact A.Le.refl _))
    case zh =>
      (repeat' (first | (refine And.intro ?_ ?_) | exact trivial | exact rfl | exact hc))
    case zr =>
    refine Aw.sd tab_ok mixed mb5 [(2, [.int (mx0 (x - o))]), (5, c.c)] rfl (by kernel_rfl) rfl rfl ?zo ?zk
    case zo =>
      repeat' apply AllP.cons
      all_goals first | exact trivial | exact id | exact rfl | exact fun _ => rfl | exact Nat.le_of_ble_eq_true rfl | exact Int.natCast_nonneg _ | exact hj1 | exact hj2 | exact hg | exact (by simp only [Ob.of]; omega)
    case zk =>
    refine Aw.cond rfl (fun h2 => ?_) (fun h2 => Aw.skip ?_)
    · rw [if_pos h2] at hd1
      refine Aw.em tab_ok mb5 [] rfl rfl ?zo ?zk
      case zo =>
        repeat' apply AllP.cons
        all_goals first | exact trivial
      case zk =>
      refine Aw.em tab_ok mb5 [] rfl rfl ?zo ?zk
      case zo =>
        repeat' apply AllP.cons
        all_goals first | exact trivial | exact inrk k (by omega)
      case zk =>
      refine ⟨k + 1, ?zg, ?zm, ⟨?zc, ?zv, ?zh, Nat.le_of_ble_eq_true rfl⟩⟩
      case zg =>
        (repeat' (first | assumption))
      case zm =>
        (repeat' (first | omega))
      case zc =>
        (repeat' (first | (refine And.intro ?_ ?_) | exact trivial | exact A.Le.refl _))
      case zv =>
        (repeat' (first | (refine And.intro ?_ ?_) | exact trivial | exact A.Le.refl _ | exact .of_eq (congrArg A.int hd1)))
      case zh =>
        (repeat' (first | (refine And.intro ?_ ?_) | exact trivial | exact rfl | exact congrArg (fun x => some (lvB x)) hG1e.symm))
    · have h2 : cond (decide (mx0 (x - o) < c.line)) (decide (d < 0)) false = false := h2
      rw [h2] at hd1
      refine Aw.em tab_ok mb5 [] rfl rfl ?zo ?zk
      case zo =>
        repeat' apply AllP.cons
        all_goals first | exact trivial | exact inrk k (by omega)
      case zk =>
      refine ⟨k + 1, ?zg, ?zm, ⟨?zc, ?zv, ?zh, Nat.le_of_ble_eq_true rfl⟩⟩
      case zg =>
        (repeat' (first | assumption))
      case zm =>
        (repeat' (first | omega))
      case zc =>
        (repeat' (first | (refine And.intro ?_ ?_) | exact trivial | exact A.Le.refl _))
      case zv =>
        (repeat' (first | (refine And.intro ?_ ?_) | exact trivial | exact A.Le.refl _ | exact .of_eq (congrArg A.int hd1)))
      case zh =>
        (repeat' (first | (refine And.intro ?_ ?_) | exact trivial | exact rfl | exact congrArg (fun x => some (lvB x)) hG1e.symm))
  have hle : k = y.length := by have := of_decide_eq_false h1; omega
  subst hle
  have hlk := lkK_ok hl (of := of) (k := y.length) fun i hi => (hbd i hi).1
  have e1 : leakL y of l = lkK of l y.length := rfl
  have e2 : dryF y of l = dryK y of l y.length := rfl
  rw [e1, e2]
  obtain ⟨b0, b1, b2, b3, hG⟩ := four hlk.n
  rw [hG]
  refine Aw.sm tab_ok mb5 [] rfl rfl ?zo ?zk
  case zo =>
    repeat' apply AllP.cons
    all_goals first | exact trivial | exact rfl | exact Nat.le_of_ble_eq_true rfl
  case zk =>
  exact Aw.ret ⟨_, .cons (resC rfl rfl rfl rfl rfl) (.cons (.tmp _) .nil), rfl⟩
end Go.Proofs.Ytampldajinhenaa

namespace Go.Proofs.Ytampldajinhenaa
open Go Go.AL Go.AL.Q Go.AL.Br
theorem outA_ne {l : List Int} (h : l ≠ []) : outA l = .sl false .any (ints l) := by
  cases l with
  | nil => exact absurd rfl h
  | cons x l => rfl
theorem take_ints (l : List Int) (n : Nat) : (((l.map A.int).take n).map fun c => [c]) = ints (l.take n) := by
  rw [← List.map_take, List.map_map]; rfl
theorem nl_at {l : List NL} {m : Nat} (h : m < l.length) : (l.map NL.c)[m]? = some (l.getD m ⟨true, []⟩).c := by rw [get_map h]; simp [List.getD_eq_getElem?_getD, h]
theorem runGo_lv {y : List Cask} (hy : ∀ c ∈ y, c.Ok) {of : Nat → Nat → Int} : ∀ (ts : List Int) (m : Nat) (l : List Int), (∀ k i, m ≤ k → k < m + ts.length → i < y.length → 0 ≤ of k i) → LvOk l → LvOk (runGo y of ts m l).1
  | [], m, l, _, h => h
  | top :: ts, m, l, ho, h => by
    have h1 : LvOk (leakL y (of m) l) := lkK_ok h fun i hi => ho m i (Nat.le_refl _) (by simp) hi
    rw [runGo]
    split
    · exact h1
    · exact runGo_lv hy ts (m + 1) _ (fun k i h1 h2 h3 => ho k i (by omega) (by simp at h2 ⊢; omega) h3) (fill_ok hy h1 top)
def runA (r : List Int × Int × Int) : A := .tup [outA r.1, .int r.2.1, .int r.2.2]
set_option maxHeartbeats 1000000 in
theorem run_t (y : List Cask) (b : Bool) (hy : (y.length : Int) ≤ 9223372036854775806) (pb : Bool) (plan : List Int) (hp : (plan.length : Int) ≤ 9223372036854775806) (lb : Bool) (leaks : List NL) :
    Ans Try.prog 23 [.sl b .any (y.map Cask.c), .sl pb .any (ints plan), .sl lb .any (leaks.map NL.c)] (runA (RunR y plan leaks)) := by
  have ll : ((y.map Cask.c).length : Int) = y.length := by simp
  have lp := ints_lenI plan
  have lk : ((leaks.map NL.c).length : Int) = leaks.length := by simp
  have fy : Free (.sl b .any (y.map Cask.c)) := free_map Cask.free _ _ _
  have fp : Free (.sl pb .any (ints plan)) := free_ints _ _ _
  have fl : Free (.sl lb .any (leaks.map NL.c)) := free_map NL.free _ _ _
  have hfr : Free (runA (RunR y plan leaks)) := .tup _ (allC (outA_free _) (allC (.s _) (all1 (.s _))))
  have uy : ∀ {m : Nat}, Under m (A.sl b .any (y.map Cask.c)) := fy.under
  have up : ∀ {m : Nat}, Under m (A.sl pb .any (ints plan)) := fp.under
  have ul : ∀ {m : Nat}, Under m (A.pt [.sl lb .any (leaks.map NL.c)]) := (Free.pt _ (all1 fl)).under
  have hchk := yard_chk y b hy
  refine told Try.func23 rfl rfl (Pure.of tab_ok Try.func23 rfl Try.ntmps23 rfl (allC (fy) (allC (fp) (all1 (fl)))) (allC (fun _ => rfl) (allC (fun _ => rfl) (all1 (fun _ => rfl)))) (by first | exact .s _ | assumption | exact .tup _ (by intro x hx; simp only [List.mem_cons, List.not_mem_nil, or_false] at hx; rcases hx with rfl | rfl | rfl | rfl <;> first | exact .s _ | (simp_all; done))) fun E hE => ?_)
  refine Aw.sm tab_ok mb0 [] rfl rfl ?zo ?zk
  case zo =>
    repeat' apply AllP.cons
    all_goals first | exact trivial
  case zk =>
  by_cases hyo : yardOk y = true
  rotate_left
  · have e : RunR y plan leaks = ([], 0, 61) := by unfold RunR; rw [if_neg hyo]
    have e2 : yardChk y = 61 := by unfold yardChk; rw [if_neg hyo]
    rw [e2] at hchk
    rw [e]
    refine Aw.seq ?_
    refine Aw.sm tab_ok mb0 [(1, [.int 61])] rfl rfl ?zo ?zk
    case zo =>
      repeat' apply AllP.cons
      all_goals first | exact trivial | exact hchk
    case zk =>
    refine Aw.sm tab_ok mb0 [] rfl rfl ?zo ?zk
    case zo =>
      repeat' apply AllP.cons
      all_goals first | exact trivial
    case zk =>
    refine Aw.cond rfl (fun h => ?_) (fun h => by cases h)
    refine Aw.sm tab_ok mb0 [] rfl rfl ?zo ?zk
    case zo =>
      repeat' apply AllP.cons
      all_goals first | exact trivial
    case zk =>
    exact Aw.ret ⟨_, .cons (.tmp _) (.cons (.tmp _) (.cons (.tmp _) .nil)), rfl⟩
  have e2 : yardChk y = 0 := by unfold yardChk; rw [if_pos hyo]
  rw [e2] at hchk
  have hY := yardOk_iff.1 hyo
  have hn := hY.n
  refine Aw.seq ?_
  refine Aw.sm tab_ok mb0 [(1, [.int 0])] rfl rfl ?zo ?zk
  case zo =>
    repeat' apply AllP.cons
    all_goals first | exact trivial | exact hchk
  case zk =>
  refine Aw.sm tab_ok mb0 [] rfl rfl ?zo ?zk
  case zo =>
    repeat' apply AllP.cons
    all_goals first | exact trivial
  case zk =>
  refine Aw.cond rfl (fun h => by cases h) (fun h => Aw.skip ?_)
  have h0 : A.bool (plan0 plan leaks) = A.bool (cond (decide (((ints plan).length : Int) ≤ 12)) (((leaks.map NL.c).length : Int) == ((ints plan).length : Int)) false) := by rw [lp, lk]; rfl
  refine Aw.sm tab_ok mb0 [] rfl rfl ?zo ?zk
  case zo =>
    repeat' apply AllP.cons
    all_goals first | exact trivial | exact id | exact fun _ => rfl | exact fun _ => Nat.le_of_ble_eq_true rfl
  case zk =>
  refine Aw.seq ?_
  refine Aw.sm tab_ok mb0 [] rfl rfl ?zo ?zk
  case zo =>
    repeat' apply AllP.cons
    all_goals first | exact trivial
  case zk =>
  refine Aw.block (Aw.rounds 0 hE [(0, .sl b .any (y.map Cask.c)), (1, .sl pb .any (ints plan)), (5, .pt [.sl lb .any (leaks.map NL.c)])] (fun m : Nat => [(10, .bool (raB (plan0 plan leaks) (monB y plan leaks) m)), (11, .int m)]) (fun m => []) (fun m => m ≤ plan.length) (fun m => plan.length - m) 0 ?zg ⟨?zc, ?zv, ?zh, Nat.le_of_ble_eq_true rfl⟩ ?zu (fun m zhk => ?zw) (fun m zhk => ?zx) fun m hk => ?zr)
  case zg =>
    (repeat' (first | exact Nat.zero_le _))
  case zc =>
    (repeat' (first | (refine And.intro ?_ ?_) | exact trivial | exact A.Le.refl _))
  case zv =>
    (repeat' (first | (refine And.intro ?_ ?_) | exact trivial | exact A.Le.refl _ | exact .of_eq (by rw [raB_zero]; exact h0)))
  case zh =>
    (repeat' (first | exact trivial))
  case zu =>
    (repeat' (first | exact trivial | exact (free_ints _ _ _).under | exact uy | exact ul | (refine And.intro ?_ ?_)))
  case zw =>
    (repeat' (first | exact trivial | exact Under.s _ | (refine And.intro ?_ ?_)))
  case zx =>
    (repeat' (first | exact trivial))
  case zr =>
  refine Aw.seq ?_
  refine Aw.sm tab_ok mb0 [] rfl rfl ?zo ?zk
  case zo =>
    repeat' apply AllP.cons
    all_goals first | exact trivial | exact id | exact fun _ => rfl
  case zk =>
  refine Aw.cond rfl (fun h1 => Aw.skip ?_) (fun h1 => ?_)
  · have h1 : cond (raB (plan0 plan leaks) (monB y plan leaks) m) (decide ((m : Int) < ((ints plan).length : Int))) false = true := h1
    have hb := ac1 h1
    have hlt : m < plan.length := by have := of_decide_eq_true (ac2 h1); omega
    have hst := raB_step hb
    have hp0 := plan0_iff.1 (raB_iff.1 hb).1
    have hlm : m < leaks.length := by omega
    have hg := nl_at hlm
    have hgp := ints_getD hlt
    have hm0 : mon0 y plan leaks m = cond (wi (plan.getD m 0) (-1) (y.length - 1)) (((ints (leaks.getD m ⟨true, []⟩).l).length : Int) == ((y.map Cask.c).length : Int)) false := by rw [ll, ints_lenI]; rfl
    have hmB : monB y plan leaks m = raB (mon0 y plan leaks m) (rowB y leaks m) y.length := rfl
    have hrow : ∀ i, rowB y leaks m i = wi ((leaks.getD m ⟨true, []⟩).l.getD i 0) (ck y i).lo (ck y i).hi := fun i => rfl
    have hm0i := mon0_iff (y := y) (plan := plan) (leaks := leaks) (m := m)
    rw [hmB] at hst
    generalize hv1 : raB (plan0 plan leaks) (monB y plan leaks) (m + 1) = v1 at *
    generalize leaks.getD m ⟨true, []⟩ = x at *
    generalize plan.getD m 0 = top at *
    generalize raB (plan0 plan leaks) (monB y plan leaks) m = v0 at *
    generalize mon0 y plan leaks m = b1 at *
    generalize rowB y leaks m = row at *
    have hin : (A.bool b1) = A.bool (cond (wi top (-1) ((((y.map Cask.c).length : Nat) : Int) - 1)) (((ints x.l).length : Int) == ((y.map Cask.c).length : Int)) false) := by rw [hm0, ll]
    refine Aw.seq (Aw.block ?_)
    refine Aw.sm tab_ok mb0 [(2, [.int top]), (7, [.bool (wi top (-1) ((((y.map Cask.c).length : Nat) : Int) - 1))]), (11, x.c)] rfl rfl ?zo ?zk
    case zo =>
      repeat' apply AllP.cons
      all_goals first | exact trivial | exact id | exact rfl | exact fun _ => rfl | exact Nat.le_of_ble_eq_true rfl | exact fun _ => Nat.le_of_ble_eq_true rfl | exact Int.natCast_nonneg _ | exact fun _ => Int.natCast_nonneg _ | exact within_t _ _ _ | exact hgp | exact (show inR ((((y.map Cask.c).length : Nat) : Int) - 1) by rw [ll]; simp only [inR]; omega) | exact fun _ => hg
    case zk =>
    refine Aw.sm tab_ok mb0 [] rfl rfl ?zo ?zk
    case zo =>
      repeat' apply AllP.cons
      all_goals first | exact trivial
    case zk =>
    refine Aw.block (Aw.rounds 0 hE [(0, .sl b .any (y.map Cask.c)), (1, .sl pb .any (ints plan)), (5, .pt [.sl lb .any (leaks.map NL.c)]), (11, .int m)] (fun i : Nat => [(10, .bool (raB b1 row i)), (12, .int i)]) (fun i => []) (fun i => i ≤ y.length) (fun i => y.length - i) 0 ?zg ⟨?zc, ?zv, ?zh, Nat.le_of_ble_eq_true rfl⟩ ?zu (fun i zhk => ?zw) (fun i zhk => ?zx) fun i hk => ?zr)
    case zg =>
      (repeat' (first | exact Nat.zero_le _))
    case zc =>
      (repeat' (first | (refine And.intro ?_ ?_) | exact trivial | exact A.Le.refl _))
    case zv =>
      (repeat' (first | (refine And.intro ?_ ?_) | exact trivial | exact A.Le.refl _ | exact .of_eq (by rw [raB_zero]; exact hin)))
    case zh =>
      (repeat' (first | exact trivial))
    case zu =>
      (repeat' (first | exact trivial | exact Under.s _ | exact (free_ints _ _ _).under | exact uy | exact ul | (refine And.intro ?_ ?_)))
    case zw =>
      (repeat' (first | exact trivial | exact Under.s _ | (refine And.intro ?_ ?_)))
    case zx =>
      (repeat' (first | exact trivial))
    case zr =>
    refine Aw.seq ?_
    refine Aw.sm tab_ok mb0 [] rfl rfl ?zo ?zk
    case zo =>
      repeat' apply AllP.cons
      all_goals first | exact trivial | exact id | exact fun _ => rfl
    case zk =>
    refine Aw.cond rfl (fun h2 => Aw.skip ?_) (fun h2 => ?_)
    · have h2 : cond (raB b1 row i) (decide ((i : Int) < ((y.map Cask.c).length : Int))) false = true := h2
      have hb2 := ac1 h2
      have hlt2 : i < y.length := by have := of_decide_eq_true (ac2 h2); omega
      have hst2 := raB_step hb2
      have hx2 := (hm0i.1 (raB_iff.1 hb2).1).2
      have hgx := ints_getD (show i < x.l.length by omega)
      have hgc := cask_at hlt2
      have hr := hrow i
      generalize ck y i = c at *
      generalize x.l.getD i 0 = z at *
      generalize hv2 : raB b1 row (i + 1) = v2 at *
      refine Aw.seq (Aw.block ?_)
      refine Aw.ed tab_ok mixed mb0 [(2, x.c), (5, [.int z]), (9, c.c), (15, c.c), (19, [.bool (wi z c.lo c.hi)])] rfl (by kernel_rfl) rfl rfl ?zo ?zk
      case zo =>
        repeat' apply AllP.cons
        all_goals first | exact trivial | exact rfl | exact Nat.le_of_ble_eq_true rfl | exact Int.natCast_nonneg _ | exact within_t _ _ _ | exact hg | exact hgx | exact hgc
      case zk =>
      refine Aw.em tab_ok mb0 [] rfl rfl ?zo ?zk
      case zo =>
        repeat' apply AllP.cons
        all_goals first | exact trivial | exact inrk i (by omega)
      case zk =>
      refine ⟨i + 1, ?zg, ?zm, ⟨?zc, ?zv, ?zh, Nat.le_of_ble_eq_true rfl⟩⟩
      case zg =>
        (repeat' (first | assumption))
      case zm =>
        (repeat' (first | omega))
      case zc =>
        (repeat' (first | (refine And.intro ?_ ?_) | exact trivial | exact A.Le.refl _))
      case zv =>
        (repeat' (first | (refine And.intro ?_ ?_) | exact trivial | exact A.Le.refl _ | exact .of_eq (congrArg A.bool (hv2.trans (hst2.trans hr)))))
      case zh =>
        (repeat' (first | exact trivial))
    · have h2 : cond (raB b1 row i) (decide ((i : Int) < ((y.map Cask.c).length : Int))) false = false := h2
      have hend : raB b1 row i = false ∨ i = y.length := by
        by_cases h3 : raB b1 row i = true
        · rw [h3] at h2
          have h2 : decide ((i : Int) < ((y.map Cask.c).length : Int)) = false := h2
          have := of_decide_eq_false h2
          exact .inr (by omega)
        · exact .inl (by simpa using h3)
      have he := raB_end hk hend
      refine Aw.exit2 ?_
      refine Aw.em tab_ok mb0 [] rfl rfl ?zo ?zk
      case zo =>
        repeat' apply AllP.cons
        all_goals first | exact trivial | exact inrk m (by omega)
      case zk =>
      refine ⟨m + 1, ?zg, ?zm, ⟨?zc, ?zv, ?zh, Nat.le_of_ble_eq_true rfl⟩⟩
      case zg =>
        (repeat' (first | assumption))
      case zm =>
        (repeat' (first | omega))
      case zc =>
        (repeat' (first | (refine And.intro ?_ ?_) | exact trivial | exact A.Le.refl _))
      case zv =>
        (repeat' (first | (refine And.intro ?_ ?_) | exact trivial | exact A.Le.refl _ | exact .of_eq (congrArg A.bool (hv1.trans (hst.trans he.symm)))))
      case zh =>
        (repeat' (first | exact trivial))
  have h1 : cond (raB (plan0 plan leaks) (monB y plan leaks) m) (decide ((m : Int) < ((ints plan).length : Int))) false = false := h1
  have hend : raB (plan0 plan leaks) (monB y plan leaks) m = false ∨ m = plan.length := by
    by_cases h3 : raB (plan0 plan leaks) (monB y plan leaks) m = true
    · rw [h3] at h1
      have h1 : decide ((m : Int) < ((ints plan).length : Int)) = false := h1
      have := of_decide_eq_false h1
      exact .inr (by omega)
    · exact .inl (by simpa using h3)
  have he : raB (plan0 plan leaks) (monB y plan leaks) m = planOk y plan leaks := raB_end hk hend
  rw [he]
  refine Aw.exit2 ?_
  by_cases hpo : planOk y plan leaks = true
  rotate_left
  · have e : RunR y plan leaks = ([], 0, 62) := by unfold RunR; rw [if_pos hyo, if_neg hpo]
    have hpo : planOk y plan leaks = false := by simpa using hpo
    rw [e, hpo]
    refine Aw.seq ?_
    refine Aw.sm tab_ok mb0 [] rfl rfl ?zo ?zk
    case zo =>
      repeat' apply AllP.cons
      all_goals first | exact trivial
    case zk =>
    refine Aw.cond rfl (fun h => ?_) (fun h => by cases h)
    refine Aw.sm tab_ok mb0 [] rfl rfl ?zo ?zk
    case zo =>
      repeat' apply AllP.cons
      all_goals first | exact trivial
    case zk =>
    exact Aw.ret ⟨_, .cons (.tmp _) (.cons (.tmp _) (.cons (.tmp _) .nil)), rfl⟩
  have hP := planOk_iff.1 hpo
  have e : RunR y plan leaks = ((runGo y (lkOf leaks) plan 0 (lev0 y)).1.take y.length, (runGo y (lkOf leaks) plan 0 (lev0 y)).2, 0) := by unfold RunR; rw [if_pos hyo, if_pos hpo]
  rw [e, hpo]
  refine Aw.seq ?_
  refine Aw.sm tab_ok mb0 [] rfl rfl ?zo ?zk
  case zo =>
    repeat' apply AllP.cons
    all_goals first | exact trivial
  case zk =>
  refine Aw.cond rfl (fun h => by cases h) (fun h => Aw.skip ?_)
  have hbeg := begin_t y b hY
  obtain ⟨w0, w1, w2, w3, hw⟩ := four (lev0_ok hY.c).n
  refine Aw.keep (n := 0) (cst := [(0, .sl b .any (y.map Cask.c)), (1, .sl pb .any (ints plan)), (5, .pt [.sl lb .any (leaks.map NL.c)])]) (v := []) (Hl := []) hE ?zu ?zw ?zx ⟨?zc, ?zv, ?zh, Nat.le_of_ble_eq_true rfl⟩ ?zr
  case zu =>
    (repeat' (first | exact trivial | exact (free_ints _ _ _).under | exact uy | exact ul | (refine And.intro ?_ ?_)))
  case zw =>
    (repeat' (first | exact trivial))
  case zx =>
    (repeat' (first | exact trivial))
  case zc =>
    (repeat' (first | (refine And.intro ?_ ?_) | exact trivial | exact A.Le.refl _))
  case zv =>
    (repeat' (first | exact trivial))
  case zh =>
    (repeat' (first | exact trivial))
  case zr =>
  refine Aw.sm tab_ok mb0 [(1, [.agg ((lev0 y).map A.int)])] rfl rfl ?zo ?zk
  case zo =>
    repeat' apply AllP.cons
    all_goals first | exact trivial | exact rfl | exact Nat.le_of_ble_eq_true rfl | exact hbeg
  case zk =>
  have h1e : ∀ id, 1 ≤ id → E.φ0 id = none := fun id _ => hE id (Nat.zero_le _)
  generalize hR : runGo y (lkOf leaks) plan 0 (lev0 y) = R at *
  have hRl : LvOk R.1 := by rw [← hR]; exact runGo_lv hY.c plan 0 _ (fun k i h1 h2 h3 => by have := hP.b k i (by omega) h3; have := ck_ok hY.c i; omega) (lev0_ok hY.c)
  refine Aw.seq ?_
  refine Aw.sm tab_ok mb0 [] rfl rfl ?zo ?zk
  case zo =>
    repeat' apply AllP.cons
    all_goals first | exact trivial
  case zk =>
  refine Aw.block (Aw.rounds 1 h1e [(0, .sl b .any (y.map Cask.c)), (5, .pt [.sl lb .any (leaks.map NL.c)]), (13, .ref 0 0), (92, .sl pb .any (ints plan)), (93, .int plan.length)] (fun i : (Nat×List Int) => [(94, .int i.1)]) (fun i => [(0, lvB i.2)]) (fun i => i.1 ≤ plan.length ∧ LvOk i.2 ∧ runGo y (lkOf leaks) (plan.drop i.1) i.1 i.2 = R) (fun i => plan.length - i.1) (0, lev0 y) ?zg ⟨?zc, ?zv, ?zh, Nat.le_of_ble_eq_true rfl⟩ ?zu (fun i zhk => ?zw) (fun i zhk => ?zx) fun i hk => ?zr)
  case zg =>
    (repeat' (first | exact ⟨Nat.zero_le _, lev0_ok hY.c, hR⟩))
  case zc =>
    (repeat' (first | (refine And.intro ?_ ?_) | exact trivial | exact A.Le.refl _ | exact .of_eq (congrArg A.int lp.symm)))
  case zv =>
    (repeat' (first | (refine And.intro ?_ ?_) | exact trivial | exact A.Le.refl _))
  case zh =>
    (repeat' (first | (refine And.intro ?_ ?_) | exact trivial | exact rfl))
  case zu =>
    (repeat' (first | exact trivial | exact Under.s _ | exact (free_ints _ _ _).under | exact Under.ref _ _ (by decide) | exact uy | exact ul | (refine And.intro ?_ ?_)))
  case zw =>
    (repeat' (first | exact trivial | exact Under.s _ | (refine And.intro ?_ ?_)))
  case zx =>
    (repeat' (first | exact trivial | exact Nat.le_of_ble_eq_true rfl | exact lvB_under _ | (refine And.intro ?_ ?_)))
  case zr =>
  obtain ⟨m, l⟩ := i
  obtain ⟨hm, hl, hrun⟩ := hk
  simp only at hm hl hrun
  refine Aw.sm tab_ok mb0 [] rfl rfl ?zo ?zk
  case zo =>
    repeat' apply AllP.cons
    all_goals first | exact trivial
  case zk =>
  refine Aw.seq (Aw.cond rfl (fun h1 => Aw.skip1 ?_) (fun h1 => Aw.exit2 ?_))
  · have hlt : m < plan.length := by have := of_decide_eq_true h1; omega
    have hd : plan.drop m = plan.getD m 0 :: plan.drop (m + 1) := by rw [List.drop_eq_getElem_cons hlt]; simp [List.getD_eq_getElem?_getD, hlt]
    rw [hd, runGo] at hrun
    have hgp := ints_getD hlt
    have hpm := hP.p m hlt
    have hcall := leaked_t y b hY 72 lb (leaks.map NL.c) fl (lkOf leaks m) m (fun i hi => runOf_t leaks lb (by have := hP.l; omega) (by rw [hP.r m hlt]; exact hi)) (fun i hi => by have := hP.b m i hlt hi; have := ck_ok hY.c i; omega) l hl
    have hlk : LvOk (leakL y (lkOf leaks m) l) := lkK_ok hl fun i hi => by have := hP.b m i hlt hi; have := ck_ok hY.c i; omega
    generalize plan.getD m 0 = top at *
    generalize leakL y (lkOf leaks m) l = G at *
    generalize dryF y (lkOf leaks m) l = d at *
    obtain ⟨a0, a1, a2, a3, rfl⟩ := four hl.n
    obtain ⟨b0, b1, b2, b3, rfl⟩ := four hlk.n
    refine Aw.seq (Aw.block ?_)
    refine Aw.sm tab_ok mb0 [(1, [.int top])] rfl rfl ?zo ?zk
    case zo =>
      repeat' apply AllP.cons
      all_goals first | exact trivial | exact rfl | exact Nat.le_of_ble_eq_true rfl | exact Int.natCast_nonneg _ | exact hgp
    case zk =>
    refine Aw.sm tab_ok mb0 [] rfl rfl ?zo ?zk
    case zo =>
      repeat' apply AllP.cons
      all_goals first | exact trivial
    case zk =>
    refine Aw.seq ?_
    refine Aw.sm tab_ok mb0 [(5, [.tup [.agg (([b0, b1, b2, b3] : List Int).map A.int), .int d]])] rfl rfl ?zo ?zk
    case zo =>
      repeat' apply AllP.cons
      all_goals first | exact trivial | exact rfl | exact Nat.le_of_ble_eq_true rfl | exact hcall
    case zk =>
    refine Aw.sm tab_ok mb0 [] rfl rfl ?zo ?zk
    case zo =>
      repeat' apply AllP.cons
      all_goals first | exact trivial
    case zk =>
    refine Aw.cond rfl (fun h2 => ?_) (fun h2 => Aw.skip ?_)
    · have h2 : d ≥ 0 := of_decide_eq_true h2
      rw [if_pos h2] at hrun
      subst hrun
      refine Aw.freeze (id := 0) (t := 13) (cs := [.int b0, .int b1, .int b2, .int b3]) rfl rfl ?_
      refine Aw.ss rfl ?_
      refine RegL.partE tab_ok mb0 false 5 0 [] ?_
      conv => arg 5; whnf
      refine PartK.mk ?zo ?zk
      case zo =>
        repeat' apply AllP.cons
        all_goals first | exact trivial | exact Nat.le_of_ble_eq_true rfl
      case zk =>
      refine Does.raw rfl (DoesP.slicePt3 tab_ok (a := (y.map Cask.c).length) (cs := [.int b0, .int b1, .int b2, .int b3]) rfl rfl rfl (fun h => by cases h) rfl (Nat.le_of_ble_eq_true rfl) rfl rfl rfl (by omega) (by show (((y.map Cask.c).length : Nat) : Int) ≤ ((4 : Nat) : Int); omega) (Nat.le_of_ble_eq_true rfl) ?_).toR
      have htk : ((([.int b0, .int b1, .int b2, .int b3] : List A).take (Int.toNat ((y.map Cask.c).length : Int))).map fun c => [c]) = ints (([b0, b1, b2, b3] : List Int).take y.length) := by
        rw [← take_ints, List.length_map, Int.toNat_natCast]; rfl
      rw [htk]
      have hne : ([b0, b1, b2, b3] : List Int).take y.length ≠ [] := fun h => by
        have h3 := congrArg List.length h
        rw [List.length_take] at h3
        have h4 : ([b0, b1, b2, b3] : List Int).length = 4 := rfl
        have h5 : ([] : List Int).length = 0 := rfl
        omega
      have hle : (([b0, b1, b2, b3] : List Int).take y.length).length ≤ 4 := by rw [List.length_take]; simp; omega
      have hoA := outA_ne hne
      have h1z := ints_one (([b0, b1, b2, b3] : List Int).take y.length)
      have hil := ints_len (([b0, b1, b2, b3] : List Int).take y.length)
      generalize ([b0, b1, b2, b3] : List Int).take y.length = W at *
      refine RegL.partE tab_ok mb0 false 5 6 [] ?_
      conv => arg 5; whnf
      refine PartK.mk ?zo ?zk
      case zo =>
        repeat' apply AllP.cons
        all_goals first | exact trivial | exact h1z | exact (show (0 + (ints W).length) * 8 ≤ 140737488355328 by omega) | exact (show 0 + (ints W).length ≤ maxLen by unfold maxLen; omega)
      case zk =>
      exact Aw.ret ⟨_, .cons (.tmp _) (.cons (.tmp _) (.cons (.tmp _) .nil)), by unfold runA; simp only; rw [hoA]; rfl⟩
    · have h2 : ¬ d ≥ 0 := of_decide_eq_false h2
      rw [if_neg h2] at hrun
      have hdr : plan.drop (m + 1) = plan.drop (m + 1) := rfl
      refine Aw.sm tab_ok mb0 [] rfl rfl ?zo ?zk
      case zo =>
        repeat' apply AllP.cons
        all_goals first | exact trivial
      case zk =>
      refine Aw.cond rfl (fun h3 => ?_) (fun h3 => Aw.skip ?_)
      · have h3 : 0 ≤ top := of_decide_eq_true h3
        have hfill : fillL y [b0, b1, b2, b3] top = ([b0, b1, b2, b3] : List Int).set top.toNat (ck y top.toNat).full := by unfold fillL; rw [if_pos h3]
        have hok := fill_ok hY.c hlk top
        have hgc := cask_at (show top.toNat < y.length by omega)
        have hsc := congrArg (fun x => some (B.cells x)) (set_cells (l := [b0, b1, b2, b3]) (k := top.toNat) (v := (ck y top.toNat).full) (show top.toNat < 4 by omega))
        rw [← hfill] at hsc
        generalize ck y top.toNat = c at *
        refine Aw.em tab_ok mb0 [(3, c.c)] rfl rfl ?zo ?zk
        case zo =>
          repeat' apply AllP.cons
          all_goals first | exact trivial | exact rfl | exact Nat.le_of_ble_eq_true rfl | exact hgc | exact (show 0 + top.toNat * 1 + 1 ≤ 4 by omega) | exact (by simp only [Ob.of]; omega)
        case zk =>
        refine Aw.em tab_ok mb0 [] rfl rfl ?zo ?zk
        case zo =>
          repeat' apply AllP.cons
          all_goals first | exact trivial | exact inrk m (by omega)
        case zk =>
        refine ⟨(m + 1, fillL y [b0, b1, b2, b3] top), ?zg, ?zm, ⟨?zc, ?zv, ?zh, Nat.le_of_ble_eq_true rfl⟩⟩
        case zg =>
          (repeat' (first | exact ⟨hlt, hok, hrun⟩))
        case zm =>
          (repeat' (first | omega))
        case zc =>
          (repeat' (first | (refine And.intro ?_ ?_) | exact trivial | exact A.Le.refl _))
        case zv =>
          (repeat' (first | (refine And.intro ?_ ?_) | exact trivial | exact A.Le.refl _))
        case zh =>
          (repeat' (first | (refine And.intro ?_ ?_) | exact trivial | exact hsc))
      · have h3 : ¬ 0 ≤ top := of_decide_eq_false h3
        have hfill : fillL y [b0, b1, b2, b3] top = [b0, b1, b2, b3] := by unfold fillL; rw [if_neg h3]
        rw [hfill] at hrun
        refine Aw.em tab_ok mb0 [] rfl rfl ?zo ?zk
        case zo =>
          repeat' apply AllP.cons
          all_goals first | exact trivial | exact inrk m (by omega)
        case zk =>
        refine ⟨(m + 1, [b0, b1, b2, b3]), ?zg, ?zm, ⟨?zc, ?zv, ?zh, Nat.le_of_ble_eq_true rfl⟩⟩
        case zg =>
          (repeat' (first | exact ⟨hlt, hlk, hrun⟩))
        case zm =>
          (repeat' (first | omega))
        case zc =>
          (repeat' (first | (refine And.intro ?_ ?_) | exact trivial | exact A.Le.refl _))
        case zv =>
          (repeat' (first | (refine And.intro ?_ ?_) | exact trivial | exact A.Le.refl _))
        case zh =>
          (repeat' (first | (refine And.intro ?_ ?_) | exact trivial | exact rfl))
  have hle : m = plan.length := by have := of_decide_eq_false h1; omega
  subst hle
  rw [List.drop_length, runGo] at hrun
  subst hrun
  obtain ⟨b0, b1, b2, b3, rfl⟩ := four hl.n
  refine Aw.keep (n := 1) (cst := [(0, .sl b .any (y.map Cask.c)), (13, .ref 0 0)]) (v := []) (Hl := [(0, lvB [b0, b1, b2, b3])]) h1e ?zu ?zw ?zx ⟨?zc, ?zv, ?zh, Nat.le_of_ble_eq_true rfl⟩ ?zr
  case zu =>
    (repeat' (first | exact trivial | exact Under.ref _ _ (by decide) | exact uy | (refine And.intro ?_ ?_)))
  case zw =>
    (repeat' (first | exact trivial))
  case zx =>
    (repeat' (first | exact trivial | exact Nat.le_of_ble_eq_true rfl | exact lvB_under _ | (refine And.intro ?_ ?_)))
  case zc =>
    (repeat' (first | (refine And.intro ?_ ?_) | exact trivial | exact A.Le.refl _))
  case zv =>
    (repeat' (first | exact trivial))
  case zh =>
    (repeat' (first | (refine And.intro ?_ ?_) | exact trivial | exact rfl))
  case zr =>
  refine Aw.freeze (id := 0) (t := 13) (cs := [.int b0, .int b1, .int b2, .int b3]) rfl rfl ?_
  refine Aw.ss rfl ?_
  refine RegL.partE tab_ok mb0 false 5 0 [] ?_
  conv => arg 5; whnf
  refine PartK.mk ?zo ?zk
  case zo =>
    repeat' apply AllP.cons
    all_goals first | exact trivial | exact Nat.le_of_ble_eq_true rfl
  case zk =>
  refine Does.raw rfl (DoesP.slicePt3 tab_ok (a := (y.map Cask.c).length) (cs := [.int b0, .int b1, .int b2, .int b3]) rfl rfl rfl (fun h => by cases h) rfl (Nat.le_of_ble_eq_true rfl) rfl rfl rfl (by omega) (by show (((y.map Cask.c).length : Nat) : Int) ≤ ((4 : Nat) : Int); omega) (Nat.le_of_ble_eq_true rfl) ?_).toR
  have htk : ((([.int b0, .int b1, .int b2, .int b3] : List A).take (Int.toNat ((y.map Cask.c).length : Int))).map fun c => [c]) = ints (([b0, b1, b2, b3] : List Int).take y.length) := by
    rw [← take_ints, List.length_map, Int.toNat_natCast]; rfl
  rw [htk]
  have hne : ([b0, b1, b2, b3] : List Int).take y.length ≠ [] := fun h => by
    have h3 := congrArg List.length h
    rw [List.length_take] at h3
    have h4 : ([b0, b1, b2, b3] : List Int).length = 4 := rfl
    have h5 : ([] : List Int).length = 0 := rfl
    omega
  have hle : (([b0, b1, b2, b3] : List Int).take y.length).length ≤ 4 := by rw [List.length_take]; simp; omega
  have hoA := outA_ne hne
  have h1z := ints_one (([b0, b1, b2, b3] : List Int).take y.length)
  have hil := ints_len (([b0, b1, b2, b3] : List Int).take y.length)
  generalize ([b0, b1, b2, b3] : List Int).take y.length = W at *
  refine RegL.partE tab_ok mb0 false 4 6 [] ?_
  conv => arg 5; whnf
  refine PartK.mk ?zo ?zk
  case zo =>
    repeat' apply AllP.cons
    all_goals first | exact trivial | exact h1z | exact (show (0 + (ints W).length) * 8 ≤ 140737488355328 by omega) | exact (show 0 + (ints W).length ≤ maxLen by unfold maxLen; omega)
  case zk =>
  exact Aw.ret ⟨_, .cons (.tmp _) (.cons (.tmp _) (.cons (.tmp _) .nil)), by unfold runA; simp only; rw [hoA]; rfl⟩
def firstA (r : Int × Int × Int) : A := .tup [.int r.1, .int r.2.1, .int r.2.2]
theorem firstGo_step (y : List Cask) (f m : Nat) (l : List Int) : firstGo y (f + 1) m l = if dryF y (mostOf y) l ≥ 0 then (dryF y (mostOf y) l, (m : Int), 0) else firstGo y f (m + 1) (leakL y (mostOf y) l) := rfl
theorem first_t (y : List Cask) (b : Bool) (hy : (y.length : Int) ≤ 9223372036854775806) (months : Int) : Ans Try.prog 28 [.sl b .any (y.map Cask.c), .int months] (firstA (FirstR y months)) := by
  have fy : Free (.sl b .any (y.map Cask.c)) := free_map Cask.free _ _ _
  have hfr : Free (firstA (FirstR y months)) := .tup _ (allC (.s _) (allC (.s _) (all1 (.s _))))
  have uy : ∀ {m : Nat}, Under m (A.sl b .any (y.map Cask.c)) := fy.under
  have hchk := yard_chk y b hy
  refine told Try.func28 rfl rfl (Pure.of tab_ok Try.func28 rfl Try.ntmps28 rfl (allC (fy) (all1 (.s _))) (allC (fun _ => rfl) (all1 (fun _ => rfl))) (by first | exact .s _ | assumption | exact .tup _ (by intro x hx; simp only [List.mem_cons, List.not_mem_nil, or_false] at hx; rcases hx with rfl | rfl | rfl | rfl <;> first | exact .s _ | (simp_all; done))) fun E hE => ?_)
  refine Aw.sm tab_ok mb0 [] rfl rfl ?zo ?zk
  case zo =>
    repeat' apply AllP.cons
    all_goals first | exact trivial
  case zk =>
  by_cases hyo : yardOk y = true
  rotate_left
  · have e : FirstR y months = (0, 0, 61) := by unfold FirstR; rw [if_neg hyo]
    have e2 : yardChk y = 61 := by unfold yardChk; rw [if_neg hyo]
    rw [e2] at hchk
    rw [e]
    refine Aw.seq ?_
    refine Aw.sm tab_ok mb0 [(1, [.int 61])] rfl rfl ?zo ?zk
    case zo =>
      repeat' apply AllP.cons
      all_goals first | exact trivial | exact hchk
    case zk =>
    refine Aw.sm tab_ok mb0 [] rfl rfl ?zo ?zk
    case zo =>
      repeat' apply AllP.cons
      all_goals first | exact trivial
    case zk =>
    refine Aw.cond rfl (fun h => ?_) (fun h => by cases h)
    refine Aw.sm tab_ok mb0 [] rfl rfl ?zo ?zk
    case zo =>
      repeat' apply AllP.cons
      all_goals first | exact trivial
    case zk =>
    exact Aw.ret ⟨_, .cons (.tmp _) (.cons (.tmp _) (.cons (.tmp _) .nil)), rfl⟩
  have e2 : yardChk y = 0 := by unfold yardChk; rw [if_pos hyo]
  rw [e2] at hchk
  have hY := yardOk_iff.1 hyo
  have hn := hY.n
  refine Aw.seq ?_
  refine Aw.sm tab_ok mb0 [(1, [.int 0])] rfl rfl ?zo ?zk
  case zo =>
    repeat' apply AllP.cons
    all_goals first | exact trivial | exact hchk
  case zk =>
  refine Aw.sm tab_ok mb0 [] rfl rfl ?zo ?zk
  case zo =>
    repeat' apply AllP.cons
    all_goals first | exact trivial
  case zk =>
  refine Aw.cond rfl (fun h => by cases h) (fun h => Aw.skip ?_)
  refine Aw.seq ?_
  refine Aw.sm tab_ok mb0 [(1, [.bool (wi months 0 12)])] rfl rfl ?zo ?zk
  case zo =>
    repeat' apply AllP.cons
    all_goals first | exact trivial | exact within_t _ _ _
  case zk =>
  by_cases hmo : wi months 0 12 = true
  rotate_left
  · have e : FirstR y months = (0, 0, 62) := by unfold FirstR; rw [if_pos hyo, if_neg hmo]
    have hmo : wi months 0 12 = false := by simpa using hmo
    rw [e, hmo]
    refine Aw.cond rfl (fun h => ?_) (fun h => by cases h)
    refine Aw.sm tab_ok mb0 [] rfl rfl ?zo ?zk
    case zo =>
      repeat' apply AllP.cons
      all_goals first | exact trivial
    case zk =>
    exact Aw.ret ⟨_, .cons (.tmp _) (.cons (.tmp _) (.cons (.tmp _) .nil)), rfl⟩
  have e : FirstR y months = firstGo y months.toNat 0 (lev0 y) := by unfold FirstR; rw [if_pos hyo, if_pos hmo]
  have hmw := wi_iff.1 hmo
  rw [e, hmo]
  refine Aw.cond rfl (fun h => by cases h) (fun h => Aw.skip ?_)
  have hbeg := begin_t y b hY
  obtain ⟨w0, w1, w2, w3, hw⟩ := four (lev0_ok hY.c).n
  refine Aw.sm tab_ok mb0 [(1, [.agg ((lev0 y).map A.int)])] rfl rfl ?zo ?zk
  case zo =>
    repeat' apply AllP.cons
    all_goals first | exact trivial | exact rfl | exact Nat.le_of_ble_eq_true rfl | exact hbeg
  case zk =>
  have h1e : ∀ id, 1 ≤ id → E.φ0 id = none := fun id _ => hE id (Nat.zero_le _)
  generalize hR : firstGo y months.toNat 0 (lev0 y) = R at *
  obtain ⟨N, rfl⟩ : ∃ N : Nat, months = N := ⟨months.toNat, by omega⟩
  rw [Int.toNat_natCast] at hR
  refine Aw.seq ?_
  refine Aw.sm tab_ok mb0 [] rfl rfl ?zo ?zk
  case zo =>
    repeat' apply AllP.cons
    all_goals first | exact trivial
  case zk =>
  refine Aw.block (Aw.rounds 1 h1e [(0, .sl b .any (y.map Cask.c)), (8, .ref 0 0), (21, .int N)] (fun i : (Nat×List Int) => [(22, .int i.1)]) (fun i => [(0, lvB i.2)]) (fun i => i.1 ≤ N ∧ LvOk i.2 ∧ firstGo y (N - i.1) i.1 i.2 = R) (fun i => N - i.1) (0, lev0 y) ?zg ⟨?zc, ?zv, ?zh, Nat.le_of_ble_eq_true rfl⟩ ?zu (fun i zhk => ?zw) (fun i zhk => ?zx) fun i hk => ?zr)
  case zg =>
    (repeat' (first | exact ⟨Nat.zero_le _, lev0_ok hY.c, hR⟩))
  case zc =>
    (repeat' (first | (refine And.intro ?_ ?_) | exact trivial | exact A.Le.refl _))
  case zv =>
    (repeat' (first | (refine And.intro ?_ ?_) | exact trivial | exact A.Le.refl _))
  case zh =>
    (repeat' (first | (refine And.intro ?_ ?_) | exact trivial | exact rfl))
  case zu =>
    (repeat' (first | exact trivial | exact Under.s _ | exact Under.ref _ _ (by decide) | exact uy | (refine And.intro ?_ ?_)))
  case zw =>
    (repeat' (first | exact trivial | exact Under.s _ | (refine And.intro ?_ ?_)))
  case zx =>
    (repeat' (first | exact trivial | exact Nat.le_of_ble_eq_true rfl | exact lvB_under _ | (refine And.intro ?_ ?_)))
  case zr =>
  obtain ⟨m, l⟩ := i
  obtain ⟨hm, hl, hrun⟩ := hk
  simp only at hm hl hrun
  refine Aw.sm tab_ok mb0 [] rfl rfl ?zo ?zk
  case zo =>
    repeat' apply AllP.cons
    all_goals first | exact trivial
  case zk =>
  refine Aw.seq (Aw.cond rfl (fun h1 => Aw.skip1 ?_) (fun h1 => Aw.exit2 ?_))
  · have hlt : m < N := by have := of_decide_eq_true h1; omega
    have hsub : N - m = (N - (m + 1)) + 1 := by omega
    rw [hsub, firstGo_step] at hrun
    have hmost := most_t y b
    have hcall := leaked_t y b hY 95 b (y.map Cask.c) fy (mostOf y) m (fun i hi => mostOf_t y b m hi) (fun i hi => by have : mostOf y i = (ck y i).hi := rfl; have := ck_ok hY.c i; omega) l hl
    have hlk : LvOk (leakL y (mostOf y) l) := lkK_ok hl fun i hi => by have : mostOf y i = (ck y i).hi := rfl; have := ck_ok hY.c i; omega
    generalize leakL y (mostOf y) l = G at *
    generalize dryF y (mostOf y) l = d at *
    obtain ⟨a0, a1, a2, a3, rfl⟩ := four hl.n
    obtain ⟨b0, b1, b2, b3, rfl⟩ := four hlk.n
    refine Aw.seq (Aw.block ?_)
    refine Aw.sm tab_ok mb0 [] rfl rfl ?zo ?zk
    case zo =>
      repeat' apply AllP.cons
      all_goals first | exact trivial
    case zk =>
    refine Aw.sm tab_ok mb0 [] rfl rfl ?zo ?zk
    case zo =>
      repeat' apply AllP.cons
      all_goals first | exact trivial
    case zk =>
    refine Aw.sd tab_ok mixed mb0 [(4, [.agg [.fn (.func 95) [] [.pt [.sl b .any (y.map Cask.c)]]]]), (5, [.tup [.agg [.int b0, .int b1, .int b2, .int b3], .int d]])] rfl (by kernel_rfl) rfl rfl ?zo ?zk
    case zo =>
      repeat' apply AllP.cons
      all_goals first | exact trivial | exact rfl | exact Nat.le_of_ble_eq_true rfl | exact hmost | exact hcall
    case zk =>
    refine Aw.sm tab_ok mb0 [] rfl rfl ?zo ?zk
    case zo =>
      repeat' apply AllP.cons
      all_goals first | exact trivial
    case zk =>
    refine Aw.cond rfl (fun h2 => ?_) (fun h2 => Aw.skip ?_)
    · have h2 : d ≥ 0 := of_decide_eq_true h2
      rw [if_pos h2] at hrun
      subst hrun
      refine Aw.sm tab_ok mb0 [] rfl rfl ?zo ?zk
      case zo =>
        repeat' apply AllP.cons
        all_goals first | exact trivial
      case zk =>
      exact Aw.ret ⟨_, .cons (.tmp _) (.cons (.tmp _) (.cons (.tmp _) .nil)), rfl⟩
    · have h2 : ¬ d ≥ 0 := of_decide_eq_false h2
      rw [if_neg h2] at hrun
      refine Aw.em tab_ok mb0 [] rfl rfl ?zo ?zk
      case zo =>
        repeat' apply AllP.cons
        all_goals first | exact trivial | exact inrk m (by omega)
      case zk =>
      refine ⟨(m + 1, [b0, b1, b2, b3]), ?zg, ?zm, ⟨?zc, ?zv, ?zh, Nat.le_of_ble_eq_true rfl⟩⟩
      case zg =>
        (repeat' (first | exact ⟨hlt, hlk, hrun⟩))
      case zm =>
        (repeat' (first | omega))
      case zc =>
        (repeat' (first | (refine And.intro ?_ ?_) | exact trivial | exact A.Le.refl _))
      case zv =>
        (repeat' (first | (refine And.intro ?_ ?_) | exact trivial | exact A.Le.refl _))
      case zh =>
        (repeat' (first | (refine And.intro ?_ ?_) | exact trivial | exact rfl))
  have hle : m = N := by have := of_decide_eq_false h1; omega
  subst hle
  rw [Nat.sub_self, firstGo] at hrun
  subst hrun
  refine Aw.sm tab_ok mb0 [] rfl rfl ?zo ?zk
  case zo =>
    repeat' apply AllP.cons
    all_goals first | exact trivial
  case zk =>
  exact Aw.ret ⟨_, .cons (.tmp _) (.cons (.tmp _) (.cons (.tmp _) .nil)), rfl⟩
end Go.Proofs.Ytampldajinhenaa

set_option maxRecDepth 100000
namespace Go.Proofs.Ytampldajinhenaa
open Go Go.AL Go.AL.Q Go.AL.Br
theorem eq3 (d : Nat) (a b : Int) : pureRun Try.prog (Op.equalIn (d + 1) 3 (.int .i64 a) (.int .i64 b)) = some (a == b) := by rfl
theorem eq4 (d : Nat) (a b : Bool) : pureRun Try.prog (Op.equalIn (d + 1) 4 (.bool a) (.bool b)) = some (a == b) := by rfl
theorem part3 (xs : Array Value) (i : Nat) (x : Value) (h : xs[i]? = some x) (_ : ∃ a : Int, x = Value.int .i64 a) : pureRun Try.prog (part 3 xs (i * 1)) = some x := by
  have h5 : pureRun Try.prog (isAgg 3) = some false := rfl
  simp [part, pureRun_bind, h5, h, pr_pure]
theorem part4 (xs : Array Value) (i : Nat) (x : Value) (h : xs[i]? = some x) (_ : ∃ a : Bool, x = Value.bool a) : pureRun Try.prog (part 4 xs (i * 1)) = some x := by
  have h5 : pureRun Try.prog (isAgg 4) = some false := rfl
  simp [part, pureRun_bind, h5, h, pr_pure]
theorem pureRun_ckArr {P : Program} {em : Bool} {d t e n : Nat} (hu : pureRun P (underlying t) = some (.array n e)) (hsz : pureRun P (sizeOf e) = some 1) (cs : Array Value)
    (hf : ∀ i, i < n → ∃ x, pureRun P (part e cs (i * 1)) = some x ∧ pureRun P (Instr.checkKey em d e x) = some ()) : pureRun P (Instr.checkKey em (d + 1) t (.agg cs)) = some () := by
  simp only [Instr.checkKey, pureRun_bind, hu, Option.bind_some, hsz]
  simp only [Std.Legacy.Range.forIn_eq_forIn_range', Std.Legacy.Range.size, Nat.sub_zero, Nat.add_one_sub_one, Nat.div_one, List.range_eq_range']
  have hm : ∀ i ∈ List.range' 0 n, i < n := fun i hi => by simpa using hi
  revert hm
  generalize List.range' 0 n = is
  intro hm
  induction is with
  | nil => simp [List.forIn_nil, pr_pure]
  | cons j is ih =>
    obtain ⟨x, h1, h2⟩ := hf j (hm j (by simp))
    have ih := ih fun i hi => hm i (by simp [hi])
    simp only [List.forIn_cons, pureRun_bind, hsz, h1, h2, Option.bind_some, pr_pure]
    simpa only [pr_pure] using ih
theorem ck3 (em : Bool) (d : Nat) (a : Int) : pureRun Try.prog (Instr.checkKey em (d + 1) 3 (.int .i64 a)) = some () := rfl
theorem ck4 (em : Bool) (d : Nat) (a : Bool) : pureRun Try.prog (Instr.checkKey em (d + 1) 4 (.bool a)) = some () := rfl
theorem eg111 : Try.prog.eqGuardType Try.prog.depth 111 = false := by kernel_rfl
theorem eg99 : Try.prog.eqGuardType Try.prog.depth 99 = false := by kernel_rfl
theorem und111 : pureRun Try.prog (underlying 111) = some (.array 4 3) := by
  have h : pureRun Try.prog (underlying 111) = Try.prog.underlying 111 := rfl
  rw [h]; exact Try.underlying111
theorem und99 : pureRun Try.prog (underlying 99) = some (.array 10 4) := by
  have h : pureRun Try.prog (underlying 99) = Try.prog.underlying 99 := rfl
  rw [h]; exact Try.underlying99
theorem eq111 {l m : List Int} (hl : l.length = 4) (hm : m.length = 4) (d : Nat) : pureRun Try.prog (Op.equalIn (d + 2) 111 (.agg (l.map (Value.int .i64)).toArray) (.agg (m.map (Value.int .i64)).toArray)) = some (l == m) :=
  pureRun_eqRow und111 rfl (Value.int .i64) part3 (eq3 d) hl hm
theorem eq99 {l m : List Bool} (hl : l.length = 10) (hm : m.length = 10) (d : Nat) : pureRun Try.prog (Op.equalIn (d + 2) 99 (.agg (l.map Value.bool).toArray) (.agg (m.map Value.bool).toArray)) = some (l == m) :=
  pureRun_eqRow und99 rfl Value.bool part4 (eq4 d) hl hm
theorem eqL {l m : List Int} (hl : l.length = 4) (hm : m.length = 4) (x y : Operand) : EqIs tab .eql 111 x y (.agg (l.map A.int)) (.agg (m.map A.int)) (l == m) :=
  (EqIs.row (T := tab) (P := Try.prog) tab_ok und111 rfl eg111 (Value.int .i64) part3 (eq3 _) hl hm x y).2
theorem eqG {l m : List Bool} (hl : l.length = 10) (hm : m.length = 10) (x y : Operand) : EqIs tab .eql 99 x y (.agg (l.map A.bool)) (.agg (m.map A.bool)) (l == m) :=
  (EqIs.row (T := tab) (P := Try.prog) tab_ok und99 rfl eg99 Value.bool part4 (eq4 _) hl hm x y).2
abbrev L4 := { l : List Int // l.length = 4 }
abbrev G10 := { l : List Bool // l.length = 10 }
abbrev Mo := Int × L4
def moE (x : Mo) : List Value := Value.int .i64 x.1 :: x.2.1.map (Value.int .i64)
def gE (g : G10) : List Value := g.1.map Value.bool
theorem eq127 (a b : Mo) : pureRun Try.prog (Op.equal 127 (.agg (moE a).toArray) (.agg (moE b).toArray)) = some (a == b) := by
  obtain ⟨m, l, hl⟩ := a
  obtain ⟨n, k, hk⟩ := b
  obtain ⟨a0, a1, a2, a3, rfl⟩ := four hl
  obtain ⟨b0, b1, b2, b3, rfl⟩ := four hk
  have h1 : pureRun Try.prog (underlying 127) = Try.prog.underlying 127 := rfl
  have h2 : pureRun Try.prog program = some Try.prog := rfl
  have h3 : Try.prog.stoodInHeld 127 = false := by kernel_rfl
  have p1 : ∀ x y z u v : Value, pureRun Try.prog (part 3 #[x, y, z, u, v] 0) = some x := fun x y z u v => rfl
  have p2 : ∀ x y z u v : Value, pureRun Try.prog (part 111 #[x, y, z, u, v] 1) = some (.agg #[y, z, u, v]) := fun x y z u v => rfl
  have pp : ∀ {α : Type} (x : α), pureRun Try.prog (pure x) = some x := fun x => rfl
  have e4 := eq111 (l := [a0, a1, a2, a3]) (m := [b0, b1, b2, b3]) rfl rfl 9997
  simp only [List.map_cons, List.map_nil] at e4
  have hb : (((m, ⟨[a0, a1, a2, a3], hl⟩) : Mo) == (n, ⟨[b0, b1, b2, b3], hk⟩)) = (m == n && ([a0, a1, a2, a3] : List Int) == [b0, b1, b2, b3]) := by
    rw [Bool.eq_iff_iff]; simp
  rw [hb]
  generalize (([a0, a1, a2, a3] : List Int) == [b0, b1, b2, b3]) = q at *
  show pureRun Try.prog (Op.equal 127 (.agg #[.int .i64 m, .int .i64 a0, .int .i64 a1, .int .i64 a2, .int .i64 a3]) (.agg #[.int .i64 n, .int .i64 b0, .int .i64 b1, .int .i64 b2, .int .i64 b3])) = _
  rw [Op.equal, Op.maxDepth, show (10000 : Nat) = 9999 + 1 from rfl, Op.equalIn, pureRun_bind, h1, Try.underlying127]
  simp only [Option.bind_some, pureRun_bind, h2, h3]
  by_cases h : m = n
  · subst h
    cases q <;> simp [pureRun_bind, p1, p2, eq3 9998, e4, pp]
  · have e : (m == n) = false := by simpa using h
    simp [pureRun_bind, p1, eq3 9998, pp, e]
theorem ktyM : KeyTy Try.prog 127 moE where
  und := ⟨_, Try.underlying127, fun _ _ => rfl⟩
  eq := eq127
  ck := fun e a => by
    obtain ⟨m, l, hl⟩ := a
    have h2 : pureRun Try.prog (Instr.checkKey e 9999 111 (.agg (l.map (Value.int .i64)).toArray)) = some () := pureRun_ckArr und111 rfl _ fun i hi =>
      ⟨.int .i64 (l[i]'(by omega)), part3 _ _ _ (by simp [show i < l.length by omega]) ⟨_, rfl⟩, ck3 _ _ _⟩
    obtain ⟨a0, a1, a2, a3, rfl⟩ := four hl
    have p1 : ∀ x y z u v : Value, pureRun Try.prog (part 3 #[x, y, z, u, v] 0) = some x := fun x y z u v => rfl
    have p2 : ∀ x y z u v : Value, pureRun Try.prog (part 111 #[x, y, z, u, v] 1) = some (.agg #[y, z, u, v]) := fun x y z u v => rfl
    have h1 : pureRun Try.prog (underlying 127) = Try.prog.underlying 127 := rfl
    have pp : ∀ {α : Type} (x : α), pureRun Try.prog (pure x) = some x := fun x => rfl
    have k3 := ck3 e 9998 m
    simp only [List.map_cons, List.map_nil] at h2
    show pureRun Try.prog (Instr.checkKey e (9999 + 1) 127 (.agg #[.int .i64 m, .int .i64 a0, .int .i64 a1, .int .i64 a2, .int .i64 a3])) = _
    rw [Instr.checkKey, pureRun_bind, h1, Try.underlying127]
    simp [pureRun_bind, p1, p2, k3, h2, pp]
  bits := fun a => by
    obtain ⟨m, l, hl⟩ := a
    obtain ⟨a0, a1, a2, a3, rfl⟩ := four hl
    simp [Instr.sameBits, moE]
theorem ktyG : KeyTy Try.prog 99 gE where
  und := ⟨_, Try.underlying99, fun _ _ => rfl⟩
  eq := fun a b => by
    have h := eq99 a.2 b.2 9998
    have hb : (a == b) = (a.1 == b.1) := by rw [Bool.eq_iff_iff]; simp [Subtype.ext_iff]
    rw [hb]; exact h
  ck := fun e a => by
    obtain ⟨l, hl⟩ := a
    exact pureRun_ckArr und99 rfl _ fun i hi => ⟨.bool (l[i]'(by omega)), part4 _ _ _ (by simp [gE, show i < l.length by omega]) ⟨_, rfl⟩, ck4 _ _ _⟩
  bits := fun a => by
    obtain ⟨l, hl⟩ := a
    match l, hl with
    | [a0, a1, a2, a3, a4, a5, a6, a7, a8, a9], _ => simp [Instr.sameBits, gE]
end Go.Proofs.Ytampldajinhenaa

namespace Go.Proofs.Ytampldajinhenaa
open Go Go.AL Go.AL.Q Go.AL.Br
def exA : List Int → A
  | [] => .sl true .exact []
  | x :: l => .sl false .exact (ints (x :: l))
theorem exA_free : ∀ l : List Int, Free (exA l)
  | [] => .sl _ _ _ (fun _ h => by cases h)
  | x :: l => free_ints _ _ _
theorem exA_ne {l : List Int} (h : l ≠ []) : exA l = .sl false .exact (ints l) := by
  cases l with
  | nil => exact absurd rfl h
  | cons x l => rfl
def valB (b : Bool) : A := .bool b
def onFn (N : Nat) (b : Bool) (y : List Cask) : A := .fn (.func 80) [] [.pt [.int N], .ref 1 0, .pt [.sl b .any (y.map Cask.c)], .ref 2 0]
def onH (tr : List (Mo × Bool)) (N : Nat) (b : Bool) (y : List Cask) : List (Nat × B) := [(0, .map (encM moE valB tr)), (1, .cells [.mp 0]), (2, .cells [onFn N b y])]
theorem encMo_free (tr : List (Mo × Bool)) : ∀ p ∈ encM moE valB tr, Free p.1 ∧ Free p.2 := fun p hp => by
  obtain ⟨q, _, rfl⟩ := List.mem_map.1 hp
  exact ⟨.agg _ fun x hx => by obtain ⟨v, _, rfl⟩ := List.mem_map.1 hx; exact .s _, .s _⟩
theorem ysl_free (b : Bool) (y : List Cask) : Free (.sl b .any (y.map Cask.c)) := free_map Cask.free _ _ _
theorem onFn_under (N : Nat) (b : Bool) (y : List Cask) {n : Nat} (h : 3 ≤ n) : Under n (onFn N b y) := .fn _ _ _ (fun _ h => nomatch h) (allC (Free.pt _ (all1 (.s _))).under (allC (.ref _ _ (by omega)) (allC (Free.pt _ (all1 (ysl_free b y))).under (all1 (.ref _ _ (by omega))))))
theorem onH_under (tr : List (Mo × Bool)) (N : Nat) (b : Bool) (y : List Cask) {n : Nat} (h : 3 ≤ n) : UnderH n (onH tr N b y) :=
  ⟨⟨by omega, .map _ fun p hp => ⟨(encMo_free tr p hp).1.under, (encMo_free tr p hp).2.under⟩⟩, ⟨by omega, .cells _ (all1 (.mp _ (by omega)))⟩, ⟨by omega, .cells _ (all1 (onFn_under N b y h))⟩, trivial⟩
def InOn (i : Nat) : Prop := i = 0 ∨ i = 1 ∨ i = 2
theorem onH_dom (tr : List (Mo × Bool)) (N : Nat) (b : Bool) (y : List Cask) (i : Nat) : (ofH (onH tr N b y) i).isSome = true ↔ InOn i := by
  simp only [onH, ofH, updH_apply, InOn]
  by_cases h0 : i = 0 <;> by_cases h1 : i = 1 <;> by_cases h2 : i = 2 <;> simp [h0, h1, h2]
theorem onFn_nms (N : Nat) (b : Bool) (y : List Cask) : Nms InOn (onFn N b y) := .fn _ _ _ (fun _ h => nomatch h) (allC (Free.pt _ (all1 (.s _))).nms (allC (.ref _ _ (.inr (.inl rfl))) (allC (Free.pt _ (all1 (ysl_free b y))).nms (all1 (.ref _ _ (.inr (.inr rfl)))))))
theorem onH_nms (tr : List (Mo × Bool)) (N : Nat) (b : Bool) (y : List Cask) (i : Nat) (bx : B) (h : ofH (onH tr N b y) i = some bx) : InOn i ∧ NmsB InOn bx := by
  refine ⟨(onH_dom tr N b y i).1 (by rw [h]; rfl), ?_⟩
  simp only [onH, ofH, updH_apply] at h
  split at h
  · cases h; exact .map _ fun p hp => ⟨(encMo_free tr p hp).1.nms, (encMo_free tr p hp).2.nms⟩
  · split at h
    · cases h; exact .cells _ (all1 (.mp _ (.inl rfl)))
    · split at h
      · cases h; exact .cells _ (all1 (onFn_nms N b y))
      · cases h
def OnPost (y : List Cask) (N f m : Nat) (l plan : List Int) (tr : List (Mo × Bool)) (v : A) (tr' : List (Mo × Bool)) : Prop := match findF y f l with
  | some o => v = .tup [exA (plan ++ o), .bool true]
  | none => v = .tup [.sl true .exact [], .bool false] ∧ ∀ e ∈ tr', e ∈ tr ∨ ((m : Int) ≤ e.1.1 ∧ findF y (N - e.1.1.toNat) e.1.2.1 = none)
theorem OnPost.free {y : List Cask} {N f m : Nat} {l plan : List Int} {tr : List (Mo × Bool)} {v : A} {tr' : List (Mo × Bool)} (h : OnPost y N f m l plan tr v tr') : Free v := by
  unfold OnPost at h
  cases e : findF y f l with
  | some o => rw [e] at h; subst h; exact .tup _ (allC (exA_free _) (all1 (.s _)))
  | none => rw [e] at h; rw [h.1]; exact .tup _ (allC (.sl _ _ _ (fun _ h => by cases h)) (all1 (.s _)))
theorem on_frame {N : Nat} {b : Bool} {y : List Cask} {mo : A} (hmo : Free mo) {x : A} (hx : Free x) {tr : List (Mo × Bool)} {Q : A → List (Mo × Bool) → Prop} (hQ : ∀ v tr', Q v tr' → Free v)
    (h : SCall Try.prog 80 [mo, x, .pt [.int N], .ref 1 0, .pt [.sl b .any (y.map Cask.c)], .ref 2 0] (ofH (onH tr N b y)) 3 (fun v H' _ => ∃ tr', H' = ofH (onH tr' N b y) ∧ Q v tr')) {H : Hp} {c : Nat} (hH : HasH H (onH tr N b y)) :
    SCall Try.prog 80 [mo, x, .pt [.int N], .ref 1 0, .pt [.sl b .any (y.map Cask.c)], .ref 2 0] H c fun v H1 c1 => ∃ tr', Q v tr' ∧ c1 = c ∧ H1 = overH H (ofH (onH tr N b y)) (ofH (onH tr' N b y)) := by
  have dn : (fun i => (ofH (onH tr N b y) i).isSome = true) = InOn := by funext i; exact propext (onH_dom tr N b y i)
  refine (h.frame (H := H) (c := c) (fun id bx hb => ?_) (fun id bx hb => ?_) ?_ ?_).mono ?_
  · rcases (onH_nms tr N b y id bx hb).1 with rfl | rfl | rfl <;> decide
  · rw [dn]; exact ⟨(onH_nms tr N b y id bx hb).2, hH.ofH id bx hb⟩
  · rw [dn]
    exact allC hmo.nms (allC hx.nms (allC (Free.pt _ (all1 (.s _))).nms (allC (.ref _ _ (.inr (.inl rfl))) (allC (Free.pt _ (all1 (ysl_free b y))).nms (all1 (.ref _ _ (.inr (.inr rfl))))))))
  · rintro v H' c' ⟨tr', rfl, hq⟩
    rw [dn]
    refine ⟨(hQ v tr' hq).nms, fun id bx hb => ?_⟩
    have := onH_nms tr' N b y id bx hb
    exact ⟨(onH_dom tr N b y id).2 this.1, this.2⟩
  · rintro v H1 c1 ⟨H', c', ⟨tr', rfl, hq⟩, h2, h3⟩
    exact ⟨tr', hq, h3, h2⟩
theorem mo_lk (tr : List (Mo × Bool)) (x : Mo) : LkIs Try.prog tab 127 4 (encM moE valB tr) (keyA moE x) (.bool ((mget tr x).getD false)) (mget tr x).isSome :=
  ktyM.lk valB tr x (by cases mget tr x <;> rfl) rfl
theorem mget_mem {α V : Type} [BEq α] [LawfulBEq α] {m : List (α × V)} {a : α} {v : V} (h : mget m a = some v) : (a, v) ∈ m := by
  unfold mget at h
  cases e : ixM m a with
  | none => rw [e] at h; cases h
  | some j =>
    rw [e] at h
    obtain ⟨w, hw⟩ := ixM_some e
    have h : (m[j]?).map (·.2) = some v := h
    rw [hw] at h; cases h
    exact List.mem_of_getElem? hw
theorem mput_mem {α V : Type} [BEq α] [LawfulBEq α] {m : List (α × V)} {a : α} {v : V} {e : α × V} (h : e ∈ mput m a v) : e ∈ m ∨ e = (a, v) := by
  unfold mput at h
  cases h2 : ixM m a with
  | none => rw [h2] at h; simpa using h
  | some j => rw [h2] at h; exact List.mem_or_eq_of_mem_set h
theorem set_cells1 {x : A} {l : List Int} {k : Nat} {v : Int} (h : k < l.length) : setSeg (x :: l.map A.int) (1 + k * 1) [A.int v] = x :: (l.set k v).map A.int := by
  have := setSeg_app (l := [x]) (r := l.map A.int) (v := A.int v) (i := k) (by simpa using h)
  simp only [List.length_cons, List.length_nil, List.cons_append, List.nil_append] at this
  rw [Nat.mul_one, Nat.add_comm, show k + 1 = 0 + 1 + k by omega, this, List.map_set]
set_option maxHeartbeats 4000000 in
theorem on_t (y : List Cask) (b : Bool) (hY : YardOk y) (N : Nat) (hN : N ≤ 12) : ∀ (f m : Nat) (l plan : List Int) (tr : List (Mo × Bool)) (hl : LvOk l), m + f = N → plan.length = m →
    (∀ e ∈ tr, e.2 = true ∧ ((m : Int) ≤ e.1.1 → findF y (N - e.1.1.toNat) e.1.2.1 = none)) →
    SCall Try.prog 80 [.agg (.int m :: l.map A.int), outA plan, .pt [.int N], .ref 1 0, .pt [.sl b .any (y.map Cask.c)], .ref 2 0] (ofH (onH tr N b y)) 3 (fun v H' _ => ∃ tr', H' = ofH (onH tr' N b y) ∧ OnPost y N f m l plan tr v tr' ∧ ∀ e ∈ tr', e.2 = true) := by
  intro f
  induction f with
  | zero =>
    intro m l plan tr hl hm hp htr
    have hfn : findF y 0 l = some [] := rfl
    obtain ⟨a0, a1, a2, a3, rfl⟩ := four hl.n
    refine SCall.drop (post := fun v' H' _ => v' = .tup [exA (plan ++ []), .bool true] ∧ HasH H' (onH tr N b y)) (SCall.of_bodyN tab_ok Try.func80 rfl Try.ntmps80 (Nat.le_of_ble_eq_true rfl) (allC (fun _ => rfl) (allC (fun _ => by cases plan <;> rfl) (allC (fun _ => rfl) (allC (fun _ => rfl) (allC (fun _ => rfl) (all1 fun _ => rfl)))))) fun E hE => ?_)
      (fun v H' c' h => ⟨_, h.2.ofH, tr, rfl, by unfold OnPost; rw [hfn]; exact h.1, fun e he => (htr e he).1⟩)
    have hmN : ((m : Int) == (N : Int)) = true := by rw [beq_iff_eq]; omega
    rw [List.append_nil]
    cases plan with
    | nil =>
      refine Aw.sm tab_ok mb0 [] rfl rfl ?zo ?zk
      case zo =>
        repeat' apply AllP.cons
        all_goals first | exact trivial
      case zk =>
      refine Aw.scope ?_
      refine Aw.sm tab_ok mb0 [] rfl rfl ?zo ?zk
      case zo =>
        repeat' apply AllP.cons
        all_goals first | exact trivial
      case zk =>
      refine Aw.seq ?_
      refine Aw.sm tab_ok mb0 [] rfl rfl ?zo ?zk
      case zo =>
        repeat' apply AllP.cons
        all_goals first | exact trivial | exact Nat.le_of_ble_eq_true rfl
      case zk =>
      refine Aw.cond rfl (fun _ => ?_) (fun h2 => absurd (show ((m : Int) == (N : Int)) = false from h2) (by rw [hmN]; decide))
      refine Aw.sm tab_ok mb0 [] rfl rfl ?zo ?zk
      case zo =>
        repeat' apply AllP.cons
        all_goals first | exact trivial | exact rfl | exact Int.natCast_nonneg _
      case zk =>
      exact Aw.ret ⟨_, .cons (.tmp _) (.cons (.tmp _) .nil), rfl, ⟨rfl, rfl, rfl, trivial⟩⟩
    | cons x p =>
      refine Aw.sm tab_ok mb0 [] rfl rfl ?zo ?zk
      case zo =>
        repeat' apply AllP.cons
        all_goals first | exact trivial
      case zk =>
      refine Aw.scope ?_
      refine Aw.sm tab_ok mb0 [] rfl rfl ?zo ?zk
      case zo =>
        repeat' apply AllP.cons
        all_goals first | exact trivial
      case zk =>
      refine Aw.seq ?_
      refine Aw.sm tab_ok mb0 [] rfl rfl ?zo ?zk
      case zo =>
        repeat' apply AllP.cons
        all_goals first | exact trivial | exact Nat.le_of_ble_eq_true rfl
      case zk =>
      refine Aw.cond rfl (fun _ => ?_) (fun h2 => absurd (show ((m : Int) == (N : Int)) = false from h2) (by rw [hmN]; decide))
      refine Aw.sm tab_ok mb0 [] rfl rfl ?zo ?zk
      case zo =>
        repeat' apply AllP.cons
        all_goals first | exact trivial | exact rfl | exact Int.natCast_nonneg _ | exact Int.le_refl _
      case zk =>
      have ht : (ints (x :: p)).take (Int.toNat ((ints (x :: p)).length : Int)) = ints (x :: p) := by rw [Int.toNat_natCast, List.take_length]
      refine Aw.ret ⟨_, .cons (.tmp _) (.cons (.tmp _) .nil), ?_, ⟨rfl, rfl, rfl, trivial⟩⟩
      show A.tup [.sl false .exact ((ints (x :: p)).take (Int.toNat ((ints (x :: p)).length : Int))), .bool true] = _
      rw [ht]; rfl
  | succ f ih =>
    intro m l plan tr hl hm hp htr
    obtain ⟨a0, a1, a2, a3, hl4⟩ := four hl.n
    have hfs : findF y (f + 1) l = if dryF y (mostOf y) l ≥ 0 then none else findGo (findF y f) y (leakL y (mostOf y) l) (List.range y.length) := rfl
    have hn := hY.n
    have hpo : ∀ {n : Nat}, Under n (outA plan) := (outA_free plan).under
    have hmN : ((m : Int) == (N : Int)) = false := by rw [beq_eq_false_iff_ne]; omega
    have uy : ∀ {m : Nat}, Under m (A.pt [.sl b .any (y.map Cask.c)]) := (Free.pt _ (all1 (ysl_free b y))).under
    have uh : ∀ (tr : List (Mo × Bool)) {n : Nat}, 3 ≤ n → UnderH n (onH tr N b y) := fun tr n h => onH_under tr N b y h
    have fmo : Free (.agg (.int m :: l.map A.int)) := .agg _ (allC (.s _) (lv_free l))
    generalize hK : ((m : Int), (⟨l, hl.n⟩ : L4)) = K
    have hK1 : K.1 = m := by rw [← hK]
    have hK2 : K.2.1 = l := by rw [← hK]
    have hkA : keyA moE K = .agg (.int m :: l.map A.int) := by
      rw [← hK]; show A.agg (A.s _ :: (l.map (Value.int .i64)).map A.s) = _; rw [List.map_map]; rfl
    have hlk := mo_lk tr K
    have hup := ktyM.up valB tr K true
    have hhas := ktyM.has valB tr K
    rw [hkA] at hlk hup hhas
    have hfree : ∀ v tr', (OnPost y N (f + 1) m l plan tr v tr' ∧ ∀ e ∈ tr', e.2 = true) → Free v := fun v tr' h => h.1.free
    rw [hl4] at hlk hup hhas
    rw [hl4]
    refine SCall.drop (post := fun v H' _ => ∃ tr', HasH H' (onH tr' N b y) ∧ OnPost y N (f + 1) m l plan tr v tr' ∧ ∀ e ∈ tr', e.2 = true) (SCall.of_bodyN tab_ok Try.func80 rfl Try.ntmps80 (Nat.le_of_ble_eq_true rfl) (allC (fun _ => rfl) (allC (fun _ => by cases plan <;> rfl) (allC (fun _ => rfl) (allC (fun _ => rfl) (allC (fun _ => rfl) (all1 fun _ => rfl)))))) fun E hE => ?_)
      (fun v H' c' h => by obtain ⟨tr', h1, h2⟩ := h; exact ⟨_, h1.ofH, tr', rfl, by rw [← hl4]; exact h2.1, h2.2⟩)
    have ucst : UnderL 3 [(1, outA plan), (2, .pt [.int N]), (3, .ref 1 0), (4, .pt [.sl b .any (y.map Cask.c)]), (5, .ref 2 0), (6, .pt [.int m, .int a0, .int a1, .int a2, .int a3]), (10, .int plan.length)] := ⟨hpo, .pt _ (all1 (.s _)), .ref _ _ (by decide), uy, .ref _ _ (by decide), .pt _ (allC (.s _) (allC (.s _) (allC (.s _) (allC (.s _) (all1 (.s _)))))), .s _, trivial⟩
    refine Aw.sm tab_ok mb0 [] rfl rfl ?zo ?zk
    case zo =>
      repeat' apply AllP.cons
      all_goals first | exact trivial
    case zk =>
    refine Aw.scope ?_
    have hlen : A.Le (.int plan.length) (.int m) := .of_eq (by rw [hp])
    refine Aw.join1 3 hE [(1, outA plan), (2, .pt [.int N]), (3, .ref 1 0), (4, .pt [.sl b .any (y.map Cask.c)]), (5, .ref 2 0), (6, .pt [.int m, .int a0, .int a1, .int a2, .int a3]), (10, .int plan.length)] [] (onH tr N b y) ucst trivial (uh tr (Nat.le_refl _)) ?_ ?_
    · cases plan with
      | nil =>
        refine Aw.em tab_ok mb0 [] rfl rfl ?zo ?zk
        case zo =>
          repeat' apply AllP.cons
          all_goals first | exact trivial
        case zk =>
        exact ⟨⟨.refl _, .refl _, .refl _, .refl _, .refl _, .refl _, .refl _, trivial⟩, trivial, ⟨rfl, rfl, rfl, trivial⟩, Nat.le_refl _⟩
      | cons x p =>
        have hil : A.Le (.int (x :: p).length) (.int (ints (x :: p)).length) := .of_eq (by rw [ints_len])
        refine Aw.em tab_ok mb0 [] rfl rfl ?zo ?zk
        case zo =>
          repeat' apply AllP.cons
          all_goals first | exact trivial
        case zk =>
        exact ⟨⟨.refl _, .refl _, .refl _, .refl _, .refl _, .refl _, hil, trivial⟩, trivial, ⟨rfl, rfl, rfl, trivial⟩, Nat.le_refl _⟩
    refine Aw.seq ?_
    refine Aw.sm tab_ok mb0 [] rfl rfl ?zo ?zk
    case zo =>
      repeat' apply AllP.cons
      all_goals first | exact trivial | exact Nat.le_of_ble_eq_true rfl
    case zk =>
    refine Aw.cond rfl (fun h2 => absurd (show ((m : Int) == (N : Int)) = true from h2) (by rw [hmN]; decide)) (fun _ => Aw.skip ?_)
    refine Aw.seq ?_
    refine Aw.sm tab_ok mb0 [(2, [.bool ((mget tr K).getD false), .bool (mget tr K).isSome])] rfl rfl ?zo ?zk
    case zo =>
      repeat' apply AllP.cons
      all_goals first | exact trivial | exact Nat.le_of_ble_eq_true rfl | exact hlk
    case zk =>
    refine Aw.cond rfl (fun h2 => ?_) (fun h2 => Aw.skip ?_)
    · have h2 : (mget tr K).getD false = true := h2
      have hmem : (K, true) ∈ tr := by
        cases e : mget tr K with
        | none => rw [e] at h2; cases h2
        | some q => rw [e] at h2; have h2 : q = true := h2; subst h2; exact mget_mem e
      have hno := (htr _ hmem).2 (by show (m : Int) ≤ K.1; rw [hK1]; exact Int.le_refl _)
      have hno : findF y (f + 1) l = none := by
        have e1 : (K.1).toNat = m := by rw [hK1]; exact Int.toNat_natCast _
        have hno : findF y (N - K.1.toNat) K.2.1 = none := hno
        rwa [e1, hK2, show N - m = f + 1 by omega] at hno
      refine Aw.sm tab_ok mb0 [] rfl rfl ?zo ?zk
      case zo =>
        repeat' apply AllP.cons
        all_goals first | exact trivial
      case zk =>
      refine Aw.ret ⟨_, .cons (.tmp _) (.cons (.tmp _) .nil), tr, ⟨rfl, rfl, rfl, trivial⟩, ?_, fun e he => (htr e he).1⟩
      unfold OnPost
      rw [hno]
      exact ⟨rfl, fun e he => .inl he⟩
    have hmput : ∀ e ∈ mput tr K true, e.2 = true ∧ ((m : Int) + 1 ≤ e.1.1 → findF y (N - e.1.1.toNat) e.1.2.1 = none) := fun e he => by
      rcases mput_mem he with h | rfl
      · exact ⟨(htr e h).1, fun h3 => (htr e h).2 (by omega)⟩
      · refine ⟨rfl, fun h3 => ?_⟩
        have h3 : (m : Int) + 1 ≤ K.1 := h3
        rw [hK1] at h3; omega
    refine Aw.sm tab_ok mb0 [] rfl rfl ?zo ?zk
    case zo =>
      repeat' apply AllP.cons
      all_goals first | exact trivial | exact Nat.le_of_ble_eq_true rfl | exact hhas
    case zk =>
    have hmost := most_t y b
    have hcall := leaked_t y b hY 95 b (y.map Cask.c) (ysl_free b y) (mostOf y) m (fun i hi => mostOf_t y b m hi) (fun i hi => by have : mostOf y i = (ck y i).hi := rfl; have := ck_ok hY.c i; omega) l hl
    have hlk2 : LvOk (leakL y (mostOf y) l) := lkK_ok hl fun i hi => by have : mostOf y i = (ck y i).hi := rfl; have := ck_ok hY.c i; omega
    generalize hG : leakL y (mostOf y) l = G at *
    generalize hd : dryF y (mostOf y) l = d at *
    obtain ⟨b0, b1, b2, b3, hG4⟩ := four hlk2.n
    rw [hl4, hG4] at hcall
    refine Aw.keep (n := 3) (cst := [(1, outA plan), (2, .pt [.int N]), (3, .ref 1 0), (4, .pt [.sl b .any (y.map Cask.c)]), (5, .ref 2 0), (6, .pt [.int m, .int a0, .int a1, .int a2, .int a3]), (10, .int plan.length)]) (v := []) (Hl := onH (mput tr K true) N b y) hE ?zu ?zw ?zx ⟨?zc, ?zv, ?zh, Nat.le_of_ble_eq_true rfl⟩ ?zr
    case zu =>
      (repeat' (first | assumption))
    case zw =>
      (repeat' (first | exact trivial))
    case zx =>
      (repeat' (first | exact uh _ (Nat.le_refl _)))
    case zc =>
      (repeat' (first | (refine And.intro ?_ ?_) | exact trivial | exact A.Le.refl _))
    case zv =>
      (repeat' (first | exact trivial))
    case zh =>
      (repeat' (first | (refine And.intro ?_ ?_) | exact trivial | exact rfl | exact congrArg (fun x => some (B.map x)) hup))
    case zr =>
    refine Aw.sd tab_ok mixed mb0 [(6, [.agg [.fn (.func 95) [] [.pt [.sl b .any (y.map Cask.c)]]]]), (7, [.tup [.agg [.int b0, .int b1, .int b2, .int b3], .int d]])] rfl (by kernel_rfl) rfl rfl ?zo ?zk
    case zo =>
      repeat' apply AllP.cons
      all_goals first | exact trivial | exact rfl | exact Nat.le_of_ble_eq_true rfl | exact hmost | exact hcall
    case zk =>
    refine Aw.seq ?_
    refine Aw.sm tab_ok mb0 [] rfl rfl ?zo ?zk
    case zo =>
      repeat' apply AllP.cons
      all_goals first | exact trivial
    case zk =>
    refine Aw.cond rfl (fun h2 => ?_) (fun h2 => Aw.skip ?_)
    · have h2 : d ≥ 0 := of_decide_eq_true h2
      rw [if_pos h2] at hfs
      refine Aw.sm tab_ok mb0 [] rfl rfl ?zo ?zk
      case zo =>
        repeat' apply AllP.cons
        all_goals first | exact trivial
      case zk =>
      refine Aw.ret ⟨_, .cons (.tmp _) (.cons (.tmp _) .nil), mput tr K true, ⟨rfl, rfl, rfl, trivial⟩, ?_, fun e he => (hmput e he).1⟩
      unfold OnPost
      rw [hfs]
      refine ⟨rfl, fun e he => ?_⟩
      rcases mput_mem he with h | rfl
      · exact .inl h
      · refine .inr ⟨by show (m : Int) ≤ K.1; rw [hK1]; exact Int.le_refl _, ?_⟩
        show findF y (N - K.1.toNat) K.2.1 = none
        rw [hK2, hK1, Int.toNat_natCast, show N - m = f + 1 by omega, hfs]
    have h2 : ¬ d ≥ 0 := of_decide_eq_false h2
    rw [if_neg h2] at hfs
    refine Aw.seq (Aw.label ?_)
    have h4e : ∀ id, 17 ≤ id → E.φ0 id = none := fun id _ => hE id (by omega)
    refine Aw.seq ?_
    refine Aw.sm tab_ok mb0 [] rfl rfl ?zo ?zk
    case zo =>
      repeat' apply AllP.cons
      all_goals first | exact trivial | exact Nat.le_of_ble_eq_true rfl
    case zk =>
    have lly : ((y.map Cask.c).length : Int) = y.length := by simp
    generalize hR : findGo (findF y f) y G (List.range y.length) = R at *
    refine Aw.block (Aw.rounds 17 h4e [(1, outA plan), (4, .pt [.sl b .any (y.map Cask.c)]), (5, .ref 2 0), (6, .pt [.int m, .int a0, .int a1, .int a2, .int a3]), (10, .int plan.length), (11, .ref 14 0), (46, .int y.length)] (fun i : (Nat×List (Mo×Bool)) => [(47, .int i.1)]) (fun i => onH i.2 N b y ++ [(14, lvB G)]) (fun i => i.1 ≤ y.length ∧ findGo (findF y f) y G ((List.range y.length).drop i.1) = R ∧ (∀ e ∈ i.2, e.2 = true ∧ (e ∈ tr ∨ e = (K, true) ∨ ((m : Int) + 1 ≤ e.1.1 ∧ findF y (N - e.1.1.toNat) e.1.2.1 = none)))) (fun i => y.length - i.1) (0, mput tr K true) ?zg ⟨?zc, ?zv, ?zh, Nat.le_of_ble_eq_true rfl⟩ ?zu (fun i zhk => ?zw) (fun i zhk => ?zx) fun i hk => ?zr)
    case zg =>
      (repeat' (first | exact ⟨Nat.zero_le _, hR, fun e he => ⟨(hmput e he).1, (mput_mem he).imp id .inl⟩⟩))
    case zc =>
      (repeat' (first | (refine And.intro ?_ ?_) | exact trivial | exact A.Le.refl _ | exact .of_eq (congrArg A.int lly.symm)))
    case zv =>
      (repeat' (first | (refine And.intro ?_ ?_) | exact trivial | exact A.Le.refl _))
    case zh =>
      (repeat' (first | (refine And.intro ?_ ?_) | exact trivial | exact rfl | exact congrArg (fun x => some (lvB x)) hG4.symm))
    case zu =>
      (repeat' (first | exact trivial | exact Under.s _ | exact Under.ref _ _ (by decide) | exact uy | exact hpo | exact (Free.pt _ (allC (.s _) (allC (.s _) (allC (.s _) (allC (.s _) (all1 (.s _))))))).under | (refine And.intro ?_ ?_)))
    case zw =>
      (repeat' (first | exact trivial | exact Under.s _ | (refine And.intro ?_ ?_)))
    case zx =>
      (repeat' (first | exact trivial | exact Nat.le_of_ble_eq_true rfl | exact lvB_under _ | exact .map _ fun p hp => ⟨(encMo_free _ p hp).1.under, (encMo_free _ p hp).2.under⟩ | exact .cells _ (all1 (.mp _ (by decide))) | exact .cells _ (all1 (onFn_under N b y (Nat.le_of_ble_eq_true rfl))) | (refine And.intro ?_ ?_)))
    case zr =>
    obtain ⟨k, tr3⟩ := i
    obtain ⟨hk, hrun, hin3⟩ := hk
    simp only at hk hrun hin3
    refine Aw.sm tab_ok mb0 [] rfl rfl ?zo ?zk
    case zo =>
      repeat' apply AllP.cons
      all_goals first | exact trivial
    case zk =>
    refine Aw.seq (Aw.cond rfl (fun h1 => Aw.skip1 ?_) (fun h1 => Aw.exit2 ?_))
    · have hlt : k < y.length := by have := of_decide_eq_true h1; omega
      have hdr : (List.range y.length).drop k = k :: (List.range y.length).drop (k + 1) := by
        rw [List.drop_eq_getElem_cons (by simpa using hlt)]; simp
      rw [hdr, findGo] at hrun
      have hgc := cask_at hlt
      have hnx := hlk2.set k (x := (ck y k).full) (by have := ck_ok hY.c k; omega)
      have hsc := set_cells1 (x := .int ((m : Int) + 1)) (l := G) (k := k) (v := (ck y k).full) (by rw [hlk2.n]; omega)
      have hbl : setSeg ([A.int ((m : Int) + 1), .int b0, .int b1, .int b2, .int b3]) (1 + Int.toNat (k : Int) * 1) [A.int (ck y k).full] = .int ((m : Int) + 1) :: (G.set k (ck y k).full).map A.int := by
        rw [← hsc, hG4, Int.toNat_natCast]; rfl
      generalize ck y k = c at *
      generalize hnxe : G.set k c.full = NX at *
      obtain ⟨n0, n1, n2, n3, hN4⟩ := four hnx.n
      refine Aw.seq (Aw.block ?_)
      refine Aw.sm tab_ok mb0 [] rfl rfl ?zo ?zk
      case zo =>
        repeat' apply AllP.cons
        all_goals first | exact trivial
      case zk =>
      rw [hG4]
      refine Aw.sm tab_ok mb0 [] rfl rfl ?zo ?zk
      case zo =>
        repeat' apply AllP.cons
        all_goals first | exact trivial | exact rfl | exact Nat.le_of_ble_eq_true rfl | exact (by simp only [Ob.of, inR]; omega)
      case zk =>
      refine Aw.sm tab_ok mb0 [(3, c.c)] rfl rfl ?zo ?zk
      case zo =>
        repeat' apply AllP.cons
        all_goals first | exact trivial | exact rfl | exact Nat.le_of_ble_eq_true rfl | exact Int.natCast_nonneg _ | exact hgc | exact (show 1 + Int.toNat (k : Int) * 1 + 1 ≤ 5 by omega) | exact (by simp only [Ob.of]; omega)
      case zk =>
      have hbl2 : B.cells (setSeg ([A.int ((m : Int) + 1), .int b0, .int b1, .int b2, .int b3]) (1 + Int.toNat (k : Int) * 1) [A.int c.full]) = .cells [.int ((m : Int) + 1), .int n0, .int n1, .int n2, .int n3] := by rw [hbl, hN4]; rfl
      have h5e : ∀ id, 18 ≤ id → E.φ0 id = none := fun id _ => hE id (by omega)
      refine Aw.keep (n := 18) (cst := [(1, outA plan), (4, .pt [.sl b .any (y.map Cask.c)]), (5, .ref 2 0), (6, .pt [.int m, .int a0, .int a1, .int a2, .int a3]), (10, .int plan.length), (11, .ref 14 0), (46, .int y.length), (13, .int k), (14, .ref 17 0)]) (v := [(47, .int k)]) (Hl := onH tr3 N b y ++ [(14, lvB [b0, b1, b2, b3]), (17, .cells [.int ((m : Int) + 1), .int n0, .int n1, .int n2, .int n3])]) h5e ?zu ?zw ?zx ⟨?zc, ?zv, ?zh, Nat.le_of_ble_eq_true rfl⟩ ?zr
      case zu =>
        (repeat' (first | exact trivial | exact Under.s _ | exact Under.ref _ _ (by decide) | exact uy | exact hpo | exact (Free.pt _ (allC (.s _) (allC (.s _) (allC (.s _) (allC (.s _) (all1 (.s _))))))).under | (refine And.intro ?_ ?_)))
      case zw =>
        (repeat' (first | exact trivial | exact Under.s _ | (refine And.intro ?_ ?_)))
      case zx =>
        (repeat' (first | exact trivial | exact Nat.le_of_ble_eq_true rfl | exact lvB_under _ | exact .map _ fun p hp => ⟨(encMo_free _ p hp).1.under, (encMo_free _ p hp).2.under⟩ | exact .cells _ (all1 (.mp _ (by decide))) | exact .cells _ (all1 (onFn_under N b y (Nat.le_of_ble_eq_true rfl))) | exact .cells _ (allC (.s _) (allC (.s _) (allC (.s _) (allC (.s _) (all1 (.s _)))))) | (refine And.intro ?_ ?_)))
      case zc =>
        (repeat' (first | (refine And.intro ?_ ?_) | exact trivial | exact A.Le.refl _))
      case zv =>
        (repeat' (first | (refine And.intro ?_ ?_) | exact trivial | exact A.Le.refl _))
      case zh =>
        (repeat' (first | (refine And.intro ?_ ?_) | exact trivial | exact rfl | exact congrArg some hbl2))
      case zr =>
      refine Aw.seq ?_
      refine Aw.sm tab_ok mb0 [(3, [.bool (NX == G)])] rfl rfl ?zo ?zk
      case zo =>
        repeat' apply AllP.cons
        all_goals first | exact trivial | exact id | exact fun _ => rfl | exact Nat.le_of_ble_eq_true rfl | exact (by rw [hN4, hG4]; exact eqL (l := [n0, n1, n2, n3]) (m := [b0, b1, b2, b3]) rfl rfl _ _)
      case zk =>
      have hcE : ∀ q : Bool, cond (NX == G) (decide ((k : Int) > 0)) false = q → cond (NX == G) (decide (0 < k)) false = q := fun q h => by
        rw [← h]; congr 1; rw [decide_eq_decide]; omega
      refine Aw.cond rfl (fun h3 => ?_) (fun h3 => Aw.skip ?_)
      · have h3 := hcE _ h3
        rw [h3] at hrun
        have hrun : findGo (findF y f) y G ((List.range y.length).drop (k + 1)) = R := hrun
        refine Aw.exit (thenE (blkE ?_))
        refine Aw.em tab_ok mb0 [] rfl rfl ?zo ?zk
        case zo =>
          repeat' apply AllP.cons
          all_goals first | exact trivial | exact inrk k (by omega)
        case zk =>
        refine ⟨(k + 1, tr3), ?zg, ?zm, ⟨?zc, ?zv, ?zh, Nat.le_of_ble_eq_true rfl⟩⟩
        case zg =>
          (repeat' (first | exact ⟨hlt, hG4 ▸ hrun, hin3⟩))
        case zm =>
          (repeat' (first | omega))
        case zc =>
          (repeat' (first | (refine And.intro ?_ ?_) | exact trivial | exact A.Le.refl _))
        case zv =>
          (repeat' (first | (refine And.intro ?_ ?_) | exact trivial | exact A.Le.refl _))
        case zh =>
          (repeat' (first | (refine And.intro ?_ ?_) | exact trivial | exact rfl))
      have h3 := hcE _ h3
      rw [h3] at hrun
      have hrun : (match findF y f NX with | some o => some ((k : Int) :: o) | none => findGo (findF y f) y G ((List.range y.length).drop (k + 1))) = R := hrun
      have hcall := ih (m + 1) NX (plan ++ [(k : Int)]) tr3 hnx (by omega) (by simp [hp]) (fun e he => ⟨(hin3 e he).1, fun h4 => by
        have h4 : (m : Int) + 1 ≤ e.1.1 := h4
        rcases (hin3 e he).2 with h | rfl | h
        · exact (htr e h).2 (by omega)
        · have h4 : (m : Int) + 1 ≤ K.1 := h4
          rw [hK1] at h4; omega
        · exact h.2⟩)
      rw [hN4, show (((m + 1 : Nat)) : Int) = (m : Int) + 1 from rfl] at hcall
      have hcall : SCall Try.prog 80 [.agg [.int ((m : Int) + 1), .int n0, .int n1, .int n2, .int n3], outA (plan ++ [(k : Int)]), .pt [.int N], .ref 1 0, .pt [.sl b .any (y.map Cask.c)], .ref 2 0] (ofH (onH tr3 N b y)) 3 (fun v H' _ => ∃ tr', H' = ofH (onH tr' N b y) ∧ OnPost y N f (m + 1) NX (plan ++ [(k : Int)]) tr3 v tr' ∧ ∀ e ∈ tr', e.2 = true) := by rw [hN4]; exact hcall
      have fmo2 : Free (.agg [.int ((m : Int) + 1), .int n0, .int n1, .int n2, .int n3]) := .agg _ (allC (.s _) (allC (.s _) (allC (.s _) (allC (.s _) (all1 (.s _))))))
      have hfree2 : ∀ v tr', (OnPost y N f (m + 1) NX (plan ++ [(k : Int)]) tr3 v tr' ∧ ∀ e ∈ tr', e.2 = true) → Free v := fun v tr' h => h.1.free
      have hone : ∀ z ∈ [[A.int (k : Int)]], z.length = 1 := fun z hz => by simp at hz; subst hz; rfl
      refine Aw.seq (SegW.start mixed ?_)
      cases hpl : plan with
      | nil =>
        have hx0 : outA (plan ++ [(k : Int)]) = .sl false .any ([] ++ [[.int (k : Int)]]) := by rw [hpl]; rfl
        have fx : Free (A.sl false .any (([] : List (List A)) ++ [[.int (k : Int)]])) := hx0 ▸ outA_free _
        rw [hx0] at hcall
        have hb2 : ((([] : List (List A)).length + 1) * 8 ≤ 140737488355328) := Nat.le_of_ble_eq_true rfl
        refine SegW.run (b := 0) tab_ok mb0 9 [] rfl (by kernel_rfl) rfl rfl ?zo ?zk
        case zo =>
          repeat' apply AllP.cons
          all_goals first | exact trivial | exact id | exact rfl | exact Nat.le_of_ble_eq_true rfl | exact hone | exact Int.le_refl _ | exact (by rw [hpl]; exact Nat.le_of_ble_eq_true rfl)
        case zk =>
        refine SegW.step rfl (by kernel_rfl) rfl (fun i h1 h2 => by have h2 : i < 15 := h2; obtain rfl | rfl | rfl | rfl | rfl := (show i = 10 ∨ i = 11 ∨ i = 12 ∨ i = 13 ∨ i = 14 by omega) <;> rfl) (Does.raw rfl (DoesR.call (fst := []) (cap := [.pt [.int N], .ref 1 0, .pt [.sl b .any (y.map Cask.c)], .ref 2 0]) rfl rfl (enters_of Try.func80 rfl rfl) (on_frame fmo2 fx hfree2 hcall (H := _) (c := _) ⟨rfl, rfl, rfl, trivial⟩) ?_))
        rintro v H' c' ⟨tr4, ⟨hq, hq2⟩, rfl, rfl⟩
        unfold OnPost at hq
        cases hfd : findF y f NX with
        | some o =>
          rw [hfd] at hq hrun
          have hrun : some ((k : Int) :: o) = R := hrun
          have hq : v = .tup [.sl false .exact (ints (([] : List Int) ++ [(k : Int)] ++ o)), .bool true] := by rw [← exA_ne (by simp), show v = .tup [exA (plan ++ [(k : Int)] ++ o), .bool true] from hq, hpl]
          subst hq
          subst hrun
          refine SegW.run (b := 10) tab_ok mb0 5 [] rfl (by kernel_rfl) rfl rfl ?zo2 ?zk2
          case zo2 =>
            repeat' apply AllP.cons
            all_goals first | exact trivial | exact id | exact rfl
          case zk2 =>
          refine SegW.done (by kernel_rfl) (Nat.le_of_ble_eq_true rfl) ?_
          refine Aw.sm tab_ok mb0 [] rfl rfl ?zo ?zk
          case zo =>
            repeat' apply AllP.cons
            all_goals first | exact trivial
          case zk =>
          refine Aw.cond rfl (fun _ => ?_) (fun h4 => Bool.noConfusion (show true = false from h4))
          refine Aw.sm tab_ok mb0 [] rfl rfl ?zo ?zk
          case zo =>
            repeat' apply AllP.cons
            all_goals first | exact trivial
          case zk =>
          refine Aw.ret ⟨_, .cons (.tmp _) (.cons (.tmp _) .nil), tr4, ⟨rfl, rfl, rfl, trivial⟩, ?_, hq2⟩
          unfold OnPost
          rw [hfs]
          show A.tup [.sl false .exact (ints (([] : List Int) ++ [(k : Int)] ++ o)), .bool true] = .tup [exA (([] : List Int) ++ (k : Int) :: o), .bool true]
          rw [exA_ne (l := ([] : List Int) ++ (k : Int) :: o) (by simp), List.append_assoc]; rfl
        | none =>
          rw [hfd] at hq hrun
          obtain ⟨rfl, hq⟩ := hq
          have hrun : findGo (findF y f) y G ((List.range y.length).drop (k + 1)) = R := hrun
          have hin4 : ∀ e ∈ tr4, e.2 = true ∧ (e ∈ tr ∨ e = (K, true) ∨ ((m : Int) + 1 ≤ e.1.1 ∧ findF y (N - e.1.1.toNat) e.1.2.1 = none)) := fun e he => ⟨hq2 e he, by
            rcases hq e he with h | h
            · exact (hin3 e h).2
            · exact .inr (.inr h)⟩
          refine SegW.run (b := 10) tab_ok mb0 5 [] rfl (by kernel_rfl) rfl rfl ?zo3 ?zk3
          case zo3 =>
            repeat' apply AllP.cons
            all_goals first | exact trivial | exact id | exact rfl
          case zk3 =>
          refine SegW.done (by kernel_rfl) (Nat.le_of_ble_eq_true rfl) ?_
          refine Aw.sm tab_ok mb0 [] rfl rfl ?zo ?zk
          case zo =>
            repeat' apply AllP.cons
            all_goals first | exact trivial
          case zk =>
          refine Aw.cond rfl (fun h4 => Bool.noConfusion (show false = true from h4)) (fun _ => Aw.skip ?_)
          refine Aw.em tab_ok mb0 [] rfl rfl ?zo ?zk
          case zo =>
            repeat' apply AllP.cons
            all_goals first | exact trivial | exact inrk k (by omega)
          case zk =>
          refine ⟨(k + 1, tr4), ?zg, ?zm, ⟨?zc, ?zv, ?zh, Nat.le_of_ble_eq_true rfl⟩⟩
          case zg =>
            (repeat' (first | exact ⟨hlt, hG4 ▸ hrun, hin4⟩))
          case zm =>
            (repeat' (first | omega))
          case zc =>
            (repeat' (first | (refine And.intro ?_ ?_) | exact trivial | exact A.Le.refl _))
          case zv =>
            (repeat' (first | (refine And.intro ?_ ?_) | exact trivial | exact A.Le.refl _))
          case zh =>
            (repeat' (first | (refine And.intro ?_ ?_) | exact trivial | exact rfl))
      | cons x p =>
        have hx0 : outA (plan ++ [(k : Int)]) = .sl false .any ((ints (x :: p)).take (Int.toNat ((x :: p : List Int).length : Int)) ++ [[.int (k : Int)]]) := by
          rw [hpl, Int.toNat_natCast, List.take_of_length_le (by rw [ints_len]; exact Nat.le_refl _)]; simp [ints, outA]
        have fx : Free (A.sl false .any ((ints (x :: p)).take (Int.toNat ((x :: p : List Int).length : Int)) ++ [[.int (k : Int)]])) := hx0 ▸ outA_free _
        rw [hx0] at hcall
        have hlp : (x :: p).length ≤ 12 := by rw [← hpl]; omega
        have ht : (ints (x :: p)).take (Int.toNat ((x :: p : List Int).length : Int)) = ints (x :: p) := by rw [Int.toNat_natCast, List.take_of_length_le (by rw [ints_len]; exact Nat.le_refl _)]
        have hzs := ints_one (x :: p)
        have hzl := ints_len (x :: p)
        have hb0 : (((x :: p : List Int).length : Nat) : Int) ≤ ((ints (x :: p)).length : Int) := by rw [hzl]; exact Int.le_refl _
        have hb1 : ∀ z ∈ (ints (x :: p)).take (Int.toNat ((x :: p : List Int).length : Int)) ++ [[A.int (k : Int)]], z.length = 1 := fun z hz => by
          rw [ht] at hz
          rcases List.mem_append.1 hz with h | h
          · exact hzs z h
          · exact hone z h
        have hb2 : (((ints (x :: p)).take (Int.toNat ((x :: p : List Int).length : Int))).length + 1) * 8 ≤ 140737488355328 := by rw [ht, hzl]; omega
        have hb3 : ((ints (x :: p)).take (Int.toNat ((x :: p : List Int).length : Int))).length + 1 ≤ maxLen := by rw [ht, hzl]; unfold maxLen; omega
        refine SegW.run (b := 0) tab_ok mb0 9 [] rfl (by kernel_rfl) rfl rfl ?zoa ?zka
        case zoa =>
          repeat' apply AllP.cons
          all_goals first | exact trivial | exact id | exact rfl | exact Nat.le_of_ble_eq_true rfl | exact hb0 | exact hb1 | exact hb2 | exact hb3 | exact Int.natCast_nonneg _ | exact Int.le_refl _
        case zka =>
        refine SegW.step rfl (by kernel_rfl) rfl (fun i h1 h2 => by have h2 : i < 15 := h2; obtain rfl | rfl | rfl | rfl | rfl := (show i = 10 ∨ i = 11 ∨ i = 12 ∨ i = 13 ∨ i = 14 by omega) <;> rfl) (Does.raw rfl (DoesR.call (fst := []) (cap := [.pt [.int N], .ref 1 0, .pt [.sl b .any (y.map Cask.c)], .ref 2 0]) rfl rfl (enters_of Try.func80 rfl rfl) (on_frame fmo2 fx hfree2 hcall (H := _) (c := _) ⟨rfl, rfl, rfl, trivial⟩) ?_))
        rintro v H' c' ⟨tr4, ⟨hq, hq2⟩, rfl, rfl⟩
        unfold OnPost at hq
        cases hfd : findF y f NX with
        | some o =>
          rw [hfd] at hq hrun
          have hrun : some ((k : Int) :: o) = R := hrun
          have hq : v = .tup [.sl false .exact (ints ((x :: p) ++ [(k : Int)] ++ o)), .bool true] := by rw [← exA_ne (by simp), show v = .tup [exA (plan ++ [(k : Int)] ++ o), .bool true] from hq, hpl]
          subst hq
          subst hrun
          refine SegW.run (b := 10) tab_ok mb0 5 [] rfl (by kernel_rfl) rfl rfl ?zob ?zkb
          case zob =>
            repeat' apply AllP.cons
            all_goals first | exact trivial | exact id | exact rfl
          case zkb =>
          refine SegW.done (by kernel_rfl) (Nat.le_of_ble_eq_true rfl) ?_
          refine Aw.sm tab_ok mb0 [] rfl rfl ?zo ?zk
          case zo =>
            repeat' apply AllP.cons
            all_goals first | exact trivial
          case zk =>
          refine Aw.cond rfl (fun _ => ?_) (fun h4 => Bool.noConfusion (show true = false from h4))
          refine Aw.sm tab_ok mb0 [] rfl rfl ?zo ?zk
          case zo =>
            repeat' apply AllP.cons
            all_goals first | exact trivial
          case zk =>
          refine Aw.ret ⟨_, .cons (.tmp _) (.cons (.tmp _) .nil), tr4, ⟨rfl, rfl, rfl, trivial⟩, ?_, hq2⟩
          unfold OnPost
          rw [hfs]
          show A.tup [.sl false .exact (ints ((x :: p) ++ [(k : Int)] ++ o)), .bool true] = .tup [exA ((x :: p) ++ (k : Int) :: o), .bool true]
          rw [exA_ne (l := (x :: p) ++ (k : Int) :: o) (by simp), List.append_assoc]; rfl
        | none =>
          rw [hfd] at hq hrun
          obtain ⟨rfl, hq⟩ := hq
          have hrun : findGo (findF y f) y G ((List.range y.length).drop (k + 1)) = R := hrun
          have hin4 : ∀ e ∈ tr4, e.2 = true ∧ (e ∈ tr ∨ e = (K, true) ∨ ((m : Int) + 1 ≤ e.1.1 ∧ findF y (N - e.1.1.toNat) e.1.2.1 = none)) := fun e he => ⟨hq2 e he, by
            rcases hq e he with h | h
            · exact (hin3 e h).2
            · exact .inr (.inr h)⟩
          refine SegW.run (b := 10) tab_ok mb0 5 [] rfl (by kernel_rfl) rfl rfl ?zoc ?zkc
          case zoc =>
            repeat' apply AllP.cons
            all_goals first | exact trivial | exact id | exact rfl
          case zkc =>
          refine SegW.done (by kernel_rfl) (Nat.le_of_ble_eq_true rfl) ?_
          refine Aw.sm tab_ok mb0 [] rfl rfl ?zo ?zk
          case zo =>
            repeat' apply AllP.cons
            all_goals first | exact trivial
          case zk =>
          refine Aw.cond rfl (fun h4 => Bool.noConfusion (show false = true from h4)) (fun _ => Aw.skip ?_)
          refine Aw.em tab_ok mb0 [] rfl rfl ?zo ?zk
          case zo =>
            repeat' apply AllP.cons
            all_goals first | exact trivial | exact inrk k (by omega)
          case zk =>
          refine ⟨(k + 1, tr4), ?zg, ?zm, ⟨?zc, ?zv, ?zh, Nat.le_of_ble_eq_true rfl⟩⟩
          case zg =>
            (repeat' (first | exact ⟨hlt, hG4 ▸ hrun, hin4⟩))
          case zm =>
            (repeat' (first | omega))
          case zc =>
            (repeat' (first | (refine And.intro ?_ ?_) | exact trivial | exact A.Le.refl _))
          case zv =>
            (repeat' (first | (refine And.intro ?_ ?_) | exact trivial | exact A.Le.refl _))
          case zh =>
            (repeat' (first | (refine And.intro ?_ ?_) | exact trivial | exact rfl))
    · have hend : k = y.length := by have := of_decide_eq_false h1; omega
      subst hend
      rw [List.drop_of_length_le (by simp), findGo] at hrun
      subst hrun
      refine Aw.sm tab_ok mb0 [] rfl rfl ?zo ?zk
      case zo =>
        repeat' apply AllP.cons
        all_goals first | exact trivial
      case zk =>
      refine Aw.ret ⟨_, .cons (.tmp _) (.cons (.tmp _) .nil), tr3, ⟨rfl, rfl, rfl, trivial⟩, ?_, fun e he => (hin3 e he).1⟩
      unfold OnPost
      rw [hfs]
      refine ⟨rfl, fun e he => ?_⟩
      rcases (hin3 e he).2 with h | rfl | h
      · exact .inl h
      · refine .inr ⟨by show (m : Int) ≤ K.1; rw [hK1]; exact Int.le_refl _, ?_⟩
        show findF y (N - K.1.toNat) K.2.1 = none
        rw [hK2, hK1, Int.toNat_natCast, show N - m = f + 1 by omega, hfs]
      · exact .inr ⟨by omega, h.2⟩
end Go.Proofs.Ytampldajinhenaa

namespace Go.Proofs.Ytampldajinhenaa
open Go Go.AL Go.AL.Q Go.AL.Br
def keepA (r : List Int × Int) : A := .tup [exA r.1, .int r.2]
theorem keep_t (y : List Cask) (b : Bool) (hy : (y.length : Int) ≤ 9223372036854775806) (months : Int) : Ans Try.prog 30 [.sl b .any (y.map Cask.c), .int months] (keepA (KeepR y months)) := by
  have fy : Free (.sl b .any (y.map Cask.c)) := free_map Cask.free _ _ _
  have hfr : Free (keepA (KeepR y months)) := .tup _ (allC (exA_free _) (all1 (.s _)))
  have hchk := yard_chk y b hy
  refine told Try.func30 rfl rfl (Pure.of tab_ok Try.func30 rfl Try.ntmps30 rfl (allC (fy) (all1 (.s _))) (allC (fun _ => rfl) (all1 (fun _ => rfl))) (by first | exact .s _ | assumption | exact .tup _ (by intro x hx; simp only [List.mem_cons, List.not_mem_nil, or_false] at hx; rcases hx with rfl | rfl | rfl | rfl <;> first | exact .s _ | (simp_all; done))) fun E hE => ?_)
  refine Aw.sm tab_ok mb0 [] rfl rfl ?zo ?zk
  case zo =>
    repeat' apply AllP.cons
    all_goals first | exact trivial
  case zk =>
  by_cases hyo : yardOk y = true
  rotate_left
  · have e : KeepR y months = ([], 61) := by unfold KeepR; rw [if_neg hyo]
    have e2 : yardChk y = 61 := by unfold yardChk; rw [if_neg hyo]
    rw [e2] at hchk
    rw [e]
    refine Aw.seq ?_
    refine Aw.sm tab_ok mb0 [(1, [.int 61])] rfl rfl ?zo ?zk
    case zo =>
      repeat' apply AllP.cons
      all_goals first | exact trivial | exact Nat.le_of_ble_eq_true rfl | exact hchk
    case zk =>
    refine Aw.sm tab_ok mb0 [] rfl rfl ?zo ?zk
    case zo =>
      repeat' apply AllP.cons
      all_goals first | exact trivial
    case zk =>
    refine Aw.cond rfl (fun h => ?_) (fun h => by cases h)
    refine Aw.sm tab_ok mb0 [] rfl rfl ?zo ?zk
    case zo =>
      repeat' apply AllP.cons
      all_goals first | exact trivial
    case zk =>
    exact Aw.ret ⟨_, .cons (.tmp _) (.cons (.tmp _) .nil), rfl⟩
  have e2 : yardChk y = 0 := by unfold yardChk; rw [if_pos hyo]
  rw [e2] at hchk
  have hY := yardOk_iff.1 hyo
  have hn := hY.n
  refine Aw.seq ?_
  refine Aw.sm tab_ok mb0 [(1, [.int 0])] rfl rfl ?zo ?zk
  case zo =>
    repeat' apply AllP.cons
    all_goals first | exact trivial | exact Nat.le_of_ble_eq_true rfl | exact hchk
  case zk =>
  refine Aw.sm tab_ok mb0 [] rfl rfl ?zo ?zk
  case zo =>
    repeat' apply AllP.cons
    all_goals first | exact trivial
  case zk =>
  refine Aw.cond rfl (fun h => by cases h) (fun h => Aw.skip ?_)
  refine Aw.seq ?_
  refine Aw.sm tab_ok mb0 [(1, [.bool (wi months 0 12)])] rfl rfl ?zo ?zk
  case zo =>
    repeat' apply AllP.cons
    all_goals first | exact trivial | exact Nat.le_of_ble_eq_true rfl | exact within_t _ _ _
  case zk =>
  by_cases hmo : wi months 0 12 = true
  rotate_left
  · have e : KeepR y months = ([], 62) := by unfold KeepR; rw [if_pos hyo, if_neg hmo]
    have hmo : wi months 0 12 = false := by simpa using hmo
    rw [e, hmo]
    refine Aw.cond rfl (fun h => ?_) (fun h => by cases h)
    refine Aw.sm tab_ok mb0 [] rfl rfl ?zo ?zk
    case zo =>
      repeat' apply AllP.cons
      all_goals first | exact trivial
    case zk =>
    exact Aw.ret ⟨_, .cons (.tmp _) (.cons (.tmp _) .nil), rfl⟩
  have e : KeepR y months = match findF y months.toNat (lev0 y) with
    | some o => (o, 0)
    | none => ([], 4) := by unfold KeepR; rw [if_pos hyo, if_pos hmo]; rfl
  have hmw := wi_iff.1 hmo
  rw [hmo]
  refine Aw.cond rfl (fun h => by cases h) (fun h => Aw.skip ?_)
  have hbeg := begin_t y b hY
  have hlv := lev0_ok hY.c
  obtain ⟨N, rfl⟩ : ∃ N : Nat, months = N := ⟨months.toNat, by omega⟩
  rw [Int.toNat_natCast] at e
  have hcall := on_t y b hY N (by omega) N 0 (lev0 y) [] [] hlv (by omega) rfl (fun _ h => nomatch h)
  have fmo : Free (.agg (.int ((0 : Nat) : Int) :: (lev0 y).map A.int)) := .agg _ (allC (.s _) (lv_free _))
  have hfree2 : ∀ v tr', (OnPost y N N 0 (lev0 y) [] [] v tr' ∧ ∀ e ∈ tr', e.2 = true) → Free v := fun v tr' h => h.1.free
  have fx : Free (outA []) := outA_free _
  refine Aw.sm tab_ok mb0 [] rfl rfl ?zo ?zk
  case zo =>
    repeat' apply AllP.cons
    all_goals first | exact trivial | exact rfl | exact Nat.le_of_ble_eq_true rfl
  case zk =>
  refine Aw.sm tab_ok mb0 [] rfl rfl ?zo ?zk
  case zo =>
    repeat' apply AllP.cons
    all_goals first | exact trivial
  case zk =>
  refine Aw.sm tab_ok mb0 [] rfl rfl ?zo ?zk
  case zo =>
    repeat' apply AllP.cons
    all_goals first | exact trivial | exact rfl | exact Nat.le_of_ble_eq_true rfl
  case zk =>
  have h3e : ∀ id, 3 ≤ id → E.φ0 id = none := fun id _ => hE id (Nat.zero_le _)
  have uy : ∀ {m : Nat}, Under m (A.pt [.sl b .any (y.map Cask.c)]) := (Free.pt _ (all1 (ysl_free b y))).under
  refine Aw.keep (n := 3) (cst := [(2, .pt [.sl b .any (y.map Cask.c)]), (8, .ref 2 0)]) (v := []) (Hl := onH [] N b y) h3e ?zu ?zw ?zx ⟨?zc, ?zv, ?zh, Nat.le_of_ble_eq_true rfl⟩ ?zr
  case zu =>
    (repeat' (first | exact trivial | exact Under.ref _ _ (by decide) | exact uy | (refine And.intro ?_ ?_)))
  case zw =>
    (repeat' (first | exact trivial))
  case zx =>
    (repeat' (first | exact onH_under _ N b y (Nat.le_refl _)))
  case zc =>
    (repeat' (first | (refine And.intro ?_ ?_) | exact trivial | exact A.Le.refl _))
  case zv =>
    (repeat' (first | exact trivial))
  case zh =>
    (repeat' (first | (refine And.intro ?_ ?_) | exact trivial | exact rfl))
  case zr =>
  refine Aw.seq (SegW.start mixed ?_)
  refine SegW.run (b := 0) tab_ok mb0 4 [(2, [.agg ((lev0 y).map A.int)])] rfl (by kernel_rfl) rfl rfl ?zo ?zk
  case zo =>
    repeat' apply AllP.cons
    all_goals first | exact trivial | exact id | exact rfl | exact Nat.le_of_ble_eq_true rfl | exact hbeg
  case zk =>
  refine SegW.step rfl (by kernel_rfl) rfl (fun i h1 h2 => by have h2 : i < 10 := h2; obtain rfl | rfl | rfl | rfl | rfl := (show i = 5 ∨ i = 6 ∨ i = 7 ∨ i = 8 ∨ i = 9 by omega) <;> rfl) (Does.raw rfl (DoesR.call (fst := []) (cap := [.pt [.int N], .ref 1 0, .pt [.sl b .any (y.map Cask.c)], .ref 2 0]) rfl rfl (enters_of Try.func80 rfl rfl) (on_frame fmo fx hfree2 hcall (H := _) (c := _) ⟨rfl, rfl, rfl, trivial⟩) ?_))
  rintro v H' c' ⟨tr4, ⟨hq, hq2⟩, rfl, rfl⟩
  unfold OnPost at hq
  cases hfd : findF y N (lev0 y) with
  | some o =>
    rw [hfd] at hq e
    have e : KeepR y N = (o, 0) := e
    have hq : v = .tup [exA o, .bool true] := hq
    rw [e]
    subst hq
    cases o with
    | nil =>
      refine SegW.run (b := 5) tab_ok mb0 5 [] rfl (by kernel_rfl) rfl rfl ?zoa ?zka
      case zoa =>
        repeat' apply AllP.cons
        all_goals first | exact trivial | exact id | exact rfl
      case zka =>
      refine SegW.done (by kernel_rfl) (Nat.le_of_ble_eq_true rfl) ?_
      refine Aw.seq ?_
      refine Aw.sm tab_ok mb0 [] rfl rfl ?zo ?zk
      case zo =>
        repeat' apply AllP.cons
        all_goals first | exact trivial
      case zk =>
      refine Aw.cond rfl (fun h => by cases h) (fun h => Aw.skip ?_)
      refine Aw.sm tab_ok mb0 [] rfl rfl ?zo ?zk
      case zo =>
        repeat' apply AllP.cons
        all_goals first | exact trivial
      case zk =>
      exact Aw.ret ⟨_, .cons (.tmp _) (.cons (.tmp _) .nil), rfl⟩
    | cons x o =>
      refine SegW.run (b := 5) tab_ok mb0 5 [] rfl (by kernel_rfl) rfl rfl ?zob ?zkb
      case zob =>
        repeat' apply AllP.cons
        all_goals first | exact trivial | exact id | exact rfl
      case zkb =>
      refine SegW.done (by kernel_rfl) (Nat.le_of_ble_eq_true rfl) ?_
      refine Aw.seq ?_
      refine Aw.sm tab_ok mb0 [] rfl rfl ?zo ?zk
      case zo =>
        repeat' apply AllP.cons
        all_goals first | exact trivial
      case zk =>
      refine Aw.cond rfl (fun h => by cases h) (fun h => Aw.skip ?_)
      refine Aw.sm tab_ok mb0 [] rfl rfl ?zo ?zk
      case zo =>
        repeat' apply AllP.cons
        all_goals first | exact trivial
      case zk =>
      exact Aw.ret ⟨_, .cons (.tmp _) (.cons (.tmp _) .nil), rfl⟩
  | none =>
    rw [hfd] at hq e
    have e : KeepR y N = ([], 4) := e
    obtain ⟨rfl, hq⟩ := hq
    rw [e]
    refine SegW.run (b := 5) tab_ok mb0 5 [] rfl (by kernel_rfl) rfl rfl ?zoc ?zkc
    case zoc =>
      repeat' apply AllP.cons
      all_goals first | exact trivial | exact id | exact rfl
    case zkc =>
    refine SegW.done (by kernel_rfl) (Nat.le_of_ble_eq_true rfl) ?_
    refine Aw.seq ?_
    refine Aw.sm tab_ok mb0 [] rfl rfl ?zo ?zk
    case zo =>
      repeat' apply AllP.cons
      all_goals first | exact trivial
    case zk =>
    refine Aw.cond rfl (fun h => ?_) (fun h => by cases h)
    refine Aw.sm tab_ok mb0 [] rfl rfl ?zo ?zk
    case zo =>
      repeat' apply AllP.cons
      all_goals first | exact trivial
    case zk =>
    exact Aw.ret ⟨_, .cons (.tmp _) (.cons (.tmp _) .nil), rfl⟩
end Go.Proofs.Ytampldajinhenaa

namespace Go.Proofs.Ytampldajinhenaa
open Go Go.AL Go.AL.Q Go.AL.Br
theorem isB_t (p : Pile) (hp : p.Ok) (b : Bool) (s : List Int) (hs : StIn p s) (hl : s.length ≤ 10) : Ans Try.prog 63 [.agg p.c, .sl b .any (ints s)] (.bool (isB p s)) := by
  have lm := ints_lenI s
  have hg := hp.g
  have hpl := hp.pl
  have fs : Free (.sl b .any (ints s)) := free_ints _ _ _
  have us : ∀ {n : Nat}, Under n (A.sl b .any (ints s)) := fs.under
  have up : ∀ {n : Nat}, Under n (A.pt p.c) := (Free.pt _ p.free).under
  refine told Try.func63 rfl rfl (Pure.of tab_ok Try.func63 rfl Try.ntmps63 rfl (allC (.agg _ p.free) (all1 (fs))) (allC (fun _ => rfl) (all1 (fun _ => rfl))) (by first | exact .s _ | assumption | exact .tup _ (by intro x hx; simp only [List.mem_cons, List.not_mem_nil, or_false] at hx; rcases hx with rfl | rfl | rfl | rfl <;> first | exact .s _ | (simp_all; done))) fun E hE => ?_)
  refine Aw.sm tab_ok mb0 [] rfl rfl ?zo ?zk
  case zo =>
    repeat' apply AllP.cons
    all_goals first | exact trivial
  case zk =>
  refine Aw.sm tab_ok mb0 [] rfl rfl ?zo ?zk
  case zo =>
    repeat' apply AllP.cons
    all_goals first | exact trivial
  case zk =>
  refine Aw.seq ?_
  refine Aw.sm tab_ok mb0 [] rfl rfl ?zo ?zk
  case zo =>
    repeat' apply AllP.cons
    all_goals first | exact trivial
  case zk =>
  refine Aw.block (Aw.rounds 0 hE [(2, .pt p.c), (8, .sl b .any (ints s)), (9, .int s.length)] (fun n : Nat => [(5, grL 3 (wds p (s.take n))), (10, .int n)]) (fun n => []) (fun n => n ≤ s.length) (fun n => s.length - n) 0 ?zg ⟨?zc, ?zv, ?zh, Nat.le_of_ble_eq_true rfl⟩ ?zu (fun n zhk => ?zw) (fun n zhk => ?zx) fun n hk => ?zr)
  case zg =>
    (repeat' (first | exact Nat.zero_le _))
  case zc =>
    (repeat' (first | (refine And.intro ?_ ?_) | exact trivial | exact A.Le.refl _ | exact .of_eq (congrArg A.int lm.symm)))
  case zv =>
    (repeat' (first | (refine And.intro ?_ ?_) | exact trivial | exact A.Le.refl _))
  case zh =>
    (repeat' (first | exact trivial))
  case zu =>
    (repeat' (first | exact trivial | exact Under.s _ | exact (free_ints _ _ _).under | exact up | (refine And.intro ?_ ?_)))
  case zw =>
    (repeat' (first | exact trivial | exact Under.s _ | exact grL_under _ | (refine And.intro ?_ ?_)))
  case zx =>
    (repeat' (first | exact trivial))
  case zr =>
  refine Aw.sm tab_ok mb0 [] rfl rfl ?zo ?zk
  case zo =>
    repeat' apply AllP.cons
    all_goals first | exact trivial
  case zk =>
  refine Aw.seq (Aw.cond rfl (fun h1 => Aw.skip1 ?_) (fun h1 => Aw.exit2 ?_))
  · have hlt : n < s.length := by have := of_decide_eq_true h1; omega
    have es : wds p (s.take (n + 1)) = wds p (s.take n) ++ [stv p s[n]] := by unfold wds; rw [List.take_succ_eq_append_getElem hlt, List.map_append]; rfl
    have el : (wds p (s.take n)).length = n := by rw [wds_len, List.length_take]; omega
    have hk := hs s[n] (List.getElem_mem hlt)
    have hgs := ints_get hlt
    have hgp : (ints p.st)[(s[n]).toNat]? = some [.int (stv p s[n])] := ints_getD (l := p.st) (k := (s[n]).toNat) (by omega)
    generalize s[n] = k at *
    generalize stv p k = v at *
    refine Aw.seq (Aw.block ?_)
    refine Aw.sm tab_ok mb0 [(0, [.int k])] rfl rfl ?zo ?zk
    case zo =>
      repeat' apply AllP.cons
      all_goals first | exact trivial | exact rfl | exact Nat.le_of_ble_eq_true rfl | exact Int.natCast_nonneg _ | exact hgs
    case zk =>
    have hone : ∀ z ∈ [[A.int v]], z.length = 1 := fun z hz => by simp at hz; subst hz; rfl
    cases hsp : wds p (s.take n) with
    | nil =>
      rw [hsp] at es
      refine Aw.em tab_ok mb0 [(5, [.int v])] rfl rfl ?zo ?zk
      case zo =>
        repeat' apply AllP.cons
        all_goals first | exact trivial | exact rfl | exact Nat.le_of_ble_eq_true rfl | exact hgp | exact hk.1 | exact hone
      case zk =>
      refine Aw.em tab_ok mb0 [] rfl rfl ?zo ?zk
      case zo =>
        repeat' apply AllP.cons
        all_goals first | exact trivial | exact inrk n (by omega)
      case zk =>
      exact ⟨n + 1, hlt, by omega, ⟨.refl _, .refl _, .refl _, trivial⟩, ⟨.of_eq (show grL 3 (wds p (s.take (n + 1))) = A.sl false (.own 3) ([] ++ [[A.int v]]) by rw [es]; rfl), .refl _, trivial⟩, trivial, Nat.zero_le _⟩
    | cons y ys =>
      rw [hsp] at es el
      have hlen2 : (ints (y :: ys)).length = n := by rw [ints_len]; exact el
      have hz := ints_one (y :: ys)
      refine Aw.em tab_ok mb0 [(5, [.int v])] rfl rfl ?zo ?zk
      case zo =>
        repeat' apply AllP.cons
        all_goals first | exact trivial | exact rfl | exact Nat.le_of_ble_eq_true rfl | exact hgp | exact hk.1 | exact hone | exact hz | exact (show ((ints (y :: ys)).length + 1) * 8 ≤ 140737488355328 by omega) | exact (show (ints (y :: ys)).length + 1 ≤ maxLen by unfold maxLen; omega)
      case zk =>
      refine Aw.em tab_ok mb0 [] rfl rfl ?zo ?zk
      case zo =>
        repeat' apply AllP.cons
        all_goals first | exact trivial | exact inrk n (by omega)
      case zk =>
      exact ⟨n + 1, hlt, by omega, ⟨.refl _, .refl _, .refl _, trivial⟩, ⟨.of_eq (show grL 3 (wds p (s.take (n + 1))) = A.sl false (.own 3) (ints (y :: ys) ++ [[A.int v]]) by rw [es]; simp [grL, ints]), .refl _, trivial⟩, trivial, Nat.zero_le _⟩
  have hle : n = s.length := by have := of_decide_eq_false h1; omega
  subst hle
  rw [List.take_length]
  have hwl := wds_len p s
  have hsum := sum_out (wds p s) (sum_g _ 500 (by omega) (by decide) (wds_in hp hs)) (by omega)
  have hb : isB p s = cond (decide (((wds p s).length : Int) > 0)) (wi (wds p s).sum (p.girth - p.play) p.girth) false := by unfold isB; rw [hwl]
  have hd : (grL 3 (wds p s)).down = outA (wds p s) := grL_down _
  rw [hb]
  cases hsp : wds p s with
  | nil =>
    refine Aw.keep (n := 0) (cst := [(2, .pt p.c)]) (v := [(5, .sl true .any [])]) (Hl := []) hE ?zu ?zw ?zx ⟨?zc, ?zv, ?zh, Nat.le_of_ble_eq_true rfl⟩ ?zr
    case zu =>
      (repeat' (first | exact trivial | exact up | (refine And.intro ?_ ?_)))
    case zw =>
      (repeat' (first | exact trivial | exact (Free.sl _ _ _ (fun _ h => by cases h)).under | (refine And.intro ?_ ?_)))
    case zx =>
      (repeat' (first | exact trivial))
    case zc =>
      (repeat' (first | (refine And.intro ?_ ?_) | exact trivial | exact A.Le.refl _))
    case zv =>
      (repeat' (first | (refine And.intro ?_ ?_) | exact trivial | exact A.Le.any _ _ _))
    case zh =>
      (repeat' (first | exact trivial))
    case zr =>
    have hnil : Ans Try.prog 90 [.sl true .any []] (.int 0) := sum_t true .any [] (by decide) (fun k hk => by
      have e : k = 0 := by simpa using hk
      rw [e]; exact (show inR 0 by simp only [inR]; omega)) (fun u => rfl)
    refine Aw.sd tab_ok mixed mb0 [(5, [.int 0]), (16, [.bool (wi 0 (p.girth - p.play) p.girth)])] rfl (by kernel_rfl) rfl rfl ?zo ?zk
    case zo =>
      repeat' apply AllP.cons
      all_goals first | exact trivial | exact id | exact fun _ => rfl | exact fun _ => Nat.le_of_ble_eq_true rfl | exact (within_t _ _ _).un | exact hnil.un | exact fun _ => (by simp only [Ob.of, inR]; omega)
    case zk =>
    exact Aw.ret ⟨_, .cons (.tmp _) .nil, rfl⟩
  | cons y ys =>
    rw [hsp] at hsum
    have hly : ((ints (y :: ys)).length : Int) = ((y :: ys).length : Int) := by rw [ints_len]
    rw [show decide ((((y :: ys : List Int).length : Nat) : Int) > 0) = decide (((ints (y :: ys)).length : Int) > 0) by rw [hly]]
    have uyy : ∀ {n : Nat}, Under n (A.sl false .any (ints (y :: ys))) := (free_ints _ _ _).under
    refine Aw.keep (n := 0) (cst := [(2, .pt p.c)]) (v := [(5, .sl false .any (ints (y :: ys)))]) (Hl := []) hE ?zu ?zw ?zx ⟨?zc, ?zv, ?zh, Nat.le_of_ble_eq_true rfl⟩ ?zr
    case zu =>
      (repeat' (first | exact trivial | exact up | (refine And.intro ?_ ?_)))
    case zw =>
      (repeat' (first | exact trivial | exact (free_ints _ _ _).under | (refine And.intro ?_ ?_)))
    case zx =>
      (repeat' (first | exact trivial))
    case zc =>
      (repeat' (first | (refine And.intro ?_ ?_) | exact trivial | exact A.Le.refl _))
    case zv =>
      (repeat' (first | (refine And.intro ?_ ?_) | exact trivial | exact A.Le.any _ _ _))
    case zh =>
      (repeat' (first | exact trivial))
    case zr =>
    have hsum : Ans Try.prog 90 [.sl false .any (ints (y :: ys))] (.int (y :: ys).sum) := hsum
    refine Aw.sd tab_ok mixed mb0 [(5, [.int (y :: ys).sum]), (16, [.bool (wi (y :: ys).sum (p.girth - p.play) p.girth)])] rfl (by kernel_rfl) rfl rfl ?zo ?zk
    case zo =>
      repeat' apply AllP.cons
      all_goals first | exact trivial | exact id | exact fun _ => rfl | exact fun _ => Nat.le_of_ble_eq_true rfl | exact (within_t _ _ _).un | exact hsum.un | exact fun _ => (by simp only [Ob.of, inR]; omega)
    case zk =>
    exact Aw.ret ⟨_, .cons (.tmp _) .nil, rfl⟩
end Go.Proofs.Ytampldajinhenaa

namespace Go.Proofs.Ytampldajinhenaa
open Go Go.AL Go.AL.Q Go.AL.Br
def gB (g : List Bool) : B := .cells (g.map A.bool)
theorem gB_under (g : List Bool) {n : Nat} : UnderB n (gB g) := .cells _ fun x hx => by obtain ⟨v, _, rfl⟩ := List.mem_map.1 hx; exact .s _
theorem set_cellsB {l : List Bool} {k : Nat} {v : Bool} (h : k < l.length) : setSeg (l.map A.bool) (0 + k * 1) [A.bool v] = (l.set k v).map A.bool := by
  have := setSeg_app (l := []) (r := l.map A.bool) (v := A.bool v) (i := k) (by simpa using h)
  simp only [List.length_nil, Nat.zero_add, List.nil_append] at this
  rw [Nat.zero_add, Nat.mul_one, this, List.map_set]
theorem getB {g : List Bool} {k : Nat} (h : k < g.length) : ((g.map A.bool).getD (0 + k * 1) .un).down = .bool (g.getD k false) := by
  rw [Nat.zero_add, Nat.mul_one]; simp [List.getD_eq_getElem?_getD, h]; rfl
theorem nl_get {l : List NL} {m : Nat} (h : m < l.length) : (l.map NL.c)[m]? = some l[m].c := get_map h
def areA (r : Bool × Int) : A := .tup [.bool r.1, .int r.2]
set_option maxHeartbeats 1000000 in
theorem are_t (p : Pile) (hpl : (p.st.length : Int) ≤ 9223372036854775806) (b : Bool) (l : List NL) (hl : (l.length : Int) ≤ 9223372036854775806) (hll : ∀ x ∈ l, (x.l.length : Int) ≤ 9223372036854775806) :
    Ans Try.prog 16 [.agg p.c, .sl b .any (l.map NL.c)] (areA (AreR p l)) := by
  have ll : ((l.map NL.c).length : Int) = l.length := by simp
  have fl : Free (.sl b .any (l.map NL.c)) := free_map NL.free _ _ _
  have hfr : Free (areA (AreR p l)) := .tup _ (allC (.s _) (all1 (.s _)))
  have ul : ∀ {m : Nat}, Under m (A.sl b .any (l.map NL.c)) := fl.under
  have up : ∀ {n : Nat}, Under n (A.pt p.c) := (Free.pt _ p.free).under
  have hchk := pile_t p hpl
  refine told Try.func16 rfl rfl (Pure.of tab_ok Try.func16 rfl Try.ntmps16 rfl (allC (.agg _ p.free) (all1 (fl))) (allC (fun _ => rfl) (all1 (fun _ => rfl))) (by first | exact .s _ | assumption | exact .tup _ (by intro x hx; simp only [List.mem_cons, List.not_mem_nil, or_false] at hx; rcases hx with rfl | rfl | rfl | rfl <;> first | exact .s _ | (simp_all; done))) fun E hE => ?_)
  refine Aw.sm tab_ok mb0 [] rfl rfl ?zo ?zk
  case zo =>
    repeat' apply AllP.cons
    all_goals first | exact trivial
  case zk =>
  by_cases hpo : p.ok = true
  rotate_left
  · have e : AreR p l = (false, 60) := by unfold AreR; rw [if_neg hpo]
    have e2 : p.chk = 60 := by unfold Pile.chk; rw [if_neg hpo]
    rw [e2] at hchk
    rw [e]
    refine Aw.seq ?_
    refine Aw.sm tab_ok mb0 [(1, [.int 60])] rfl rfl ?zo ?zk
    case zo =>
      repeat' apply AllP.cons
      all_goals first | exact trivial | exact Nat.le_of_ble_eq_true rfl | exact hchk
    case zk =>
    refine Aw.sm tab_ok mb0 [] rfl rfl ?zo ?zk
    case zo =>
      repeat' apply AllP.cons
      all_goals first | exact trivial
    case zk =>
    refine Aw.cond rfl (fun h => ?_) (fun h => by cases h)
    refine Aw.sm tab_ok mb0 [] rfl rfl ?zo ?zk
    case zo =>
      repeat' apply AllP.cons
      all_goals first | exact trivial
    case zk =>
    exact Aw.ret ⟨_, .cons (.tmp _) (.cons (.tmp _) .nil), rfl⟩
  have e : AreR p l = (areGo p g0 l, 0) := by unfold AreR; rw [if_pos hpo]
  have e2 : p.chk = 0 := by unfold Pile.chk; rw [if_pos hpo]
  have hP := Pile.ok_iff.1 hpo
  have hn := hP.n
  rw [e2] at hchk
  rw [e]
  refine Aw.seq ?_
  refine Aw.sm tab_ok mb0 [(1, [.int 0])] rfl rfl ?zo ?zk
  case zo =>
    repeat' apply AllP.cons
    all_goals first | exact trivial | exact Nat.le_of_ble_eq_true rfl | exact hchk
  case zk =>
  refine Aw.sm tab_ok mb0 [] rfl rfl ?zo ?zk
  case zo =>
    repeat' apply AllP.cons
    all_goals first | exact trivial
  case zk =>
  refine Aw.cond rfl (fun h => by cases h) (fun h => Aw.skip ?_)
  refine Aw.sm tab_ok mb0 [] rfl rfl ?zo ?zk
  case zo =>
    repeat' apply AllP.cons
    all_goals first | exact trivial
  case zk =>
  have h1e : ∀ id, 1 ≤ id → E.φ0 id = none := fun id _ => hE id (Nat.zero_le _)
  generalize hR : areGo p g0 l = R at *
  refine Aw.seq ?_
  refine Aw.sm tab_ok mb0 [] rfl rfl ?zo ?zk
  case zo =>
    repeat' apply AllP.cons
    all_goals first | exact trivial
  case zk =>
  refine Aw.block (Aw.rounds 1 h1e [(2, .pt p.c), (7, .ref 0 0), (18, .sl b .any (l.map NL.c)), (19, .int l.length)] (fun i : (Nat×List Bool) => [(20, .int i.1)]) (fun i => [(0, gB i.2)]) (fun i => i.1 ≤ l.length ∧ i.2.length = 10 ∧ areGo p i.2 (l.drop i.1) = R) (fun i => l.length - i.1) (0, g0) ?zg ⟨?zc, ?zv, ?zh, Nat.le_of_ble_eq_true rfl⟩ ?zu (fun i zhk => ?zw) (fun i zhk => ?zx) fun i hk => ?zr)
  case zg =>
    (repeat' (first | exact ⟨Nat.zero_le _, rfl, hR⟩))
  case zc =>
    (repeat' (first | (refine And.intro ?_ ?_) | exact trivial | exact A.Le.refl _ | exact .of_eq (congrArg A.int ll.symm)))
  case zv =>
    (repeat' (first | (refine And.intro ?_ ?_) | exact trivial | exact A.Le.refl _))
  case zh =>
    (repeat' (first | (refine And.intro ?_ ?_) | exact trivial | exact rfl))
  case zu =>
    (repeat' (first | exact trivial | exact Under.s _ | exact Under.ref _ _ (by decide) | exact up | exact ul | (refine And.intro ?_ ?_)))
  case zw =>
    (repeat' (first | exact trivial | exact Under.s _ | (refine And.intro ?_ ?_)))
  case zx =>
    (repeat' (first | exact trivial | exact Nat.le_of_ble_eq_true rfl | exact gB_under _ | (refine And.intro ?_ ?_)))
  case zr =>
  obtain ⟨i, g⟩ := i
  obtain ⟨hi, hg, hrun⟩ := hk
  simp only at hi hg hrun
  refine Aw.sm tab_ok mb0 [] rfl rfl ?zo ?zk
  case zo =>
    repeat' apply AllP.cons
    all_goals first | exact trivial
  case zk =>
  refine Aw.seq (Aw.cond rfl (fun h1 => Aw.skip1 ?_) (fun h1 => Aw.exit2 ?_))
  · have hlt : i < l.length := by have := of_decide_eq_true h1; omega
    rw [List.drop_eq_getElem_cons hlt, areGo] at hrun
    have hget := nl_get hlt
    have hxl := hll _ (List.getElem_mem hlt)
    generalize l[i] = x at *
    have lx := ints_lenI x.l
    have ux : ∀ {m : Nat}, Under m (A.sl x.n .any (ints x.l)) := (free_ints _ _ _).under
    refine Aw.seq (Aw.block ?_)
    refine Aw.sm tab_ok mb0 [(0, x.c)] rfl rfl ?zo ?zk
    case zo =>
      repeat' apply AllP.cons
      all_goals first | exact trivial | exact rfl | exact Nat.le_of_ble_eq_true rfl | exact Int.natCast_nonneg _ | exact hget
    case zk =>
    refine Aw.sm tab_ok mb0 [] rfl rfl ?zo ?zk
    case zo =>
      repeat' apply AllP.cons
      all_goals first | exact trivial
    case zk =>
    refine Aw.seq ?_
    refine Aw.sm tab_ok mb0 [] rfl rfl ?zo ?zk
    case zo =>
      repeat' apply AllP.cons
      all_goals first | exact trivial
    case zk =>
    generalize hR2 : areRow p.st.length g (-1) x.l = R2 at *
    refine Aw.block (Aw.rounds 1 h1e [(2, .pt p.c), (7, .ref 0 0), (9, .sl x.n .any (ints x.l)), (18, .sl b .any (l.map NL.c)), (19, .int l.length), (20, .int i), (24, .sl x.n .any (ints x.l)), (25, .int x.l.length)] (fun j : (Nat×Int×List Bool) => [(10, .int j.2.1), (26, .int j.1)]) (fun j => [(0, gB j.2.2)]) (fun j => j.1 ≤ x.l.length ∧ j.2.2.length = 10 ∧ (-1 ≤ j.2.1 ∧ j.2.1 ≤ 10) ∧ areRow p.st.length j.2.2 j.2.1 (x.l.drop j.1) = R2) (fun j => x.l.length - j.1) (0, (-1, g)) ?zg ⟨?zc, ?zv, ?zh, Nat.le_of_ble_eq_true rfl⟩ ?zu (fun j zhk => ?zw) (fun j zhk => ?zx) fun j hk => ?zr)
    case zg =>
      (repeat' (first | exact ⟨Nat.zero_le _, hg, ⟨Int.le_refl _, (by decide : (-1 : Int) ≤ 10)⟩, hR2⟩))
    case zc =>
      (repeat' (first | (refine And.intro ?_ ?_) | exact trivial | exact A.Le.refl _ | exact .of_eq (congrArg A.int lx.symm)))
    case zv =>
      (repeat' (first | (refine And.intro ?_ ?_) | exact trivial | exact A.Le.refl _))
    case zh =>
      (repeat' (first | (refine And.intro ?_ ?_) | exact trivial | exact rfl))
    case zu =>
      (repeat' (first | exact trivial | exact Under.s _ | exact (free_ints _ _ _).under | exact Under.ref _ _ (by decide) | exact up | exact ul | (refine And.intro ?_ ?_)))
    case zw =>
      (repeat' (first | exact trivial | exact Under.s _ | (refine And.intro ?_ ?_)))
    case zx =>
      (repeat' (first | exact trivial | exact Nat.le_of_ble_eq_true rfl | exact gB_under _ | (refine And.intro ?_ ?_)))
    case zr =>
    obtain ⟨j, last, g1⟩ := j
    obtain ⟨hj, hg1, hlast, hrun2⟩ := hk
    simp only at hj hg1 hlast hrun2
    refine Aw.sm tab_ok mb0 [] rfl rfl ?zo ?zk
    case zo =>
      repeat' apply AllP.cons
      all_goals first | exact trivial
    case zk =>
    refine Aw.seq (Aw.cond rfl (fun h2 => Aw.skip1 ?_) (fun h2 => Aw.exit2 ?_))
    · have hlt2 : j < x.l.length := by have := of_decide_eq_true h2; omega
      rw [List.drop_eq_getElem_cons hlt2, areRow] at hrun2
      have hgk := ints_get hlt2
      generalize x.l[j] = k at *
      have lp := ints_lenI p.st
      refine Aw.seq (Aw.block ?_)
      refine Aw.sm tab_ok mb0 [(0, [.int k])] rfl rfl ?zo ?zk
      case zo =>
        repeat' apply AllP.cons
        all_goals first | exact trivial | exact rfl | exact Nat.le_of_ble_eq_true rfl | exact Int.natCast_nonneg _ | exact hgk
      case zk =>
      have hw1 : wi k (last + 1) (p.st.length - 1) = true → 0 ≤ k ∧ k < 10 := fun h => by have := wi_iff.1 h; omega
      have hgd : gq (!wi k (last + 1) (p.st.length - 1)) false = true → 0 ≤ k ∧ k < 10 := fun h => hw1 (by have := gq_of h; simpa using this)
      have q1 : gq (!wi k (last + 1) (p.st.length - 1)) false = true → ((g1.map A.bool).getD (0 + k.toNat * 1) .un).down = .bool (gn g1 k) := fun h => getB (by have := hgd h; omega)
      have q2 : gq (!wi k (last + 1) (p.st.length - 1)) false = true → 0 + k.toNat * 1 < (g1.map A.bool).length := fun h => by have := hgd h; rw [List.length_map, hg1]; omega
      have q3 : gq (!wi k (last + 1) (p.st.length - 1)) false = true → k < ((10 : Nat) : Int) := fun h => (hgd h).2
      refine Aw.seq ?_
      refine Aw.sm tab_ok mb0 [(7, [.bool (wi k (last + 1) (p.st.length - 1))]), (12, [.bool (gn g1 k)])] rfl rfl ?zo ?zk
      case zo =>
        repeat' apply AllP.cons
        all_goals first | exact trivial | exact id | exact fun _ => rfl | exact Nat.le_of_ble_eq_true rfl | exact gq_f | exact (by simp only [Ob.of, inR]; omega) | exact q1 | exact q2 | exact fun h => (hgd h).1 | exact (by rw [lp]; exact within_t _ _ _)
      case zk =>
      refine Aw.cond rfl (fun h3 => ?_) (fun h3 => Aw.skip ?_)
      · have h3 : cond (!wi k (last + 1) (p.st.length - 1)) true (gn g1 k) = true := h3
        rw [if_pos h3] at hrun2
        subst hrun2
        have hrun : false = R := hrun
        subst hrun
        refine Aw.sm tab_ok mb0 [] rfl rfl ?zo ?zk
        case zo =>
          repeat' apply AllP.cons
          all_goals first | exact trivial
        case zk =>
        exact Aw.ret ⟨_, .cons (.tmp _) (.cons (.tmp _) .nil), rfl⟩
      · have h3 : cond (!wi k (last + 1) (p.st.length - 1)) true (gn g1 k) = false := h3
        rw [if_neg (by rw [h3]; decide)] at hrun2
        have hw : wi k (last + 1) (p.st.length - 1) = true := by
          cases hh : wi k (last + 1) (p.st.length - 1) with
          | true => rfl
          | false => rw [hh] at h3; cases h3
        have hwk := wi_iff.1 hw
        have hsc := congrArg (fun x => some (B.cells x)) (set_cellsB (l := g1) (k := k.toNat) (v := true) (by omega))
        refine Aw.sm tab_ok mb0 [] rfl rfl ?zo ?zk
        case zo =>
          repeat' apply AllP.cons
          all_goals first | exact trivial | exact rfl | exact (show 0 + k.toNat * 1 + 1 ≤ (g1.map A.bool).length by rw [List.length_map, hg1]; omega) | exact (show k < ((10 : Nat) : Int) by omega) | exact (by simp only [Ob.of]; omega)
        case zk =>
        refine Aw.em tab_ok mb0 [] rfl rfl ?zo ?zk
        case zo =>
          repeat' apply AllP.cons
          all_goals first | exact trivial
        case zk =>
        refine Aw.em tab_ok mb0 [] rfl rfl ?zo ?zk
        case zo =>
          repeat' apply AllP.cons
          all_goals first | exact trivial | exact inrk j (by omega)
        case zk =>
        have hg2 : (g1.set k.toNat true).length = 10 := by rw [List.length_set]; exact hg1
        have hk1 : -1 ≤ k ∧ k ≤ 10 := by omega
        refine ⟨(j + 1, (k, g1.set k.toNat true)), ?zg, ?zm, ⟨?zc, ?zv, ?zh, Nat.le_of_ble_eq_true rfl⟩⟩
        case zg =>
          (repeat' (first | exact ⟨hlt2, hg2, hk1, hrun2⟩))
        case zm =>
          (repeat' (first | omega))
        case zc =>
          (repeat' (first | (refine And.intro ?_ ?_) | exact trivial | exact A.Le.refl _))
        case zv =>
          (repeat' (first | (refine And.intro ?_ ?_) | exact trivial | exact A.Le.refl _))
        case zh =>
          (repeat' (first | (refine And.intro ?_ ?_) | exact trivial | exact hsc))
    have hle2 : j = x.l.length := by have := of_decide_eq_false h2; omega
    subst hle2
    rw [List.drop_length, areRow] at hrun2
    subst hrun2
    have hrun : (if isB p x.l then areGo p g1 (l.drop (i + 1)) else false) = R := hrun
    have hin : StIn p x.l ∧ x.l.length ≤ 10 := by
      rcases areRow_in (by omega) x.l g (-1) g1 (by decide) (.inl (by omega)) hR2 with ⟨h3, h4⟩ | h3
      · exact ⟨fun k hk => by have := h3 k hk; omega, by omega⟩
      · rw [h3]; exact ⟨(fun k hk => by cases hk), (by decide)⟩
    have hisb := isB_t p hP x.n x.l hin.1 hin.2
    generalize isB p x.l = bb at *
    refine Aw.sm tab_ok mb0 [(3, [.bool bb])] rfl rfl ?zo ?zk
    case zo =>
      repeat' apply AllP.cons
      all_goals first | exact trivial | exact Nat.le_of_ble_eq_true rfl | exact hisb
    case zk =>
    refine Aw.cond rfl (fun h3 => ?_) (fun h3 => Aw.skip ?_)
    · have h3 : (!bb) = true := h3
      have h3 : bb = false := by simpa using h3
      rw [h3] at hrun
      have hrun : false = R := hrun
      subst hrun
      refine Aw.sm tab_ok mb0 [] rfl rfl ?zo ?zk
      case zo =>
        repeat' apply AllP.cons
        all_goals first | exact trivial
      case zk =>
      exact Aw.ret ⟨_, .cons (.tmp _) (.cons (.tmp _) .nil), rfl⟩
    · have h3 : (!bb) = false := h3
      have h3 : bb = true := by simpa using h3
      rw [h3] at hrun
      have hrun : areGo p g1 (l.drop (i + 1)) = R := hrun
      refine Aw.em tab_ok mb0 [] rfl rfl ?zo ?zk
      case zo =>
        repeat' apply AllP.cons
        all_goals first | exact trivial | exact inrk i (by omega)
      case zk =>
      refine ⟨(i + 1, g1), ?zg, ?zm, ⟨?zc, ?zv, ?zh, Nat.le_of_ble_eq_true rfl⟩⟩
      case zg =>
        (repeat' (first | exact ⟨hlt, hg1, hrun⟩))
      case zm =>
        (repeat' (first | omega))
      case zc =>
        (repeat' (first | (refine And.intro ?_ ?_) | exact trivial | exact A.Le.refl _))
      case zv =>
        (repeat' (first | (refine And.intro ?_ ?_) | exact trivial | exact A.Le.refl _))
      case zh =>
        (repeat' (first | (refine And.intro ?_ ?_) | exact trivial | exact rfl))
  have hle : i = l.length := by have := of_decide_eq_false h1; omega
  subst hle
  rw [List.drop_length, areGo] at hrun
  subst hrun
  refine Aw.sm tab_ok mb0 [] rfl rfl ?zo ?zk
  case zo =>
    repeat' apply AllP.cons
    all_goals first | exact trivial
  case zk =>
  exact Aw.ret ⟨_, .cons (.tmp _) (.cons (.tmp _) .nil), rfl⟩
end Go.Proofs.Ytampldajinhenaa

namespace Go.Proofs.Ytampldajinhenaa
open Go Go.AL Go.AL.Q Go.AL.Br
theorem SCall.leA {P : Program} {f : FuncId} {args args' : List A} {H : Hp} {c : Nat} {post : A → Hp → Nat → Prop} (h : SCall P f args H c post) (hl : args.length = args'.length) (ha : ∀ i, i < args.length → A.Le (args.getD i .un) (args'.getD i .un)) : SCall P f args' H c post :=
  fun φ Z w vs hr hv => h φ Z w vs hr ⟨hv.1.trans hl.symm, fun i hi => (ha i hi).vr _ _ _ _ (hv.2 i (hl ▸ hi))⟩
theorem Aw.joinH {X : Ctx} {r : Option Nat} {Q : Exit → St → Prop} {s : St} {x y : Code} (n : Nat) (h0 : ∀ id, n ≤ id → X.φ0 id = none) (cst v : List (Nat × A)) (J : Hp → Prop) (uc : UnderL n cst) (uv : UnderL n v) (low : ∀ H, J H → Low n H)
    (h1 : Aw X r x (thenQ (KeepH n cst v J) Q) s) (h2 : ∀ H, J H → Aw X r y Q ⟨ofL2 cst v, H, n⟩) : Aw X r (.seq x y) Q s :=
  Aw.cut _ h1 fun _ hk => Aw.keepH h0 uc uv low hk h2
def yS (s : List Int) : List A := [.sl false .any (ints s)]
def longFn (p : Pile) (g : List Bool) : A := .fn (.func 94) [] [.pt p.c, .pt [.yl 6], .pt (g.map A.bool), .ref 7 0]
def longH (p : Pile) (g : List Bool) (H : Hp) : Hp := updH H 7 (some (.cells [longFn p g]))
theorem bl_free (g : List Bool) : ∀ x ∈ g.map A.bool, Free x := fun x hx => by obtain ⟨v, _, rfl⟩ := List.mem_map.1 hx; exact .s _
theorem longFn_under (p : Pile) (g : List Bool) {k : Nat} (h : 8 ≤ k) : Under k (longFn p g) := .fn _ _ _ (fun _ h => nomatch h) (allC (Free.pt _ p.free).under (allC (.pt _ (all1 (.yl _ (by omega)))) (allC (Free.pt _ (bl_free g)).under (all1 (.ref _ _ (by omega))))))
theorem longH_low {p : Pile} {g : List Bool} {k : Nat} {H : Hp} (h : Low 7 H) (hk : 8 ≤ k) : Low k (longH p g H) := fun id bx hb => by
  unfold longH at hb
  rw [updH_apply] at hb
  split at hb
  · rename_i e; cases hb; exact ⟨by omega, .cells _ (all1 (longFn_under p g hk))⟩
  · have := h id bx hb; exact ⟨by omega, this.2.mono (by omega)⟩
theorem low_none {H : Hp} (h : Low 7 H) {i : Nat} (hi : 7 ≤ i) : H i = none := by
  cases e : H i with
  | none => rfl
  | some bx => have := (h i bx e).1; omega
theorem longH_cut {p : Pile} {g : List Bool} {H : Hp} (h : Low 7 H) : cutH 7 (longH p g H) = H := by
  funext id
  unfold cutH longH
  by_cases h1 : id < 7
  · rw [if_pos h1, updH_other _ _ (by omega)]
  · rw [if_neg h1, low_none h (by omega)]
theorem longH_glue {p : Pile} {g : List Bool} {H H' : Hp} (h : Low 7 H) (h' : Low 7 H') : glueH 7 H' (longH p g H) = longH p g H' := by
  funext id
  unfold glueH longH
  by_cases h1 : id < 7
  · rw [if_pos h1, updH_other _ _ (by omega)]
  · rw [if_neg h1, updH_apply, updH_apply]
    split
    · rfl
    · rw [low_none h (by omega), low_none h' (by omega)]
theorem longH_sub {p : Pile} {g : List Bool} {H : Hp} (h : Low 7 H) : ∀ id bx, H id = some bx → longH p g H id = some bx := fun id bx hb => by
  have := (h id bx hb).1
  unfold longH; rw [updH_other _ _ (by omega)]; exact hb
theorem drop_step {α : Type} {L : List α} {q : Nat} {a b : List α} (h : L.drop q = a ++ b) : L.drop (q + a.length) = b := by
  rw [← List.drop_drop, h, List.drop_left]
theorem range_drop {n k : Nat} (h : k < n) : (List.range n).drop k = k :: (List.range n).drop (k + 1) := by
  rw [List.drop_eq_getElem_cons (by simpa using h)]; simp
def lastI (s : List Int) : Int := s.getLast?.getD 0
theorem last_at {s : List Int} (h : s ≠ []) : (ints s)[Int.toNat (((ints s).length : Int) - 1)]? = some [.int (lastI s)] := by
  have hl : 0 < s.length := List.length_pos_iff.2 h
  have e : Int.toNat (((ints s).length : Int) - 1) = s.length - 1 := by rw [ints_len]; omega
  rw [e, ints_get (by omega)]
  unfold lastI
  rw [List.getLast?_eq_getElem?]
  simp [show s.length - 1 < s.length by omega]
theorem last_mem {s : List Int} (h : s ≠ []) : lastI s ∈ s := by
  unfold lastI
  cases e : s.getLast? with
  | none => rw [List.getLast?_eq_none_iff] at e; exact absurd e h
  | some x => exact List.mem_of_getLast? e
theorem last_app (s : List Int) (k : Int) : lastI (s ++ [k]) = k := by simp [lastI]
def nextF (p : Pile) (g : List Bool) (f : Nat) (s : List Int) (k : Nat) : List (List Int) := if cond (decide ((k : Int) ≤ lastI s)) true (gn g k) = true then [] else longF p g f (s ++ [(k : Int)])
theorem longF_succ (p : Pile) (g : List Bool) (f : Nat) (s : List Int) : longF p g (f + 1) s = (if isB p s then [s] else []) ++ (List.range p.st.length).flatMap (nextF p g f s) := rfl
set_option maxHeartbeats 2000000 in
theorem long_t (p : Pile) (hP : p.Ok) (g : List Bool) (hg : g.length = 10) {S : Slots} {nt : Nat} {ps : Array Tmp} {asg body : Code} {L : List (List A)} {I : Nat → Hp → Prop} (it : Iter Try.prog 7 6 S nt ps asg body L I fun _ => False) :
    ∀ (f : Nat) (s : List Int) (q : Nat) (H : Hp) (c2 : Nat) (rest : List (List A)), s ≠ [] → StIn p s → (s.length : Int) ≤ lastI s + 1 → (p.st.length : Int) ≤ lastI s + f → 8 ≤ c2 → I q H → L.drop q = (longF p g f s).map yS ++ rest →
      SCall Try.prog 94 [.sl false .any (ints s), .pt p.c, .pt [.yl 6], .pt (g.map A.bool), .ref 7 0] (longH p g H) c2 (fun v H' c' => v = .bool true ∧ c2 ≤ c' ∧ ∃ H2, I (q + (longF p g f s).length) H2 ∧ H' = longH p g H2) := by
  have hn := hP.n
  intro f
  induction f with
  | zero =>
    intro s q H c2 rest hne hs hsl hf
    have := hs _ (last_mem hne)
    omega
  | succ f ih =>
    intro s q H c2 rest hne hs hsl hf hc2 hI hL
    have hlm := hs _ (last_mem hne)
    have low := it.low q H hI
    have us : ∀ {n : Nat}, Under n (A.sl false .any (ints s)) := (free_ints _ _ _).under
    have up : ∀ {n : Nat}, Under n (A.pt p.c) := (Free.pt _ p.free).under
    have ug : ∀ {n : Nat}, Under n (A.pt (g.map A.bool)) := (Free.pt _ (bl_free g)).under
    have hisb := isB_t p hP false s hs (by omega)
    have hzl := ints_len s
    rw [longF_succ] at hL ⊢
    generalize hF : nextF p g f s = F at *
    refine SCall.of_bodyN tab_ok Try.func94 rfl Try.ntmps94 (Nat.le_of_ble_eq_true rfl) (allC (fun _ => rfl) (allC (fun _ => rfl) (allC (fun _ => rfl) (allC (fun _ => rfl) (all1 fun _ => rfl))))) fun E hE => ?_
    refine Aw.sm tab_ok mb0 [] rfl rfl ?zo ?zk
    case zo =>
      repeat' apply AllP.cons
      all_goals first | exact trivial
    case zk =>
    refine Aw.scope ?_
    have ucst : UnderL c2 [(0, .sl false .any (ints s)), (1, .pt p.c), (3, .pt (g.map A.bool)), (4, .ref 7 0)] := ⟨us, up, ug, .ref _ _ (by omega), trivial⟩
    have hlen : q + ((if isB p s then [s] else []) ++ (List.range p.st.length).flatMap F).length = q + (if isB p s then [s] else []).length + ((List.range p.st.length).flatMap F).length := by rw [List.length_append, Nat.add_assoc]
    have hL1 : L.drop (q + (if isB p s then [s] else []).length) = ((List.range p.st.length).flatMap F).map yS ++ rest := by
      rw [List.map_append, List.append_assoc] at hL
      have := drop_step hL
      rwa [List.length_map] at this
    refine Aw.joinH c2 hE [(0, .sl false .any (ints s)), (1, .pt p.c), (3, .pt (g.map A.bool)), (4, .ref 7 0)] [] (fun H' => ∃ H2, I (q + (if isB p s then [s] else []).length) H2 ∧ H' = longH p g H2) ucst trivial (fun H' h => by obtain ⟨H2, h2, rfl⟩ := h; exact longH_low (it.low _ _ h2) hc2) ?_ ?_
    · cases hb : isB p s with
      | false =>
        rw [hb] at hisb
        refine Aw.st tab_ok mb0 [(2, [.bool false])] rfl rfl ?zo ?zk
        case zo =>
          repeat' apply AllP.cons
          all_goals first | exact trivial | exact Nat.le_of_ble_eq_true rfl | exact hisb
        case zk =>
        refine Aw.cond rfl (fun h => by cases h) (fun h => Aw.skip ?_)
        exact ⟨⟨.refl _, .refl _, .refl _, .refl _, trivial⟩, trivial, .self (H := longH p g H) ⟨H, hI, rfl⟩, Nat.le_refl _⟩
      | true =>
        rw [hb] at hisb hL
        refine Aw.ss rfl ?_
        refine RegL.partE tab_ok mb0 true 6 0 [(2, [.bool true])] ?_
        conv => arg 5; whnf
        refine PartK.mk ?zo ?zk
        case zo =>
          repeat' apply AllP.cons
          all_goals first | exact trivial | exact Nat.le_of_ble_eq_true rfl | exact hisb
        case zk =>
        refine Does.rawT rfl rfl rfl rfl (Iter.yieldF it rfl rfl rfl (by decide) (by show 7 ≤ c2; omega) (k := q) ?_ (all1 (free_ints _ _ _)) ?_ ?_)
        · have h1 : (L.drop q)[0]? = some (yS s) := by rw [hL]; rfl
          rw [List.getElem?_drop, Nat.add_zero] at h1; exact h1
        · show I q (cutH 7 (longH p g H))
          rw [longH_cut low]; exact hI
        · intro H' hI'
          have hgl := longH_glue (p := p) (g := g) low (it.low _ _ hI')
          refine RegL.partE tab_ok mb0 true 2 7 [] ?_
          conv => arg 5; whnf
          refine PartK.mk ?zo ?zk
          case zo =>
            repeat' apply AllP.cons
            all_goals first | exact trivial | exact id | exact fun _ => rfl
          case zk =>
          refine Aw.cond rfl (fun h => by cases h) (fun h => Aw.skip ?_)
          refine ⟨⟨.refl _, .refl _, .refl _, .refl _, trivial⟩, trivial, ⟨longH p g H', ⟨H', hI', rfl⟩, fun i bx hb => ?_⟩, Nat.le_refl _⟩
          rw [← hgl] at hb; exact hb
    rintro _ ⟨H1, hI1, rfl⟩
    generalize q + (if isB p s then [s] else []).length = q1 at *
    rw [hlen]
    generalize hQ : q1 + ((List.range p.st.length).flatMap F).length = Qend at *
    refine Aw.sm tab_ok mb0 [] rfl rfl ?zo ?zk
    case zo =>
      repeat' apply AllP.cons
      all_goals first | exact trivial
    case zk =>
    refine Aw.seq (Aw.label ?_)
    refine Aw.seq ?_
    refine Aw.sm tab_ok mb0 [] rfl rfl ?zo ?zk
    case zo =>
      repeat' apply AllP.cons
      all_goals first | exact trivial | exact Nat.le_of_ble_eq_true rfl
    case zk =>
    have lp := ints_lenI p.st
    have nn := hP.n
    refine Aw.block (Aw.roundsH (ι := Nat × Nat) c2 hE [(0, .sl false .any (ints s)), (3, .pt (g.map A.bool)), (4, .ref 7 0), (7, .int (ints s).length), (23, .int p.st.length)] (fun i => [(24, .int i.1)])
      (fun i H' => i.1 ≤ p.st.length ∧ L.drop i.2 = (((List.range p.st.length).drop i.1).flatMap F).map yS ++ rest ∧ i.2 + (((List.range p.st.length).drop i.1).flatMap F).length = Qend ∧ ∃ H2, I i.2 H2 ∧ H' = longH p g H2) (fun i => p.st.length - i.1) (0, q1)
      ⟨⟨.refl _, .refl _, .refl _, .refl _, .of_eq (congrArg A.int lp.symm), trivial⟩, ⟨.refl _, trivial⟩, .self (H := longH p g H1) ⟨Nat.zero_le _, hL1, hQ, H1, hI1, rfl⟩, Nat.le_refl _⟩ ⟨us, ug, .ref _ _ (by omega), .s _, .s _, trivial⟩ (fun _ => ⟨.s _, trivial⟩)
      (fun i H' hj => by obtain ⟨_, _, _, H2, hI2, rfl⟩ := hj; exact longH_low (it.low _ _ hI2) hc2) ?_)
    rintro ⟨j, q2⟩ _ ⟨hj, hLq, hQq, H2, hI2, rfl⟩
    simp only at hj hLq hQq hI2
    have low2 := it.low _ _ hI2
    refine Aw.sm tab_ok mb0 [] rfl rfl ?zo ?zk
    case zo =>
      repeat' apply AllP.cons
      all_goals first | exact trivial
    case zk =>
    refine Aw.seq (Aw.cond rfl (fun h1 => Aw.skip1 ?_) (fun h1 => Aw.exit2 ?_))
    · have hlt : j < p.st.length := by have := of_decide_eq_true h1; omega
      rw [range_drop hlt, List.flatMap_cons] at hLq hQq
      rw [List.map_append, List.append_assoc] at hLq
      rw [List.length_append] at hQq
      have hFj : F j = nextF p g f s j := by rw [hF]
      unfold nextF at hFj
      have hla := last_at hne
      refine Aw.seq (Aw.block ?_)
      refine Aw.sm tab_ok mb0 [] rfl rfl ?zo ?zk
      case zo =>
        repeat' apply AllP.cons
        all_goals first | exact trivial
      case zk =>
      refine Aw.seq ?_
      have hj10 : j < (g.map A.bool).length := by rw [List.length_map]; omega
      have hgd : gq (decide ((j : Int) ≤ lastI s)) false = true → ((((g.map A.bool).drop (Int.toNat (j : Int) * 1)).getD 0 .un).down = .bool (gn g j)) := fun _ => by
        unfold gn; rw [Int.toNat_natCast, Nat.mul_one]; simp [List.getD_eq_getElem?_getD, show j < g.length by omega]; rfl
      have hgl : gq (decide ((j : Int) ≤ lastI s)) false = true → 0 < ((g.map A.bool).drop (Int.toNat (j : Int) * 1)).length := fun _ => by rw [List.length_drop, Int.toNat_natCast, Nat.mul_one]; omega
      have hgj : gq (decide ((j : Int) ≤ lastI s)) false = true → (j : Int) < ((10 : Nat) : Int) := fun _ => by omega
      have hg0 : gq (decide ((j : Int) ≤ lastI s)) false = true → 0 ≤ (j : Int) := fun _ => by omega
      have hi0 : 0 ≤ ((ints s).length : Int) - 1 := by have := List.length_pos_iff.2 hne; omega
      refine Aw.sm tab_ok mb0 [(4, [.int (lastI s)]), (10, [.bool (gn g j)])] rfl rfl ?zo ?zk
      case zo =>
        repeat' apply AllP.cons
        all_goals first | exact trivial | exact id | exact rfl | exact fun _ => rfl | exact Nat.le_of_ble_eq_true rfl | exact fun _ => Int.natCast_nonneg _ | exact gq_f | exact hla | exact (show inR (((ints s).length : Int) - 1) by simp only [inR]; omega) | exact hgd | exact hgl | exact hgj | exact hi0
      case zk =>
      refine Aw.cond rfl (fun h3 => ?_) (fun h3 => Aw.skip ?_)
      · have h3 : cond (decide ((j : Int) ≤ lastI s)) true (gn g j) = true := h3
        rw [if_pos h3] at hFj
        rw [hFj] at hLq hQq
        refine Aw.exit (thenE (blkE ?_))
        refine Aw.em tab_ok mb0 [] rfl rfl ?zo ?zk
        case zo =>
          repeat' apply AllP.cons
          all_goals first | exact trivial | exact inrk j (by omega)
        case zk =>
        exact ⟨(j + 1, q2), by show p.st.length - (j + 1) < p.st.length - j; omega, ⟨.refl _, .refl _, .refl _, .refl _, .refl _, trivial⟩, ⟨.refl _, trivial⟩, .self (H := longH p g H2) ⟨hlt, hLq, by rw [← hQq]; simp, H2, hI2, rfl⟩, Nat.le_refl _⟩
      have h3 : cond (decide ((j : Int) ≤ lastI s)) true (gn g j) = false := h3
      rw [if_neg (by rw [h3]; decide)] at hFj
      have hjl : ¬ (j : Int) ≤ lastI s := by
        intro h; rw [decide_eq_true h] at h3; cases h3
      have hla2 := last_app s (j : Int)
      have hcall := fun c3 (h8 : 8 ≤ c3) => ih (s ++ [(j : Int)]) q2 H2 c3 _ (by simp) (fun k hk => by
        rcases List.mem_append.1 hk with h | h
        · exact hs k h
        · simp at h; subst h; omega) (by rw [hla2]; simp; omega) (by rw [hla2]; omega) h8 hI2 (hFj ▸ hLq)
      have hone : ∀ z ∈ [[A.int (j : Int)]], z.length = 1 := fun z hz => by simp at hz; subst hz; rfl
      have ht : (ints s).take (Int.toNat ((ints s).length : Int)) = ints s := by rw [Int.toNat_natCast, List.take_length]
      have hz := ints_one s
      have hb1 : ∀ z ∈ (ints s).take (Int.toNat ((ints s).length : Int)) ++ [[A.int (j : Int)]], z.length = 1 := fun z hz' => by
        rw [ht] at hz'
        rcases List.mem_append.1 hz' with h | h
        · exact hz z h
        · exact hone z h
      have hb2 : (((ints s).take (Int.toNat ((ints s).length : Int))).length + 1) * 8 ≤ 140737488355328 := by rw [ht]; omega
      have hb3 : ((ints s).take (Int.toNat ((ints s).length : Int))).length + 1 ≤ maxLen := by rw [ht]; unfold maxLen; omega
      have hx : (ints (s ++ [(j : Int)])) = (ints s).take (Int.toNat ((ints s).length : Int)) ++ [[A.int (j : Int)]] := by rw [ht, ints_app]; rfl
      rw [hx] at hcall
      refine Aw.seq (SegW.start mixed ?_)
      refine SegW.run (b := 0) tab_ok mb0 8 [(0, [longFn p g])] rfl (by kernel_rfl) rfl rfl ?zo ?zk
      case zo =>
        repeat' apply AllP.cons
        all_goals first | exact trivial | exact id | exact rfl | exact Nat.le_of_ble_eq_true rfl | exact hb1 | exact hb2 | exact hb3 | exact Int.natCast_nonneg _ | exact Int.le_refl _
      case zk =>
      refine SegW.step rfl (by kernel_rfl) rfl (fun i h1 h2 => by
        have h2 : i < 10 := h2
        obtain rfl : i = 9 := by omega
        rfl) (Does.raw rfl (DoesR.call (fst := []) (cap := [.pt p.c, .pt [.yl 6], .pt (g.map A.bool), .ref 7 0]) rfl rfl (enters_of Try.func94 rfl rfl) (hcall _ (by show 8 ≤ c2 + 8; omega)) ?_))
      rintro v H' c' ⟨rfl, hcc, H3, hI3, rfl⟩
      rw [← hFj] at hI3
      refine SegW.run (b := 9) tab_ok mb0 1 [] rfl (by kernel_rfl) rfl rfl ?zo2 ?zk2
      case zo2 =>
        repeat' apply AllP.cons
        all_goals first | exact trivial | exact id | exact rfl
      case zk2 =>
      refine SegW.done (by kernel_rfl) (Nat.le_of_ble_eq_true rfl) ?_
      refine Aw.cond rfl (fun h2 => by cases h2) (fun _ => Aw.skip ?_)
      refine Aw.em tab_ok mb0 [] rfl rfl ?zo ?zk
      case zo =>
        repeat' apply AllP.cons
        all_goals first | exact trivial | exact inrk j (by omega)
      case zk =>
      refine ⟨(j + 1, q2 + (F j).length), by show p.st.length - (j + 1) < p.st.length - j; omega, ⟨.refl _, .refl _, .refl _, .refl _, .refl _, trivial⟩, ⟨.refl _, trivial⟩, .self (H := longH p g H3) ⟨hlt, ?_, (Nat.add_assoc _ _ _).trans hQq, H3, hI3, rfl⟩, ?_⟩
      · have := drop_step hLq
        rwa [List.length_map] at this
      · show c2 ≤ c' + _
        have hcc : c2 + 8 ≤ c' := hcc
        omega
    · have hend : j = p.st.length := by have := of_decide_eq_false h1; omega
      subst hend
      rw [List.drop_of_length_le (by simp)] at hQq
      have hq : q2 = Qend := hQq
      subst hq
      refine Aw.sm tab_ok mb0 [] rfl rfl ?zo ?zk
      case zo =>
        repeat' apply AllP.cons
        all_goals first | exact trivial
      case zk =>
      exact Aw.ret ⟨_, .cons (.tmp _) .nil, rfl, Nat.le_refl _, H2, hI2, rfl⟩
theorem barrels1_t (p : Pile) (hP : p.Ok) (g : List Bool) (hg : g.length = 10) (first : Int) (h0 : 0 ≤ first ∧ first < p.st.length) {S : Slots} {nt : Nat} {ps : Array Tmp} {asg body : Code} {I : Nat → Hp → Prop}
    (it : Iter Try.prog 7 6 S nt ps asg body ((barsF p first g).map yS) I fun _ => False) (H : Hp) (hI : I 0 H) :
    SCall Try.prog 93 [.yl 6, .pt p.c, .pt (g.map A.bool), .pt [.int first]] H 7 (fun v H' c' => 7 ≤ c' ∧ Sub H' (I ((barsF p first g).map yS).length)) := by
  have low := it.low _ _ hI
  have up : ∀ {n : Nat}, Under n (A.pt p.c) := (Free.pt _ p.free).under
  refine SCall.of_bodyN tab_ok Try.func93 rfl Try.ntmps93 (Nat.le_of_ble_eq_true rfl) (allC (fun _ => rfl) (allC (fun _ => rfl) (allC (fun _ => rfl) (all1 fun _ => rfl)))) fun E hE => ?_
  refine Aw.sm tab_ok mb0 [] rfl rfl ?zo ?zk
  case zo =>
    repeat' apply AllP.cons
    all_goals first | exact trivial
  case zk =>
  refine Aw.sm tab_ok mb0 [] rfl rfl ?zo ?zk
  case zo =>
    repeat' apply AllP.cons
    all_goals first | exact trivial
  case zk =>
  refine Aw.sm tab_ok mb0 [] rfl rfl ?zo ?zk
  case zo =>
    repeat' apply AllP.cons
    all_goals first | exact trivial | exact rfl | exact Nat.le_of_ble_eq_true rfl
  case zk =>
  refine Aw.keepH (n := 8) (cst := [(3, .pt [.int first]), (5, .ref 7 0)]) (v := []) (J := fun H' => H' = longH p g H) (fun id h => hE id (by omega)) ⟨.pt _ (all1 (.s _)), .ref _ _ (by decide), trivial⟩ trivial (fun _ e => e ▸ longH_low low (Nat.le_refl _))
    ⟨⟨.refl _, .refl _, trivial⟩, trivial, ⟨longH p g H, rfl, fun i bx hb => ?_⟩, Nat.le_of_ble_eq_true rfl⟩ ?_
  · unfold longH at hb
    rw [updH_apply] at hb
    by_cases e : i = 7
    · subst e; rw [if_pos rfl] at hb; exact hb
    · rw [if_neg e] at hb
      show updH (updH H 7 _) 7 _ i = _
      rw [updH_other _ _ e, updH_other _ _ e]; exact hb
  rintro _ rfl
  have hcall := long_t p hP g hg it p.st.length [first] 0 H 8 [] (by simp) (fun k hk => by simp at hk; subst hk; exact h0) (by simp [lastI]; omega) (by simp [lastI]; omega) (Nat.le_refl _) hI (by rw [List.append_nil, List.drop_zero]; rfl)
  have hcall : SCall Try.prog 94 [.sl false .exact [[.int first]], .pt p.c, .pt [.yl 6], .pt (g.map A.bool), .ref 7 0] (longH p g H) 8 (fun v H' c' => v = .bool true ∧ 8 ≤ c' ∧ ∃ H2, I (0 + (longF p g p.st.length [first]).length) H2 ∧ H' = longH p g H2) :=
    SCall.leA hcall rfl fun i hi => by
      match i, hi with
      | 0, _ => exact .any _ _ _
      | 1, _ => exact .refl _
      | 2, _ => exact .refl _
      | 3, _ => exact .refl _
      | 4, _ => exact .refl _
  refine Aw.es rfl ?_
  refine RegL.partE tab_ok mb0 false 3 0 [(0, [longFn p g])] ?_
  conv => arg 5; whnf
  refine PartK.mk ?zo ?zk
  case zo =>
    repeat' apply AllP.cons
    all_goals first | exact trivial | exact rfl | exact Nat.le_of_ble_eq_true rfl
  case zk =>
  refine Does.raw rfl (DoesR.call (fst := []) (cap := [.pt p.c, .pt [.yl 6], .pt (g.map A.bool), .ref 7 0]) rfl rfl (enters_of Try.func94 rfl rfl) hcall ?_)
  rintro v H' c' ⟨rfl, hc, H2, hI2, rfl⟩
  rw [Nat.zero_add] at hI2
  have hl : ((barsF p first g).map yS).length = (longF p g p.st.length [first]).length := List.length_map _
  rw [← hl] at hI2
  exact ⟨_, .nil, Nat.le_trans (Nat.le_of_ble_eq_true rfl) hc, H2, hI2, longH_sub (it.low _ _ hI2)⟩
theorem barrels_t (p : Pile) (g : List Bool) (hg : g.length = 10) (first : Int) : Ans Try.prog 69 [.agg p.c, .int first, .agg (g.map A.bool)] (.fn (.func 93) [] [.pt p.c, .pt (g.map A.bool), .pt [.int first]]) := by
  have hfr : Free (.fn (.func 93) [] [.pt p.c, .pt (g.map A.bool), .pt [.int first]]) := .fn _ _ _ allN (allC (.pt _ p.free) (allC (.pt _ (bl_free g)) (all1 (.pt _ (all1 (.s _))))))
  match g, hg with
  | [a0, a1, a2, a3, a4, a5, a6, a7, a8, a9], _ =>
  refine told Try.func69 rfl rfl (Pure.of tab_ok Try.func69 rfl Try.ntmps69 rfl (allC (.agg _ p.free) (allC (.s _) (all1 (.agg _ (bl_free [a0, a1, a2, a3, a4, a5, a6, a7, a8, a9]))))) (allC (fun _ => rfl) (allC (fun _ => rfl) (all1 (fun _ => rfl)))) (by first | exact .s _ | assumption | exact .tup _ (by intro x hx; simp only [List.mem_cons, List.not_mem_nil, or_false] at hx; rcases hx with rfl | rfl | rfl | rfl <;> first | exact .s _ | (simp_all; done))) fun E hE => ?_)
  refine Aw.sm tab_ok mb0 [] rfl rfl ?zo ?zk
  case zo =>
    repeat' apply AllP.cons
    all_goals first | exact trivial
  case zk =>
  refine Aw.sm tab_ok mb0 [] rfl rfl ?zo ?zk
  case zo =>
    repeat' apply AllP.cons
    all_goals first | exact trivial
  case zk =>
  exact Aw.ret ⟨_, .cons (.tmp _) .nil, rfl⟩
end Go.Proofs.Ytampldajinhenaa

