/- Contracts of functions of this seat. -/
import Derived.Test.YtofjbgpaofcpjaaAmTabPairs
import Derived.Test.YtofjbgpaofcpjaaAmModels
import Derived.Test.YtofjbgpaofcpjaaAmPairs4
import Derived.Test.YtofjbgpaofcpjaaAmMatchModels
import Derived.Test.YtofjbgpaofcpjaaAmSortPairs
set_option linter.unusedVariables false
set_option linter.unusedSimpArgs false
set_option maxRecDepth 100000
set_option maxHeartbeats 2000000
namespace YtofjbgpaofcpjaaAM
open Go Go.Proofs
attribute [local irreducible] foldN askR askN maskL impB impO bestN freeN stQ rowQ qN inQ sortI sortN goodP isMatch matchB

theorem slicesClone_call (l : List Int) (n : Nat) (hl : l.length ≤ 1048576) (hn : n = l.length) : ACall Try.prog 55 [.slice ⟨0, 0, 0, 1, 0⟩ n] [.arr true .int l] (Is (.slice ⟨1, 0, 0, 1, 0⟩ n) [.arr true .int l, .arr false .int l]) := by
  refine ACall.walk T Try.func55 Try.ntmps55 Try.results55 rfl rfl rfl (Is.nv _ _) ?_
  repeat' (conv => whnf); first
    | refine AWP.seq ?_
    | refine AWP.reg T rfl ?_
    | refine AWP.drw T none rfl rfl rfl ?_
    | refine AWP.dep T none rfl rfl rfl rfl ?_
    | refine AWP.block ?_
    | refine AWP.condT rfl ?_
    | refine AWP.condF rfl ?_
    | refine AWP.cond rfl (fun hb => ?_) (fun hb => ?_)
    | refine AWP.ret ?_
    | refine AWP.exit ?_
    | refine AWP.skip ?_
    | refine GuardB.t ?_
    | refine GuardB.f ?_
    | refine GuardB.mk (fun hb => ?_) (fun hb => ?_)
    | refine NilQ.mk (fun hb => ?_) ?_
    | refine VC.mk Nat.zero_lt_one ?_
    | refine VC.mk rfl ?_
    | refine Ret.s [0, 1] rfl ?_ (.cons (.same rfl rfl) (.cons (.arr rfl ?_) (.nil _))) rfl
    | refine Ret.s [0, 2] rfl ?_ (.cons (.same rfl rfl) (.cons (.arr rfl ?_) (.nil _))) rfl
    | refine Ret.s [0, 3] rfl ?_ (.cons (.same rfl rfl) (.cons (.arr rfl ?_) (.nil _))) rfl
    | refine VC.mk ?_ ?_
  all_goals try simp only [decide_eq_true_eq, decide_eq_false_iff_not, Bool.not_eq_true', Bool.not_eq_false', cond_true, cond_false, eqB_true, eqB_false] at *
  all_goals try simp only [in64, idxAdd_zero_left, Int.toNat_natCast, fillTo_length, Int.ofNat_lt, Int.ofNat_le, Int.natCast_inj] at *
  all_goals first
    | omega
    | rfl
    | exact ⟨by omega, by simp, by omega⟩
    | (subst hn; simp [sub]; done)
    | (have e : l = [] := List.eq_nil_of_length_eq_zero (by omega)
       rw [e])

theorem mul64_1  : ACall Try.prog 87 [.int .u64 1, .int .u64 1] [] (Is (.tuple [.int .u64 0, .int .u64 1]) []) := by
  refine ACall.walk T Try.func87 Try.ntmps87 Try.results87 rfl rfl rfl (Is.nv _ _) ?_
  repeat' (conv => whnf); first
    | refine AWP.seq ?_
    | refine AWP.reg T rfl ?_
    | refine AWP.drw T none rfl rfl rfl ?_
    | refine AWP.dep T none rfl rfl rfl rfl ?_
    | refine AWP.block ?_
    | refine AWP.condT rfl ?_
    | refine AWP.condF rfl ?_
    | refine AWP.cond rfl (fun hb => ?_) (fun hb => ?_)
    | refine AWP.ret ?_
    | refine AWP.exit ?_
    | refine AWP.skip ?_
    | refine GuardB.t ?_
    | refine GuardB.f ?_
    | refine GuardB.mk (fun hb => ?_) (fun hb => ?_)
    | refine NilQ.mk (fun hb => ?_) ?_
    | refine VC.mk Nat.zero_lt_one ?_
    | refine VC.mk rfl ?_
    | refine Ret.ii [] rfl ?_ ?_ (.nil _) rfl
    | refine VC.mk ?_ ?_
  all_goals decide +kernel

theorem mul_1  : ACall Try.prog 82 [.int .u64 1, .int .u64 1] [] (Is (.tuple [.int .u64 0, .int .u64 1]) []) := by
  refine ACall.walk T Try.func82 Try.ntmps82 Try.results82 rfl rfl rfl (Is.nv _ _) ?_
  repeat' (conv => whnf); first
    | refine AWP.seq ?_
    | refine AWP.reg T rfl ?_
    | refine AWP.drw T none rfl rfl rfl ?_
    | refine AWP.dep T none rfl rfl rfl rfl ?_
    | refine AWP.block ?_
    | refine AWP.condT rfl ?_
    | refine AWP.condF rfl ?_
    | refine AWP.cond rfl (fun hb => ?_) (fun hb => ?_)
    | refine AWP.ret ?_
    | refine AWP.exit ?_
    | refine AWP.skip ?_
    | refine GuardB.t ?_
    | refine GuardB.f ?_
    | refine GuardB.mk (fun hb => ?_) (fun hb => ?_)
    | refine NilQ.mk (fun hb => ?_) ?_
    | refine VC.mk Nat.zero_lt_one ?_
    | refine VC.mk rfl ?_
    | refine ACall.useIs [] (mul64_1) rfl (.nil _) rfl ?_
    | refine Ret.ii [] rfl ?_ ?_ (.nil _) rfl
    | refine VC.mk ?_ ?_
  all_goals rfl

theorem repeat1_call (v : Int) : ACall Try.prog 77 [.slice ⟨0, 0, 0, 1, 0⟩ 1, .int .i64 1] [.arr true .int [v]] (Is (.slice ⟨1, 0, 0, 1, 0⟩ 1) [.arr true .int [v], .arr false .int (List.replicate 1 v)]) := by
  refine ACall.walk T Try.func77 Try.ntmps77 Try.results77 rfl rfl rfl (Is.nv _ _) ?_
  repeat' (conv => whnf); first
    | refine AWP.seq ?_
    | refine AWP.reg T rfl ?_
    | refine AWP.drw T none rfl rfl rfl ?_
    | refine AWP.dep T none rfl rfl rfl rfl ?_
    | refine AWP.block ?_
    | refine AWP.condT rfl ?_
    | refine AWP.condF rfl ?_
    | refine AWP.cond rfl (fun hb => ?_) (fun hb => ?_)
    | refine AWP.ret ?_
    | refine AWP.exit ?_
    | refine AWP.skip ?_
    | refine GuardB.t ?_
    | refine GuardB.f ?_
    | refine GuardB.mk (fun hb => ?_) (fun hb => ?_)
    | refine NilQ.mk (fun hb => ?_) ?_
    | refine VC.mk Nat.zero_lt_one ?_
    | refine VC.mk rfl ?_
    | refine ACall.useIs [] (mul_1) rfl (.nil _) rfl ?_
    | refine AWP.while (ι := Nat) (fun k => St.of [(7, .slice ⟨1, 0, 0, 1, 0⟩ 1), (8, .int .i64 k)] [.arr true .int [v], .arr false .int (List.replicate k v ++ List.replicate (1 - k) 0)]) (fun k => k = 1) (fun k => 1 - k) 1 rfl
        (Weak.of [0, 2] (.cons rfl rfl (.cons rfl rfl .nil)) (.cons (.same rfl rfl) (.cons (.same rfl rfl) (.nil _))) rfl) (fun k hk => ?_)
    | refine roundEnd (min (2 * k) 1) ?_ ?_ (Weak.of [0, 1] (.cons rfl rfl (.i rfl ?_ .nil)) (.cons (.same rfl rfl) (.cons (.arr rfl ?_) (.nil _))) rfl)
    | refine Ret.is [0, 1] rfl (.cons (.same rfl rfl) (.cons (.arr rfl ?_) (.nil _))) rfl
    | refine VC.mk ?_ ?_
  all_goals try simp only [in64] at *
  all_goals first
    | decide
    | exact .inl rfl
    | exact ⟨Nat.le_refl _, by decide⟩
    | (rcases hk with rfl <;> first | rfl | decide | (exfalso; revert hb; decide) | (simp; done))
    | (subst hk; first | rfl | decide | (exfalso; revert hb; decide) | (simp; done))

theorem mul64_2  : ACall Try.prog 87 [.int .u64 1, .int .u64 2] [] (Is (.tuple [.int .u64 0, .int .u64 2]) []) := by
  refine ACall.walk T Try.func87 Try.ntmps87 Try.results87 rfl rfl rfl (Is.nv _ _) ?_
  repeat' (conv => whnf); first
    | refine AWP.seq ?_
    | refine AWP.reg T rfl ?_
    | refine AWP.drw T none rfl rfl rfl ?_
    | refine AWP.dep T none rfl rfl rfl rfl ?_
    | refine AWP.block ?_
    | refine AWP.condT rfl ?_
    | refine AWP.condF rfl ?_
    | refine AWP.cond rfl (fun hb => ?_) (fun hb => ?_)
    | refine AWP.ret ?_
    | refine AWP.exit ?_
    | refine AWP.skip ?_
    | refine GuardB.t ?_
    | refine GuardB.f ?_
    | refine GuardB.mk (fun hb => ?_) (fun hb => ?_)
    | refine NilQ.mk (fun hb => ?_) ?_
    | refine VC.mk Nat.zero_lt_one ?_
    | refine VC.mk rfl ?_
    | refine Ret.ii [] rfl ?_ ?_ (.nil _) rfl
    | refine VC.mk ?_ ?_
  all_goals decide +kernel

theorem mul_2  : ACall Try.prog 82 [.int .u64 1, .int .u64 2] [] (Is (.tuple [.int .u64 0, .int .u64 2]) []) := by
  refine ACall.walk T Try.func82 Try.ntmps82 Try.results82 rfl rfl rfl (Is.nv _ _) ?_
  repeat' (conv => whnf); first
    | refine AWP.seq ?_
    | refine AWP.reg T rfl ?_
    | refine AWP.drw T none rfl rfl rfl ?_
    | refine AWP.dep T none rfl rfl rfl rfl ?_
    | refine AWP.block ?_
    | refine AWP.condT rfl ?_
    | refine AWP.condF rfl ?_
    | refine AWP.cond rfl (fun hb => ?_) (fun hb => ?_)
    | refine AWP.ret ?_
    | refine AWP.exit ?_
    | refine AWP.skip ?_
    | refine GuardB.t ?_
    | refine GuardB.f ?_
    | refine GuardB.mk (fun hb => ?_) (fun hb => ?_)
    | refine NilQ.mk (fun hb => ?_) ?_
    | refine VC.mk Nat.zero_lt_one ?_
    | refine VC.mk rfl ?_
    | refine ACall.useIs [] (mul64_2) rfl (.nil _) rfl ?_
    | refine Ret.ii [] rfl ?_ ?_ (.nil _) rfl
    | refine VC.mk ?_ ?_
  all_goals rfl

theorem repeat2_call (v : Int) : ACall Try.prog 77 [.slice ⟨0, 0, 0, 1, 0⟩ 1, .int .i64 2] [.arr true .int [v]] (Is (.slice ⟨1, 0, 0, 1, 0⟩ 2) [.arr true .int [v], .arr false .int (List.replicate 2 v)]) := by
  refine ACall.walk T Try.func77 Try.ntmps77 Try.results77 rfl rfl rfl (Is.nv _ _) ?_
  repeat' (conv => whnf); first
    | refine AWP.seq ?_
    | refine AWP.reg T rfl ?_
    | refine AWP.drw T none rfl rfl rfl ?_
    | refine AWP.dep T none rfl rfl rfl rfl ?_
    | refine AWP.block ?_
    | refine AWP.condT rfl ?_
    | refine AWP.condF rfl ?_
    | refine AWP.cond rfl (fun hb => ?_) (fun hb => ?_)
    | refine AWP.ret ?_
    | refine AWP.exit ?_
    | refine AWP.skip ?_
    | refine GuardB.t ?_
    | refine GuardB.f ?_
    | refine GuardB.mk (fun hb => ?_) (fun hb => ?_)
    | refine NilQ.mk (fun hb => ?_) ?_
    | refine VC.mk Nat.zero_lt_one ?_
    | refine VC.mk rfl ?_
    | refine ACall.useIs [] (mul_2) rfl (.nil _) rfl ?_
    | refine AWP.while (ι := Nat) (fun k => St.of [(7, .slice ⟨1, 0, 0, 1, 0⟩ 2), (8, .int .i64 k)] [.arr true .int [v], .arr false .int (List.replicate k v ++ List.replicate (2 - k) 0)]) (fun k => k = 1 ∨ k = 2) (fun k => 2 - k) 1 ?_
        (Weak.of [0, 2] (.cons rfl rfl (.cons rfl rfl .nil)) (.cons (.same rfl rfl) (.cons (.same rfl rfl) (.nil _))) rfl) (fun k hk => ?_)
    | refine roundEnd (min (2 * k) 2) ?_ ?_ (Weak.of [0, 1] (.cons rfl rfl (.i rfl ?_ .nil)) (.cons (.same rfl rfl) (.cons (.arr rfl ?_) (.nil _))) rfl)
    | refine Ret.is [0, 1] rfl (.cons (.same rfl rfl) (.cons (.arr rfl ?_) (.nil _))) rfl
    | refine VC.mk ?_ ?_
  all_goals try simp only [in64] at *
  all_goals first
    | decide
    | exact .inl rfl
    | exact ⟨Nat.le_refl _, by decide⟩
    | (rcases hk with rfl | rfl <;> first | rfl | decide | (exfalso; revert hb; decide) | (simp; done))
    | (subst hk; first | rfl | decide | (exfalso; revert hb; decide) | (simp; done))

theorem mul64_3  : ACall Try.prog 87 [.int .u64 1, .int .u64 3] [] (Is (.tuple [.int .u64 0, .int .u64 3]) []) := by
  refine ACall.walk T Try.func87 Try.ntmps87 Try.results87 rfl rfl rfl (Is.nv _ _) ?_
  repeat' (conv => whnf); first
    | refine AWP.seq ?_
    | refine AWP.reg T rfl ?_
    | refine AWP.drw T none rfl rfl rfl ?_
    | refine AWP.dep T none rfl rfl rfl rfl ?_
    | refine AWP.block ?_
    | refine AWP.condT rfl ?_
    | refine AWP.condF rfl ?_
    | refine AWP.cond rfl (fun hb => ?_) (fun hb => ?_)
    | refine AWP.ret ?_
    | refine AWP.exit ?_
    | refine AWP.skip ?_
    | refine GuardB.t ?_
    | refine GuardB.f ?_
    | refine GuardB.mk (fun hb => ?_) (fun hb => ?_)
    | refine NilQ.mk (fun hb => ?_) ?_
    | refine VC.mk Nat.zero_lt_one ?_
    | refine VC.mk rfl ?_
    | refine Ret.ii [] rfl ?_ ?_ (.nil _) rfl
    | refine VC.mk ?_ ?_
  all_goals decide +kernel

theorem mul_3  : ACall Try.prog 82 [.int .u64 1, .int .u64 3] [] (Is (.tuple [.int .u64 0, .int .u64 3]) []) := by
  refine ACall.walk T Try.func82 Try.ntmps82 Try.results82 rfl rfl rfl (Is.nv _ _) ?_
  repeat' (conv => whnf); first
    | refine AWP.seq ?_
    | refine AWP.reg T rfl ?_
    | refine AWP.drw T none rfl rfl rfl ?_
    | refine AWP.dep T none rfl rfl rfl rfl ?_
    | refine AWP.block ?_
    | refine AWP.condT rfl ?_
    | refine AWP.condF rfl ?_
    | refine AWP.cond rfl (fun hb => ?_) (fun hb => ?_)
    | refine AWP.ret ?_
    | refine AWP.exit ?_
    | refine AWP.skip ?_
    | refine GuardB.t ?_
    | refine GuardB.f ?_
    | refine GuardB.mk (fun hb => ?_) (fun hb => ?_)
    | refine NilQ.mk (fun hb => ?_) ?_
    | refine VC.mk Nat.zero_lt_one ?_
    | refine VC.mk rfl ?_
    | refine ACall.useIs [] (mul64_3) rfl (.nil _) rfl ?_
    | refine Ret.ii [] rfl ?_ ?_ (.nil _) rfl
    | refine VC.mk ?_ ?_
  all_goals rfl

theorem repeat3_call (v : Int) : ACall Try.prog 77 [.slice ⟨0, 0, 0, 1, 0⟩ 1, .int .i64 3] [.arr true .int [v]] (Is (.slice ⟨1, 0, 0, 1, 0⟩ 3) [.arr true .int [v], .arr false .int (List.replicate 3 v)]) := by
  refine ACall.walk T Try.func77 Try.ntmps77 Try.results77 rfl rfl rfl (Is.nv _ _) ?_
  repeat' (conv => whnf); first
    | refine AWP.seq ?_
    | refine AWP.reg T rfl ?_
    | refine AWP.drw T none rfl rfl rfl ?_
    | refine AWP.dep T none rfl rfl rfl rfl ?_
    | refine AWP.block ?_
    | refine AWP.condT rfl ?_
    | refine AWP.condF rfl ?_
    | refine AWP.cond rfl (fun hb => ?_) (fun hb => ?_)
    | refine AWP.ret ?_
    | refine AWP.exit ?_
    | refine AWP.skip ?_
    | refine GuardB.t ?_
    | refine GuardB.f ?_
    | refine GuardB.mk (fun hb => ?_) (fun hb => ?_)
    | refine NilQ.mk (fun hb => ?_) ?_
    | refine VC.mk Nat.zero_lt_one ?_
    | refine VC.mk rfl ?_
    | refine ACall.useIs [] (mul_3) rfl (.nil _) rfl ?_
    | refine AWP.while (ι := Nat) (fun k => St.of [(7, .slice ⟨1, 0, 0, 1, 0⟩ 3), (8, .int .i64 k)] [.arr true .int [v], .arr false .int (List.replicate k v ++ List.replicate (3 - k) 0)]) (fun k => k = 1 ∨ k = 2 ∨ k = 3) (fun k => 3 - k) 1 ?_
        (Weak.of [0, 2] (.cons rfl rfl (.cons rfl rfl .nil)) (.cons (.same rfl rfl) (.cons (.same rfl rfl) (.nil _))) rfl) (fun k hk => ?_)
    | refine roundEnd (min (2 * k) 3) ?_ ?_ (Weak.of [0, 1] (.cons rfl rfl (.i rfl ?_ .nil)) (.cons (.same rfl rfl) (.cons (.arr rfl ?_) (.nil _))) rfl)
    | refine Ret.is [0, 1] rfl (.cons (.same rfl rfl) (.cons (.arr rfl ?_) (.nil _))) rfl
    | refine VC.mk ?_ ?_
  all_goals try simp only [in64] at *
  all_goals first
    | decide
    | exact .inl rfl
    | exact ⟨Nat.le_refl _, by decide⟩
    | (rcases hk with rfl | rfl | rfl <;> first | rfl | decide | (exfalso; revert hb; decide) | (simp; done))
    | (subst hk; first | rfl | decide | (exfalso; revert hb; decide) | (simp; done))

theorem mul64_4  : ACall Try.prog 87 [.int .u64 1, .int .u64 4] [] (Is (.tuple [.int .u64 0, .int .u64 4]) []) := by
  refine ACall.walk T Try.func87 Try.ntmps87 Try.results87 rfl rfl rfl (Is.nv _ _) ?_
  repeat' (conv => whnf); first
    | refine AWP.seq ?_
    | refine AWP.reg T rfl ?_
    | refine AWP.drw T none rfl rfl rfl ?_
    | refine AWP.dep T none rfl rfl rfl rfl ?_
    | refine AWP.block ?_
    | refine AWP.condT rfl ?_
    | refine AWP.condF rfl ?_
    | refine AWP.cond rfl (fun hb => ?_) (fun hb => ?_)
    | refine AWP.ret ?_
    | refine AWP.exit ?_
    | refine AWP.skip ?_
    | refine GuardB.t ?_
    | refine GuardB.f ?_
    | refine GuardB.mk (fun hb => ?_) (fun hb => ?_)
    | refine NilQ.mk (fun hb => ?_) ?_
    | refine VC.mk Nat.zero_lt_one ?_
    | refine VC.mk rfl ?_
    | refine Ret.ii [] rfl ?_ ?_ (.nil _) rfl
    | refine VC.mk ?_ ?_
  all_goals decide +kernel

theorem mul_4  : ACall Try.prog 82 [.int .u64 1, .int .u64 4] [] (Is (.tuple [.int .u64 0, .int .u64 4]) []) := by
  refine ACall.walk T Try.func82 Try.ntmps82 Try.results82 rfl rfl rfl (Is.nv _ _) ?_
  repeat' (conv => whnf); first
    | refine AWP.seq ?_
    | refine AWP.reg T rfl ?_
    | refine AWP.drw T none rfl rfl rfl ?_
    | refine AWP.dep T none rfl rfl rfl rfl ?_
    | refine AWP.block ?_
    | refine AWP.condT rfl ?_
    | refine AWP.condF rfl ?_
    | refine AWP.cond rfl (fun hb => ?_) (fun hb => ?_)
    | refine AWP.ret ?_
    | refine AWP.exit ?_
    | refine AWP.skip ?_
    | refine GuardB.t ?_
    | refine GuardB.f ?_
    | refine GuardB.mk (fun hb => ?_) (fun hb => ?_)
    | refine NilQ.mk (fun hb => ?_) ?_
    | refine VC.mk Nat.zero_lt_one ?_
    | refine VC.mk rfl ?_
    | refine ACall.useIs [] (mul64_4) rfl (.nil _) rfl ?_
    | refine Ret.ii [] rfl ?_ ?_ (.nil _) rfl
    | refine VC.mk ?_ ?_
  all_goals rfl

theorem repeat4_call (v : Int) : ACall Try.prog 77 [.slice ⟨0, 0, 0, 1, 0⟩ 1, .int .i64 4] [.arr true .int [v]] (Is (.slice ⟨1, 0, 0, 1, 0⟩ 4) [.arr true .int [v], .arr false .int (List.replicate 4 v)]) := by
  refine ACall.walk T Try.func77 Try.ntmps77 Try.results77 rfl rfl rfl (Is.nv _ _) ?_
  repeat' (conv => whnf); first
    | refine AWP.seq ?_
    | refine AWP.reg T rfl ?_
    | refine AWP.drw T none rfl rfl rfl ?_
    | refine AWP.dep T none rfl rfl rfl rfl ?_
    | refine AWP.block ?_
    | refine AWP.condT rfl ?_
    | refine AWP.condF rfl ?_
    | refine AWP.cond rfl (fun hb => ?_) (fun hb => ?_)
    | refine AWP.ret ?_
    | refine AWP.exit ?_
    | refine AWP.skip ?_
    | refine GuardB.t ?_
    | refine GuardB.f ?_
    | refine GuardB.mk (fun hb => ?_) (fun hb => ?_)
    | refine NilQ.mk (fun hb => ?_) ?_
    | refine VC.mk Nat.zero_lt_one ?_
    | refine VC.mk rfl ?_
    | refine ACall.useIs [] (mul_4) rfl (.nil _) rfl ?_
    | refine AWP.while (ι := Nat) (fun k => St.of [(7, .slice ⟨1, 0, 0, 1, 0⟩ 4), (8, .int .i64 k)] [.arr true .int [v], .arr false .int (List.replicate k v ++ List.replicate (4 - k) 0)]) (fun k => k = 1 ∨ k = 2 ∨ k = 4) (fun k => 4 - k) 1 ?_
        (Weak.of [0, 2] (.cons rfl rfl (.cons rfl rfl .nil)) (.cons (.same rfl rfl) (.cons (.same rfl rfl) (.nil _))) rfl) (fun k hk => ?_)
    | refine roundEnd (min (2 * k) 4) ?_ ?_ (Weak.of [0, 1] (.cons rfl rfl (.i rfl ?_ .nil)) (.cons (.same rfl rfl) (.cons (.arr rfl ?_) (.nil _))) rfl)
    | refine Ret.is [0, 1] rfl (.cons (.same rfl rfl) (.cons (.arr rfl ?_) (.nil _))) rfl
    | refine VC.mk ?_ ?_
  all_goals try simp only [in64] at *
  all_goals first
    | decide
    | exact .inl rfl
    | exact ⟨Nat.le_refl _, by decide⟩
    | (rcases hk with rfl | rfl | rfl <;> first | rfl | decide | (exfalso; revert hb; decide) | (simp; done))
    | (subst hk; first | rfl | decide | (exfalso; revert hb; decide) | (simp; done))

theorem mul64_5  : ACall Try.prog 87 [.int .u64 1, .int .u64 5] [] (Is (.tuple [.int .u64 0, .int .u64 5]) []) := by
  refine ACall.walk T Try.func87 Try.ntmps87 Try.results87 rfl rfl rfl (Is.nv _ _) ?_
  repeat' (conv => whnf); first
    | refine AWP.seq ?_
    | refine AWP.reg T rfl ?_
    | refine AWP.drw T none rfl rfl rfl ?_
    | refine AWP.dep T none rfl rfl rfl rfl ?_
    | refine AWP.block ?_
    | refine AWP.condT rfl ?_
    | refine AWP.condF rfl ?_
    | refine AWP.cond rfl (fun hb => ?_) (fun hb => ?_)
    | refine AWP.ret ?_
    | refine AWP.exit ?_
    | refine AWP.skip ?_
    | refine GuardB.t ?_
    | refine GuardB.f ?_
    | refine GuardB.mk (fun hb => ?_) (fun hb => ?_)
    | refine NilQ.mk (fun hb => ?_) ?_
    | refine VC.mk Nat.zero_lt_one ?_
    | refine VC.mk rfl ?_
    | refine Ret.ii [] rfl ?_ ?_ (.nil _) rfl
    | refine VC.mk ?_ ?_
  all_goals decide +kernel

theorem mul_5  : ACall Try.prog 82 [.int .u64 1, .int .u64 5] [] (Is (.tuple [.int .u64 0, .int .u64 5]) []) := by
  refine ACall.walk T Try.func82 Try.ntmps82 Try.results82 rfl rfl rfl (Is.nv _ _) ?_
  repeat' (conv => whnf); first
    | refine AWP.seq ?_
    | refine AWP.reg T rfl ?_
    | refine AWP.drw T none rfl rfl rfl ?_
    | refine AWP.dep T none rfl rfl rfl rfl ?_
    | refine AWP.block ?_
    | refine AWP.condT rfl ?_
    | refine AWP.condF rfl ?_
    | refine AWP.cond rfl (fun hb => ?_) (fun hb => ?_)
    | refine AWP.ret ?_
    | refine AWP.exit ?_
    | refine AWP.skip ?_
    | refine GuardB.t ?_
    | refine GuardB.f ?_
    | refine GuardB.mk (fun hb => ?_) (fun hb => ?_)
    | refine NilQ.mk (fun hb => ?_) ?_
    | refine VC.mk Nat.zero_lt_one ?_
    | refine VC.mk rfl ?_
    | refine ACall.useIs [] (mul64_5) rfl (.nil _) rfl ?_
    | refine Ret.ii [] rfl ?_ ?_ (.nil _) rfl
    | refine VC.mk ?_ ?_
  all_goals rfl

theorem repeat5_call (v : Int) : ACall Try.prog 77 [.slice ⟨0, 0, 0, 1, 0⟩ 1, .int .i64 5] [.arr true .int [v]] (Is (.slice ⟨1, 0, 0, 1, 0⟩ 5) [.arr true .int [v], .arr false .int (List.replicate 5 v)]) := by
  refine ACall.walk T Try.func77 Try.ntmps77 Try.results77 rfl rfl rfl (Is.nv _ _) ?_
  repeat' (conv => whnf); first
    | refine AWP.seq ?_
    | refine AWP.reg T rfl ?_
    | refine AWP.drw T none rfl rfl rfl ?_
    | refine AWP.dep T none rfl rfl rfl rfl ?_
    | refine AWP.block ?_
    | refine AWP.condT rfl ?_
    | refine AWP.condF rfl ?_
    | refine AWP.cond rfl (fun hb => ?_) (fun hb => ?_)
    | refine AWP.ret ?_
    | refine AWP.exit ?_
    | refine AWP.skip ?_
    | refine GuardB.t ?_
    | refine GuardB.f ?_
    | refine GuardB.mk (fun hb => ?_) (fun hb => ?_)
    | refine NilQ.mk (fun hb => ?_) ?_
    | refine VC.mk Nat.zero_lt_one ?_
    | refine VC.mk rfl ?_
    | refine ACall.useIs [] (mul_5) rfl (.nil _) rfl ?_
    | refine AWP.while (ι := Nat) (fun k => St.of [(7, .slice ⟨1, 0, 0, 1, 0⟩ 5), (8, .int .i64 k)] [.arr true .int [v], .arr false .int (List.replicate k v ++ List.replicate (5 - k) 0)]) (fun k => k = 1 ∨ k = 2 ∨ k = 4 ∨ k = 5) (fun k => 5 - k) 1 ?_
        (Weak.of [0, 2] (.cons rfl rfl (.cons rfl rfl .nil)) (.cons (.same rfl rfl) (.cons (.same rfl rfl) (.nil _))) rfl) (fun k hk => ?_)
    | refine roundEnd (min (2 * k) 5) ?_ ?_ (Weak.of [0, 1] (.cons rfl rfl (.i rfl ?_ .nil)) (.cons (.same rfl rfl) (.cons (.arr rfl ?_) (.nil _))) rfl)
    | refine Ret.is [0, 1] rfl (.cons (.same rfl rfl) (.cons (.arr rfl ?_) (.nil _))) rfl
    | refine VC.mk ?_ ?_
  all_goals try simp only [in64] at *
  all_goals first
    | decide
    | exact .inl rfl
    | exact ⟨Nat.le_refl _, by decide⟩
    | (rcases hk with rfl | rfl | rfl | rfl <;> first | rfl | decide | (exfalso; revert hb; decide) | (simp; done))
    | (subst hk; first | rfl | decide | (exfalso; revert hb; decide) | (simp; done))

theorem mul64_6  : ACall Try.prog 87 [.int .u64 1, .int .u64 6] [] (Is (.tuple [.int .u64 0, .int .u64 6]) []) := by
  refine ACall.walk T Try.func87 Try.ntmps87 Try.results87 rfl rfl rfl (Is.nv _ _) ?_
  repeat' (conv => whnf); first
    | refine AWP.seq ?_
    | refine AWP.reg T rfl ?_
    | refine AWP.drw T none rfl rfl rfl ?_
    | refine AWP.dep T none rfl rfl rfl rfl ?_
    | refine AWP.block ?_
    | refine AWP.condT rfl ?_
    | refine AWP.condF rfl ?_
    | refine AWP.cond rfl (fun hb => ?_) (fun hb => ?_)
    | refine AWP.ret ?_
    | refine AWP.exit ?_
    | refine AWP.skip ?_
    | refine GuardB.t ?_
    | refine GuardB.f ?_
    | refine GuardB.mk (fun hb => ?_) (fun hb => ?_)
    | refine NilQ.mk (fun hb => ?_) ?_
    | refine VC.mk Nat.zero_lt_one ?_
    | refine VC.mk rfl ?_
    | refine Ret.ii [] rfl ?_ ?_ (.nil _) rfl
    | refine VC.mk ?_ ?_
  all_goals decide +kernel

theorem mul_6  : ACall Try.prog 82 [.int .u64 1, .int .u64 6] [] (Is (.tuple [.int .u64 0, .int .u64 6]) []) := by
  refine ACall.walk T Try.func82 Try.ntmps82 Try.results82 rfl rfl rfl (Is.nv _ _) ?_
  repeat' (conv => whnf); first
    | refine AWP.seq ?_
    | refine AWP.reg T rfl ?_
    | refine AWP.drw T none rfl rfl rfl ?_
    | refine AWP.dep T none rfl rfl rfl rfl ?_
    | refine AWP.block ?_
    | refine AWP.condT rfl ?_
    | refine AWP.condF rfl ?_
    | refine AWP.cond rfl (fun hb => ?_) (fun hb => ?_)
    | refine AWP.ret ?_
    | refine AWP.exit ?_
    | refine AWP.skip ?_
    | refine GuardB.t ?_
    | refine GuardB.f ?_
    | refine GuardB.mk (fun hb => ?_) (fun hb => ?_)
    | refine NilQ.mk (fun hb => ?_) ?_
    | refine VC.mk Nat.zero_lt_one ?_
    | refine VC.mk rfl ?_
    | refine ACall.useIs [] (mul64_6) rfl (.nil _) rfl ?_
    | refine Ret.ii [] rfl ?_ ?_ (.nil _) rfl
    | refine VC.mk ?_ ?_
  all_goals rfl

theorem repeat6_call (v : Int) : ACall Try.prog 77 [.slice ⟨0, 0, 0, 1, 0⟩ 1, .int .i64 6] [.arr true .int [v]] (Is (.slice ⟨1, 0, 0, 1, 0⟩ 6) [.arr true .int [v], .arr false .int (List.replicate 6 v)]) := by
  refine ACall.walk T Try.func77 Try.ntmps77 Try.results77 rfl rfl rfl (Is.nv _ _) ?_
  repeat' (conv => whnf); first
    | refine AWP.seq ?_
    | refine AWP.reg T rfl ?_
    | refine AWP.drw T none rfl rfl rfl ?_
    | refine AWP.dep T none rfl rfl rfl rfl ?_
    | refine AWP.block ?_
    | refine AWP.condT rfl ?_
    | refine AWP.condF rfl ?_
    | refine AWP.cond rfl (fun hb => ?_) (fun hb => ?_)
    | refine AWP.ret ?_
    | refine AWP.exit ?_
    | refine AWP.skip ?_
    | refine GuardB.t ?_
    | refine GuardB.f ?_
    | refine GuardB.mk (fun hb => ?_) (fun hb => ?_)
    | refine NilQ.mk (fun hb => ?_) ?_
    | refine VC.mk Nat.zero_lt_one ?_
    | refine VC.mk rfl ?_
    | refine ACall.useIs [] (mul_6) rfl (.nil _) rfl ?_
    | refine AWP.while (ι := Nat) (fun k => St.of [(7, .slice ⟨1, 0, 0, 1, 0⟩ 6), (8, .int .i64 k)] [.arr true .int [v], .arr false .int (List.replicate k v ++ List.replicate (6 - k) 0)]) (fun k => k = 1 ∨ k = 2 ∨ k = 4 ∨ k = 6) (fun k => 6 - k) 1 ?_
        (Weak.of [0, 2] (.cons rfl rfl (.cons rfl rfl .nil)) (.cons (.same rfl rfl) (.cons (.same rfl rfl) (.nil _))) rfl) (fun k hk => ?_)
    | refine roundEnd (min (2 * k) 6) ?_ ?_ (Weak.of [0, 1] (.cons rfl rfl (.i rfl ?_ .nil)) (.cons (.same rfl rfl) (.cons (.arr rfl ?_) (.nil _))) rfl)
    | refine Ret.is [0, 1] rfl (.cons (.same rfl rfl) (.cons (.arr rfl ?_) (.nil _))) rfl
    | refine VC.mk ?_ ?_
  all_goals try simp only [in64] at *
  all_goals first
    | decide
    | exact .inl rfl
    | exact ⟨Nat.le_refl _, by decide⟩
    | (rcases hk with rfl | rfl | rfl | rfl <;> first | rfl | decide | (exfalso; revert hb; decide) | (simp; done))
    | (subst hk; first | rfl | decide | (exfalso; revert hb; decide) | (simp; done))

theorem mul64_7  : ACall Try.prog 87 [.int .u64 1, .int .u64 7] [] (Is (.tuple [.int .u64 0, .int .u64 7]) []) := by
  refine ACall.walk T Try.func87 Try.ntmps87 Try.results87 rfl rfl rfl (Is.nv _ _) ?_
  repeat' (conv => whnf); first
    | refine AWP.seq ?_
    | refine AWP.reg T rfl ?_
    | refine AWP.drw T none rfl rfl rfl ?_
    | refine AWP.dep T none rfl rfl rfl rfl ?_
    | refine AWP.block ?_
    | refine AWP.condT rfl ?_
    | refine AWP.condF rfl ?_
    | refine AWP.cond rfl (fun hb => ?_) (fun hb => ?_)
    | refine AWP.ret ?_
    | refine AWP.exit ?_
    | refine AWP.skip ?_
    | refine GuardB.t ?_
    | refine GuardB.f ?_
    | refine GuardB.mk (fun hb => ?_) (fun hb => ?_)
    | refine NilQ.mk (fun hb => ?_) ?_
    | refine VC.mk Nat.zero_lt_one ?_
    | refine VC.mk rfl ?_
    | refine Ret.ii [] rfl ?_ ?_ (.nil _) rfl
    | refine VC.mk ?_ ?_
  all_goals decide +kernel

theorem mul_7  : ACall Try.prog 82 [.int .u64 1, .int .u64 7] [] (Is (.tuple [.int .u64 0, .int .u64 7]) []) := by
  refine ACall.walk T Try.func82 Try.ntmps82 Try.results82 rfl rfl rfl (Is.nv _ _) ?_
  repeat' (conv => whnf); first
    | refine AWP.seq ?_
    | refine AWP.reg T rfl ?_
    | refine AWP.drw T none rfl rfl rfl ?_
    | refine AWP.dep T none rfl rfl rfl rfl ?_
    | refine AWP.block ?_
    | refine AWP.condT rfl ?_
    | refine AWP.condF rfl ?_
    | refine AWP.cond rfl (fun hb => ?_) (fun hb => ?_)
    | refine AWP.ret ?_
    | refine AWP.exit ?_
    | refine AWP.skip ?_
    | refine GuardB.t ?_
    | refine GuardB.f ?_
    | refine GuardB.mk (fun hb => ?_) (fun hb => ?_)
    | refine NilQ.mk (fun hb => ?_) ?_
    | refine VC.mk Nat.zero_lt_one ?_
    | refine VC.mk rfl ?_
    | refine ACall.useIs [] (mul64_7) rfl (.nil _) rfl ?_
    | refine Ret.ii [] rfl ?_ ?_ (.nil _) rfl
    | refine VC.mk ?_ ?_
  all_goals rfl

theorem repeat7_call (v : Int) : ACall Try.prog 77 [.slice ⟨0, 0, 0, 1, 0⟩ 1, .int .i64 7] [.arr true .int [v]] (Is (.slice ⟨1, 0, 0, 1, 0⟩ 7) [.arr true .int [v], .arr false .int (List.replicate 7 v)]) := by
  refine ACall.walk T Try.func77 Try.ntmps77 Try.results77 rfl rfl rfl (Is.nv _ _) ?_
  repeat' (conv => whnf); first
    | refine AWP.seq ?_
    | refine AWP.reg T rfl ?_
    | refine AWP.drw T none rfl rfl rfl ?_
    | refine AWP.dep T none rfl rfl rfl rfl ?_
    | refine AWP.block ?_
    | refine AWP.condT rfl ?_
    | refine AWP.condF rfl ?_
    | refine AWP.cond rfl (fun hb => ?_) (fun hb => ?_)
    | refine AWP.ret ?_
    | refine AWP.exit ?_
    | refine AWP.skip ?_
    | refine GuardB.t ?_
    | refine GuardB.f ?_
    | refine GuardB.mk (fun hb => ?_) (fun hb => ?_)
    | refine NilQ.mk (fun hb => ?_) ?_
    | refine VC.mk Nat.zero_lt_one ?_
    | refine VC.mk rfl ?_
    | refine ACall.useIs [] (mul_7) rfl (.nil _) rfl ?_
    | refine AWP.while (ι := Nat) (fun k => St.of [(7, .slice ⟨1, 0, 0, 1, 0⟩ 7), (8, .int .i64 k)] [.arr true .int [v], .arr false .int (List.replicate k v ++ List.replicate (7 - k) 0)]) (fun k => k = 1 ∨ k = 2 ∨ k = 4 ∨ k = 7) (fun k => 7 - k) 1 ?_
        (Weak.of [0, 2] (.cons rfl rfl (.cons rfl rfl .nil)) (.cons (.same rfl rfl) (.cons (.same rfl rfl) (.nil _))) rfl) (fun k hk => ?_)
    | refine roundEnd (min (2 * k) 7) ?_ ?_ (Weak.of [0, 1] (.cons rfl rfl (.i rfl ?_ .nil)) (.cons (.same rfl rfl) (.cons (.arr rfl ?_) (.nil _))) rfl)
    | refine Ret.is [0, 1] rfl (.cons (.same rfl rfl) (.cons (.arr rfl ?_) (.nil _))) rfl
    | refine VC.mk ?_ ?_
  all_goals try simp only [in64] at *
  all_goals first
    | decide
    | exact .inl rfl
    | exact ⟨Nat.le_refl _, by decide⟩
    | (rcases hk with rfl | rfl | rfl | rfl <;> first | rfl | decide | (exfalso; revert hb; decide) | (simp; done))
    | (subst hk; first | rfl | decide | (exfalso; revert hb; decide) | (simp; done))

theorem mul64_8  : ACall Try.prog 87 [.int .u64 1, .int .u64 8] [] (Is (.tuple [.int .u64 0, .int .u64 8]) []) := by
  refine ACall.walk T Try.func87 Try.ntmps87 Try.results87 rfl rfl rfl (Is.nv _ _) ?_
  repeat' (conv => whnf); first
    | refine AWP.seq ?_
    | refine AWP.reg T rfl ?_
    | refine AWP.drw T none rfl rfl rfl ?_
    | refine AWP.dep T none rfl rfl rfl rfl ?_
    | refine AWP.block ?_
    | refine AWP.condT rfl ?_
    | refine AWP.condF rfl ?_
    | refine AWP.cond rfl (fun hb => ?_) (fun hb => ?_)
    | refine AWP.ret ?_
    | refine AWP.exit ?_
    | refine AWP.skip ?_
    | refine GuardB.t ?_
    | refine GuardB.f ?_
    | refine GuardB.mk (fun hb => ?_) (fun hb => ?_)
    | refine NilQ.mk (fun hb => ?_) ?_
    | refine VC.mk Nat.zero_lt_one ?_
    | refine VC.mk rfl ?_
    | refine Ret.ii [] rfl ?_ ?_ (.nil _) rfl
    | refine VC.mk ?_ ?_
  all_goals decide +kernel

theorem mul_8  : ACall Try.prog 82 [.int .u64 1, .int .u64 8] [] (Is (.tuple [.int .u64 0, .int .u64 8]) []) := by
  refine ACall.walk T Try.func82 Try.ntmps82 Try.results82 rfl rfl rfl (Is.nv _ _) ?_
  repeat' (conv => whnf); first
    | refine AWP.seq ?_
    | refine AWP.reg T rfl ?_
    | refine AWP.drw T none rfl rfl rfl ?_
    | refine AWP.dep T none rfl rfl rfl rfl ?_
    | refine AWP.block ?_
    | refine AWP.condT rfl ?_
    | refine AWP.condF rfl ?_
    | refine AWP.cond rfl (fun hb => ?_) (fun hb => ?_)
    | refine AWP.ret ?_
    | refine AWP.exit ?_
    | refine AWP.skip ?_
    | refine GuardB.t ?_
    | refine GuardB.f ?_
    | refine GuardB.mk (fun hb => ?_) (fun hb => ?_)
    | refine NilQ.mk (fun hb => ?_) ?_
    | refine VC.mk Nat.zero_lt_one ?_
    | refine VC.mk rfl ?_
    | refine ACall.useIs [] (mul64_8) rfl (.nil _) rfl ?_
    | refine Ret.ii [] rfl ?_ ?_ (.nil _) rfl
    | refine VC.mk ?_ ?_
  all_goals rfl

theorem repeat8_call (v : Int) : ACall Try.prog 77 [.slice ⟨0, 0, 0, 1, 0⟩ 1, .int .i64 8] [.arr true .int [v]] (Is (.slice ⟨1, 0, 0, 1, 0⟩ 8) [.arr true .int [v], .arr false .int (List.replicate 8 v)]) := by
  refine ACall.walk T Try.func77 Try.ntmps77 Try.results77 rfl rfl rfl (Is.nv _ _) ?_
  repeat' (conv => whnf); first
    | refine AWP.seq ?_
    | refine AWP.reg T rfl ?_
    | refine AWP.drw T none rfl rfl rfl ?_
    | refine AWP.dep T none rfl rfl rfl rfl ?_
    | refine AWP.block ?_
    | refine AWP.condT rfl ?_
    | refine AWP.condF rfl ?_
    | refine AWP.cond rfl (fun hb => ?_) (fun hb => ?_)
    | refine AWP.ret ?_
    | refine AWP.exit ?_
    | refine AWP.skip ?_
    | refine GuardB.t ?_
    | refine GuardB.f ?_
    | refine GuardB.mk (fun hb => ?_) (fun hb => ?_)
    | refine NilQ.mk (fun hb => ?_) ?_
    | refine VC.mk Nat.zero_lt_one ?_
    | refine VC.mk rfl ?_
    | refine ACall.useIs [] (mul_8) rfl (.nil _) rfl ?_
    | refine AWP.while (ι := Nat) (fun k => St.of [(7, .slice ⟨1, 0, 0, 1, 0⟩ 8), (8, .int .i64 k)] [.arr true .int [v], .arr false .int (List.replicate k v ++ List.replicate (8 - k) 0)]) (fun k => k = 1 ∨ k = 2 ∨ k = 4 ∨ k = 8) (fun k => 8 - k) 1 ?_
        (Weak.of [0, 2] (.cons rfl rfl (.cons rfl rfl .nil)) (.cons (.same rfl rfl) (.cons (.same rfl rfl) (.nil _))) rfl) (fun k hk => ?_)
    | refine roundEnd (min (2 * k) 8) ?_ ?_ (Weak.of [0, 1] (.cons rfl rfl (.i rfl ?_ .nil)) (.cons (.same rfl rfl) (.cons (.arr rfl ?_) (.nil _))) rfl)
    | refine Ret.is [0, 1] rfl (.cons (.same rfl rfl) (.cons (.arr rfl ?_) (.nil _))) rfl
    | refine VC.mk ?_ ?_
  all_goals try simp only [in64] at *
  all_goals first
    | decide
    | exact .inl rfl
    | exact ⟨Nat.le_refl _, by decide⟩
    | (rcases hk with rfl | rfl | rfl | rfl <;> first | rfl | decide | (exfalso; revert hb; decide) | (simp; done))
    | (subst hk; first | rfl | decide | (exfalso; revert hb; decide) | (simp; done))

theorem repeat_call (n : Int) (h : 1 ≤ n ∧ n ≤ 8) : ACall Try.prog 77 [.slice ⟨0, 0, 0, 1, 0⟩ 1, .int .i64 n] [.arr true .int [-1]] (Is (.slice ⟨1, 0, 0, 1, 0⟩ n.toNat) [.arr true .int [-1], .arr false .int (List.replicate n.toNat (-1))]) := by
  have h : n = 1 ∨ n = 2 ∨ n = 3 ∨ n = 4 ∨ n = 5 ∨ n = 6 ∨ n = 7 ∨ n = 8 := by omega
  rcases h with rfl | rfl | rfl | rfl | rfl | rfl | rfl | rfl
  · exact repeat1_call (-1)
  · exact repeat2_call (-1)
  · exact repeat3_call (-1)
  · exact repeat4_call (-1)
  · exact repeat5_call (-1)
  · exact repeat6_call (-1)
  · exact repeat7_call (-1)
  · exact repeat8_call (-1)

theorem owner_call (l : List Int) (n : Int) (hl : l.length ≤ 1048576) : ACall Try.prog 78 [.slice ⟨0, 0, 0, 1, 0⟩ l.length, .int .i64 n] [.arr true .int l] (Is (.int .i64 (ownI l n)) [.arr true .int l]) := by
  refine ACall.walk T Try.func78 Try.ntmps78 Try.results78 rfl rfl rfl (Is.nv _ _) ?_
  repeat' (conv => whnf); first
    | refine AWP.seq ?_
    | refine AWP.reg T rfl ?_
    | refine AWP.drw T none rfl rfl rfl ?_
    | refine AWP.dep T none rfl rfl rfl rfl ?_
    | refine AWP.block ?_
    | refine AWP.condT rfl ?_
    | refine AWP.condF rfl ?_
    | refine AWP.cond rfl (fun hb => ?_) (fun hb => ?_)
    | refine AWP.ret ?_
    | refine AWP.exit ?_
    | refine AWP.skip ?_
    | refine GuardB.t ?_
    | refine GuardB.f ?_
    | refine GuardB.mk (fun hb => ?_) (fun hb => ?_)
    | refine NilQ.mk (fun hb => ?_) ?_
    | refine VC.mk Nat.zero_lt_one ?_
    | refine VC.mk rfl ?_
    | refine AWP.while (ι := Nat) (fun k => St.of [(1, .int .i64 n), (7, .slice ⟨0, 0, 0, 1, 0⟩ l.length), (8, .int .i64 l.length), (9, .int .i64 k)] [.arr true .int l]) (fun k => NoneTo (fun x => decide (x = n)) l k) (fun k => l.length - k) 0 (NoneTo.zero _ _)
        (Weak.of [0] (.cons rfl rfl (.cons rfl rfl (.cons rfl rfl (.cons rfl rfl .nil)))) (.cons (.same rfl rfl) (.nil _)) rfl) (fun k hk => ?_)
    | refine Ret.int [0] ?_ (.cons (.same rfl rfl) (.nil _)) rfl
    | refine roundEnd (_ + 1) ?_ ?_ (Weak.of [0] (.cons rfl rfl (.cons rfl rfl (.cons rfl rfl (.cons rfl rfl .nil)))) (.cons (.same rfl rfl) (.nil _)) rfl)
    | refine VC.mk ?_ ?_
  all_goals try simp only [decide_eq_true_eq, decide_eq_false_iff_not, Bool.not_eq_true', Bool.not_eq_false', cond_true, cond_false, eqB_true, eqB_false] at *
  all_goals try simp only [in64, idxAdd_zero_left, Int.toNat_natCast, fillTo_length, Int.ofNat_lt, Int.ofNat_le, Int.natCast_inj] at *
  all_goals first
    | omega
    | (have := hk.1; omega)
    | exact idxF_none (fun j hj => hk.2 j hj (by omega))
    | (have h2 : k < l.length := by omega
       simp only [getD_get h2] at *
       first
       | exact hk.next h2 (by simp_all [eq_comm])
       | exact idxF_here h2 (fun j hj => hk.2 j (by omega) hj) (by simp_all [eq_comm]))

theorem owner2_call (l : List Int) (c : Nat) (x : Int) (hl : l.length ≤ 1048576) (hc : l.length = c) : ACall Try.prog 78 [.slice ⟨0, 0, 0, 1, 0⟩ c, .int .i64 x] [.arr true .int l] (Is (.int .i64 (ownI l x)) [.arr true .int l]) := by
  subst hc
  exact owner_call l x hl

theorem slicesIndex2_call (l : List Int) (c : Nat) (x : Int) (hl : l.length ≤ 1048576) (hc : l.length = c) : ACall Try.prog 73 [.slice ⟨0, 0, 0, 1, 0⟩ c, .int .i64 x] [.arr true .int l] (Is (.int .i64 (ownI l x)) [.arr true .int l]) := by
  subst hc
  exact slicesIndex_call l x hl

theorem try_callStep (n m : Int) (ll : List (List Int)) (hr : SmallR ll) (hg : goodP n m ll = true) (c : Nat) (hc : c = ll.length) (f : Nat) (ih : ∀ (x : Int) (mt aa : List Int), 0 ≤ x ∧ x < ll.length → mt.length = c → AsOk m aa → 9 ≤ f + aa.length →  ACall Try.prog 75 [.agg [.int .i64 n, .int .i64 m, .slice ⟨0, 0, 0, 1, 0⟩ ll.length], .slice ⟨1, 0, 0, 1, 0⟩ c, .int .i64 x, .slice ⟨2, 0, 0, 1, 0⟩ m.toNat] [.rows true ll, .arr false .int mt, .arr false .bool (maskL m.toNat aa)] (Is (.bool (askR ll f x.toNat mt aa).1) [.rows true ll, .arr false .int (askR ll f x.toNat mt aa).2.1, .arr false .bool (maskL m.toNat (askR ll f x.toNat mt aa).2.2)])) (x : Int) (mt aa : List Int) (hx : 0 ≤ x ∧ x < ll.length) (hlen : mt.length = c) (hok : AsOk m aa) (hf : 9 ≤ (f + 1) + aa.length) : ACall Try.prog 75 [.agg [.int .i64 n, .int .i64 m, .slice ⟨0, 0, 0, 1, 0⟩ ll.length], .slice ⟨1, 0, 0, 1, 0⟩ c, .int .i64 x, .slice ⟨2, 0, 0, 1, 0⟩ m.toNat] [.rows true ll, .arr false .int mt, .arr false .bool (maskL m.toNat aa)] (Is (.bool (askR ll (f + 1) x.toNat mt aa).1) [.rows true ll, .arr false .int (askR ll (f + 1) x.toNat mt aa).2.1, .arr false .bool (maskL m.toNat (askR ll (f + 1) x.toNat mt aa).2.2)]) := by
  refine ACall.walk T Try.func75 Try.ntmps75 Try.results75 rfl rfl rfl (Is.nv _ _) ?_
  repeat' (conv => whnf); first
    | refine AWP.seq ?_
    | refine AWP.reg T rfl ?_
    | refine AWP.drw T none rfl rfl rfl ?_
    | refine AWP.dep T none rfl rfl rfl rfl ?_
    | refine AWP.block ?_
    | refine AWP.condT rfl ?_
    | refine AWP.condF rfl ?_
    | refine AWP.cond rfl (fun hb => ?_) (fun hb => ?_)
    | refine AWP.ret ?_
    | refine AWP.exit ?_
    | refine AWP.skip ?_
    | refine GuardB.t ?_
    | refine GuardB.f ?_
    | refine GuardB.mk (fun hb => ?_) (fun hb => ?_)
    | refine NilQ.mk (fun hb => ?_) ?_
    | refine VC.mk Nat.zero_lt_one ?_
    | refine VC.mk rfl ?_
    | refine AWP.while (ι := Nat) (fun k => St.of [(1, .slice ⟨1, 0, 0, 1, 0⟩ c), (2, .int .i64 x), (3, .slice ⟨2, 0, 0, 1, 0⟩ m.toNat), (4, .ptr ⟨3, 0, 0, 3, 0⟩), (16, .slice ⟨0, x.toNat + 1, 0, 1, 0⟩ (ll.getD x.toNat []).length), (17, .int .i64 (ll.getD x.toNat []).length), (18, .int .i64 k)] [.rows true ll, .arr false .int (askN ll f x.toNat mt aa k).2.1, .arr false .bool (maskL m.toNat (askN ll f x.toNat mt aa k).2.2), .arr false (.raw 3) [[.int .i64 n, .int .i64 m, .slice ⟨0, 0, 0, 1, 0⟩ ll.length]]]) (fun k => k ≤ (ll.getD x.toNat []).length ∧ (askN ll f x.toNat mt aa k).1 = false) (fun k => (ll.getD x.toNat []).length - k) 0 ?_
        (Weak.of [0, 1, 2, 3] (.cons rfl rfl (.cons rfl rfl (.cons rfl rfl (.cons rfl rfl (.cons rfl rfl (.cons rfl rfl (.cons rfl rfl .nil))))))) (.cons (.same rfl rfl) (.cons (.arr rfl ?_) (.cons (.arr rfl ?_) (.cons (.same rfl rfl) (.nil _))))) rfl) (fun k hk => ?_)
    | refine ACall.useIs [1] (owner2_call _ _ _ ?_ ?_) rfl (.cons (.ro rfl rfl) (.nil _)) rfl ?_
    | refine ACall.useIs [0, 1, 2] (ih _ (askN ll f x.toNat mt aa k).2.1 ((ll.getD x.toNat []).getD k 0 :: (askN ll f x.toNat mt aa k).2.2) ?_ ?_ ?_ ?_) rfl (.cons (.same rfl rfl) (.cons (.same rfl rfl) (.cons (.arr rfl ?_) (.nil _)))) rfl ?_
    | refine Ret.bool [0, 1, 2] ?_ (.cons (.same rfl rfl) (.cons (.arr rfl ?_) (.cons (.arr rfl ?_) (.nil _)))) rfl
    | refine roundEnd (k + 1) ?_ ?_ (Weak.of [0, 1, 2, 3] (.cons rfl rfl (.cons rfl rfl (.cons rfl rfl (.cons rfl rfl (.cons rfl rfl (.cons rfl rfl (.cons rfl rfl .nil))))))) (.cons (.same rfl rfl) (.cons (.arr rfl ?_) (.cons (.arr rfl ?_) (.cons (.same rfl rfl) (.nil _))))) rfl)
    | refine VC.mk ?_ ?_
  all_goals try simp only [decide_eq_true_eq, decide_eq_false_iff_not, Bool.not_eq_true', Bool.not_eq_false', cond_true, cond_false, eqB_true, eqB_false] at *
  all_goals try simp only [in64, idxAdd_zero_left, Int.toNat_natCast, fillTo_length, Int.ofNat_lt, Int.ofNat_le, Int.natCast_inj] at *
  all_goals try have hw := goodP_wish hg
  all_goals try have hgl := goodP_len hg
  all_goals try have hrow := hr.row x.toNat
  all_goals try
    have hI := askN_inv hw f x.toNat mt aa hok k hk.1
    have hA8 := hI.ok.len (by omega)
    have hIl := hI.len
    have hIg := hI.grow
  all_goals try
    have hk2 : k < (ll.getD x.toNat []).length := by omega
    have hrr := hw x.toNat k hk2
    have hma := maskL_at (n := m.toNat) hrr.1 (by omega) (askN ll f x.toNat mt aa k).2.2
    have hms := maskL_set (n := m.toNat) hrr.1 (by omega) (askN ll f x.toNat mt aa k).2.2
    have hol : -1 ≤ ownI (askN ll f x.toNat mt aa k).2.1 ((ll.getD x.toNat []).getD k 0) ∧ ownI (askN ll f x.toNat mt aa k).2.1 ((ll.getD x.toNat []).getD k 0) < (askN ll f x.toNat mt aa k).2.1.length := idxF_lt _ _
    simp only [hma] at *
  all_goals try simp only [maskL_length] at *
  all_goals first
    | omega
    | exact hrow
    | exact ⟨Nat.zero_le _, rfl⟩
    | exact ⟨Nat.zero_le _, (by rw [askN_zero])⟩
    | (rw [askN_zero]; done)
    | exact hms
    | exact hI.ok.cons hrr (hasB_false.1 (by assumption))
    | (rw [List.length_cons]; omega)
    | exact ⟨by omega, by omega⟩
    | (have t := askR_inv hw f (ownI (askN ll f x.toNat mt aa k).2.1 ((ll.getD x.toNat []).getD k 0)).toNat (askN ll f x.toNat mt aa k).2.1 ((ll.getD x.toNat []).getD k 0 :: (askN ll f x.toNat mt aa k).2.2) (hI.ok.cons hrr (hasB_false.1 (by assumption)))
       have tl := t.len
       omega)
    | (have e := askN_skip hk.2 (by assumption)
       first
       | exact ⟨by omega, by rw [e]; exact hk.2⟩
       | (rw [e]; done))
    | (have e := askN_free hk.2 (by assumption) (by first | assumption | omega)
       have e2 := askN_end (show k + 1 ≤ (ll.getD x.toNat []).length by omega) (by rw [e])
       first
       | (rw [e2, e]; done)
       | (rw [e2, e]; exact hms))
    | (have e := askN_yes hk.2 (by assumption) (by first | assumption | omega) (by assumption)
       have e2 := askN_end (show k + 1 ≤ (ll.getD x.toNat []).length by omega) (by rw [e])
       first
       | (rw [e2, e]; done)
       | (rw [e2, e]; rfl))
    | (have e := askN_no hk.2 (by assumption) (by first | assumption | omega) (by assumption)
       first
       | exact ⟨by omega, by rw [e]; assumption⟩
       | (rw [e]; done)
       | (rw [e]; rfl))
    | (have e : k = (ll.getD x.toNat []).length := by omega
       subst e
       rw [askR_eq]; first | done | exact hk.2.symm)
    | (have e : k = (ll.getD x.toNat []).length := by omega
       rw [askR_eq, ← e]; first | done | exact hk.2.symm)
theorem try_call (n m : Int) (ll : List (List Int)) (hr : SmallR ll) (hg : goodP n m ll = true) (c : Nat) (hc : c = ll.length) : ∀ (f : Nat) (x : Int) (mt aa : List Int), 0 ≤ x ∧ x < ll.length → mt.length = c → AsOk m aa → 9 ≤ f + aa.length →  ACall Try.prog 75 [.agg [.int .i64 n, .int .i64 m, .slice ⟨0, 0, 0, 1, 0⟩ ll.length], .slice ⟨1, 0, 0, 1, 0⟩ c, .int .i64 x, .slice ⟨2, 0, 0, 1, 0⟩ m.toNat] [.rows true ll, .arr false .int mt, .arr false .bool (maskL m.toNat aa)] (Is (.bool (askR ll f x.toNat mt aa).1) [.rows true ll, .arr false .int (askR ll f x.toNat mt aa).2.1, .arr false .bool (maskL m.toNat (askR ll f x.toNat mt aa).2.2)])
  | 0, x, mt, aa, hx, hlen, hok, hf => absurd (hok.len (by have := goodP_len hg; omega)) (by omega)
  | f + 1, x, mt, aa, hx, hlen, hok, hf => try_callStep n m ll hr hg c hc f (try_call n m ll hr hg c hc f) x mt aa hx hlen hok hf

theorem ask_callStep (n m : Int) (ll : List (List Int)) (hr : SmallR ll) (hg : goodP n m ll = true) (c : Nat) (hc : c = ll.length) (f : Nat) (ih : ∀ (x : Int) (mt aa : List Int), 0 ≤ x ∧ x < ll.length → mt.length = c → AsOk m aa → 9 ≤ f + aa.length →  ACall Try.prog 76 [.int .i64 x, .ptr ⟨1, 0, 0, 3, 0⟩, .ptr ⟨2, 0, 0, 1, 0⟩, .ptr ⟨3, 0, 0, 1, 0⟩, .ptr ⟨5, 0, 0, 1, 0⟩] [.rows true ll, .arr true (.raw 3) [[.int .i64 n, .int .i64 m, .slice ⟨0, 0, 0, 1, 0⟩ ll.length]], .arr false .bool (maskL 8 aa), .arr true (.raw 1) [[.slice ⟨4, 0, 0, 1, 0⟩ c]], .arr false .int mt, .arr true (.raw 1) [[.func 76 [.ptr ⟨1, 0, 0, 3, 0⟩, .ptr ⟨2, 0, 0, 1, 0⟩, .ptr ⟨3, 0, 0, 1, 0⟩, .ptr ⟨5, 0, 0, 1, 0⟩]]]] (Is (.bool (askR ll f x.toNat mt aa).1) [.rows true ll, .arr true (.raw 3) [[.int .i64 n, .int .i64 m, .slice ⟨0, 0, 0, 1, 0⟩ ll.length]], .arr false .bool (maskL 8 (askR ll f x.toNat mt aa).2.2), .arr true (.raw 1) [[.slice ⟨4, 0, 0, 1, 0⟩ c]], .arr false .int (askR ll f x.toNat mt aa).2.1, .arr true (.raw 1) [[.func 76 [.ptr ⟨1, 0, 0, 3, 0⟩, .ptr ⟨2, 0, 0, 1, 0⟩, .ptr ⟨3, 0, 0, 1, 0⟩, .ptr ⟨5, 0, 0, 1, 0⟩]]]])) (x : Int) (mt aa : List Int) (hx : 0 ≤ x ∧ x < ll.length) (hlen : mt.length = c) (hok : AsOk m aa) (hf : 9 ≤ (f + 1) + aa.length) : ACall Try.prog 76 [.int .i64 x, .ptr ⟨1, 0, 0, 3, 0⟩, .ptr ⟨2, 0, 0, 1, 0⟩, .ptr ⟨3, 0, 0, 1, 0⟩, .ptr ⟨5, 0, 0, 1, 0⟩] [.rows true ll, .arr true (.raw 3) [[.int .i64 n, .int .i64 m, .slice ⟨0, 0, 0, 1, 0⟩ ll.length]], .arr false .bool (maskL 8 aa), .arr true (.raw 1) [[.slice ⟨4, 0, 0, 1, 0⟩ c]], .arr false .int mt, .arr true (.raw 1) [[.func 76 [.ptr ⟨1, 0, 0, 3, 0⟩, .ptr ⟨2, 0, 0, 1, 0⟩, .ptr ⟨3, 0, 0, 1, 0⟩, .ptr ⟨5, 0, 0, 1, 0⟩]]]] (Is (.bool (askR ll (f + 1) x.toNat mt aa).1) [.rows true ll, .arr true (.raw 3) [[.int .i64 n, .int .i64 m, .slice ⟨0, 0, 0, 1, 0⟩ ll.length]], .arr false .bool (maskL 8 (askR ll (f + 1) x.toNat mt aa).2.2), .arr true (.raw 1) [[.slice ⟨4, 0, 0, 1, 0⟩ c]], .arr false .int (askR ll (f + 1) x.toNat mt aa).2.1, .arr true (.raw 1) [[.func 76 [.ptr ⟨1, 0, 0, 3, 0⟩, .ptr ⟨2, 0, 0, 1, 0⟩, .ptr ⟨3, 0, 0, 1, 0⟩, .ptr ⟨5, 0, 0, 1, 0⟩]]]]) := by
  refine ACall.walk T Try.func76 Try.ntmps76 Try.results76 rfl rfl rfl (Is.nv _ _) ?_
  repeat' (conv => whnf); first
    | refine AWP.seq ?_
    | refine AWP.reg T rfl ?_
    | refine AWP.drw T none rfl rfl rfl ?_
    | refine AWP.dep T none rfl rfl rfl rfl ?_
    | refine AWP.block ?_
    | refine AWP.condT rfl ?_
    | refine AWP.condF rfl ?_
    | refine AWP.cond rfl (fun hb => ?_) (fun hb => ?_)
    | refine AWP.ret ?_
    | refine AWP.exit ?_
    | refine AWP.skip ?_
    | refine GuardB.t ?_
    | refine GuardB.f ?_
    | refine GuardB.mk (fun hb => ?_) (fun hb => ?_)
    | refine NilQ.mk (fun hb => ?_) ?_
    | refine VC.mk Nat.zero_lt_one ?_
    | refine VC.mk rfl ?_
    | refine AWP.while (ι := Nat) (fun k => St.of [(0, .int .i64 x), (1, .ptr ⟨1, 0, 0, 3, 0⟩), (2, .ptr ⟨2, 0, 0, 1, 0⟩), (3, .ptr ⟨3, 0, 0, 1, 0⟩), (4, .ptr ⟨5, 0, 0, 1, 0⟩), (14, .slice ⟨0, x.toNat + 1, 0, 1, 0⟩ (ll.getD x.toNat []).length), (15, .int .i64 (ll.getD x.toNat []).length), (16, .int .i64 k)] [.rows true ll, .arr true (.raw 3) [[.int .i64 n, .int .i64 m, .slice ⟨0, 0, 0, 1, 0⟩ ll.length]], .arr false .bool (maskL 8 (askN ll f x.toNat mt aa k).2.2), .arr true (.raw 1) [[.slice ⟨4, 0, 0, 1, 0⟩ c]], .arr false .int (askN ll f x.toNat mt aa k).2.1, .arr true (.raw 1) [[.func 76 [.ptr ⟨1, 0, 0, 3, 0⟩, .ptr ⟨2, 0, 0, 1, 0⟩, .ptr ⟨3, 0, 0, 1, 0⟩, .ptr ⟨5, 0, 0, 1, 0⟩]]]]) (fun k => k ≤ (ll.getD x.toNat []).length ∧ (askN ll f x.toNat mt aa k).1 = false) (fun k => (ll.getD x.toNat []).length - k) 0 ?_
        (Weak.of [0, 1, 2, 3, 4, 5] (.cons rfl rfl (.cons rfl rfl (.cons rfl rfl (.cons rfl rfl (.cons rfl rfl (.cons rfl rfl (.cons rfl rfl (.cons rfl rfl .nil)))))))) (.cons (.same rfl rfl) (.cons (.same rfl rfl) (.cons (.arr rfl ?_) (.cons (.same rfl rfl) (.cons (.arr rfl ?_) (.cons (.same rfl rfl) (.nil _))))))) rfl) (fun k hk => ?_)
    | refine ACall.useIs [4] (slicesIndex2_call _ _ _ ?_ ?_) rfl (.cons (.ro rfl rfl) (.nil _)) rfl ?_
    | refine ACall.useIs [0, 1, 2, 3, 4, 5] (ih _ (askN ll f x.toNat mt aa k).2.1 ((ll.getD x.toNat []).getD k 0 :: (askN ll f x.toNat mt aa k).2.2) ?_ ?_ ?_ ?_) rfl (.cons (.same rfl rfl) (.cons (.same rfl rfl) (.cons (.arr rfl ?_) (.cons (.same rfl rfl) (.cons (.same rfl rfl) (.cons (.same rfl rfl) (.nil _))))))) rfl ?_
    | refine Ret.bool [0, 1, 2, 3, 4, 5] ?_ (.cons (.same rfl rfl) (.cons (.same rfl rfl) (.cons (.arr rfl ?_) (.cons (.same rfl rfl) (.cons (.arr rfl ?_) (.cons (.same rfl rfl) (.nil _))))))) rfl
    | refine roundEnd (k + 1) ?_ ?_ (Weak.of [0, 1, 2, 3, 4, 5] (.cons rfl rfl (.cons rfl rfl (.cons rfl rfl (.cons rfl rfl (.cons rfl rfl (.cons rfl rfl (.cons rfl rfl (.cons rfl rfl .nil)))))))) (.cons (.same rfl rfl) (.cons (.same rfl rfl) (.cons (.arr rfl ?_) (.cons (.same rfl rfl) (.cons (.arr rfl ?_) (.cons (.same rfl rfl) (.nil _))))))) rfl)
    | refine VC.mk ?_ ?_
  all_goals try simp only [decide_eq_true_eq, decide_eq_false_iff_not, Bool.not_eq_true', Bool.not_eq_false', cond_true, cond_false, eqB_true, eqB_false] at *
  all_goals try simp only [in64, idxAdd_zero_left, Int.toNat_natCast, fillTo_length, Int.ofNat_lt, Int.ofNat_le, Int.natCast_inj] at *
  all_goals try have hw := goodP_wish hg
  all_goals try have hgl := goodP_len hg
  all_goals try have hrow := hr.row x.toNat
  all_goals try
    have hI := askN_inv hw f x.toNat mt aa hok k hk.1
    have hA8 := hI.ok.len (by omega)
    have hIl := hI.len
    have hIg := hI.grow
  all_goals try
    have hk2 : k < (ll.getD x.toNat []).length := by omega
    have hrr := hw x.toNat k hk2
    have hma := maskL_at (n := 8) hrr.1 (by omega) (askN ll f x.toNat mt aa k).2.2
    have hms := maskL_set (n := 8) hrr.1 (by omega) (askN ll f x.toNat mt aa k).2.2
    have hol : -1 ≤ ownI (askN ll f x.toNat mt aa k).2.1 ((ll.getD x.toNat []).getD k 0) ∧ ownI (askN ll f x.toNat mt aa k).2.1 ((ll.getD x.toNat []).getD k 0) < (askN ll f x.toNat mt aa k).2.1.length := idxF_lt _ _
    simp only [hma] at *
  all_goals try simp only [maskL_length] at *
  all_goals first
    | omega
    | exact hrow
    | exact ⟨Nat.zero_le _, rfl⟩
    | exact ⟨Nat.zero_le _, (by rw [askN_zero])⟩
    | (rw [askN_zero]; done)
    | exact hms
    | exact hI.ok.cons hrr (hasB_false.1 (by assumption))
    | (rw [List.length_cons]; omega)
    | exact ⟨by omega, by omega⟩
    | (have t := askR_inv hw f (ownI (askN ll f x.toNat mt aa k).2.1 ((ll.getD x.toNat []).getD k 0)).toNat (askN ll f x.toNat mt aa k).2.1 ((ll.getD x.toNat []).getD k 0 :: (askN ll f x.toNat mt aa k).2.2) (hI.ok.cons hrr (hasB_false.1 (by assumption)))
       have tl := t.len
       omega)
    | (have e := askN_skip hk.2 (by assumption)
       first
       | exact ⟨by omega, by rw [e]; exact hk.2⟩
       | (rw [e]; done))
    | (have e := askN_free hk.2 (by assumption) (by first | assumption | omega)
       have e2 := askN_end (show k + 1 ≤ (ll.getD x.toNat []).length by omega) (by rw [e])
       first
       | (rw [e2, e]; done)
       | (rw [e2, e]; exact hms))
    | (have e := askN_yes hk.2 (by assumption) (by first | assumption | omega) (by assumption)
       have e2 := askN_end (show k + 1 ≤ (ll.getD x.toNat []).length by omega) (by rw [e])
       first
       | (rw [e2, e]; done)
       | (rw [e2, e]; rfl))
    | (have e := askN_no hk.2 (by assumption) (by first | assumption | omega) (by assumption)
       first
       | exact ⟨by omega, by rw [e]; assumption⟩
       | (rw [e]; done)
       | (rw [e]; rfl))
    | (have e : k = (ll.getD x.toNat []).length := by omega
       subst e
       rw [askR_eq]; first | done | exact hk.2.symm)
    | (have e : k = (ll.getD x.toNat []).length := by omega
       rw [askR_eq, ← e]; first | done | exact hk.2.symm)
theorem ask_call (n m : Int) (ll : List (List Int)) (hr : SmallR ll) (hg : goodP n m ll = true) (c : Nat) (hc : c = ll.length) : ∀ (f : Nat) (x : Int) (mt aa : List Int), 0 ≤ x ∧ x < ll.length → mt.length = c → AsOk m aa → 9 ≤ f + aa.length →  ACall Try.prog 76 [.int .i64 x, .ptr ⟨1, 0, 0, 3, 0⟩, .ptr ⟨2, 0, 0, 1, 0⟩, .ptr ⟨3, 0, 0, 1, 0⟩, .ptr ⟨5, 0, 0, 1, 0⟩] [.rows true ll, .arr true (.raw 3) [[.int .i64 n, .int .i64 m, .slice ⟨0, 0, 0, 1, 0⟩ ll.length]], .arr false .bool (maskL 8 aa), .arr true (.raw 1) [[.slice ⟨4, 0, 0, 1, 0⟩ c]], .arr false .int mt, .arr true (.raw 1) [[.func 76 [.ptr ⟨1, 0, 0, 3, 0⟩, .ptr ⟨2, 0, 0, 1, 0⟩, .ptr ⟨3, 0, 0, 1, 0⟩, .ptr ⟨5, 0, 0, 1, 0⟩]]]] (Is (.bool (askR ll f x.toNat mt aa).1) [.rows true ll, .arr true (.raw 3) [[.int .i64 n, .int .i64 m, .slice ⟨0, 0, 0, 1, 0⟩ ll.length]], .arr false .bool (maskL 8 (askR ll f x.toNat mt aa).2.2), .arr true (.raw 1) [[.slice ⟨4, 0, 0, 1, 0⟩ c]], .arr false .int (askR ll f x.toNat mt aa).2.1, .arr true (.raw 1) [[.func 76 [.ptr ⟨1, 0, 0, 3, 0⟩, .ptr ⟨2, 0, 0, 1, 0⟩, .ptr ⟨3, 0, 0, 1, 0⟩, .ptr ⟨5, 0, 0, 1, 0⟩]]]])
  | 0, x, mt, aa, hx, hlen, hok, hf => absurd (hok.len (by have := goodP_len hg; omega)) (by omega)
  | f + 1, x, mt, aa, hx, hlen, hok, hf => ask_callStep n m ll hr hg c hc f (ask_call n m ll hr hg c hc f) x mt aa hx hlen hok hf

end YtofjbgpaofcpjaaAM
