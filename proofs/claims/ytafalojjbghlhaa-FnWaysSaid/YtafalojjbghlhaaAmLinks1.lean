/- Contracts of functions of this seat. -/
import Derived.Test.YtafalojjbghlhaaAmTabLinks
import Derived.Test.YtafalojjbghlhaaAmModels
set_option linter.unusedVariables false
set_option linter.unusedSimpArgs false
set_option maxRecDepth 100000
namespace YtafalojjbghlhaaAM
open Go Go.Proofs

theorem within_call (n lo hi : Int) : ACall Try.prog 81 [.int .i64 n, .int .i64 lo, .int .i64 hi] [] (Is (.bool (btw lo hi n)) []) := by
  refine ACall.walk T Try.func81 Try.ntmps81 Try.results81 rfl rfl rfl (Is.nv _ _) ?_
  repeat' (conv => whnf); first
    | refine AWP.seq ?_
    | refine AWP.reg T rfl ?_
    | refine AWP.drw T none rfl rfl rfl ?_
    | refine AWP.dep T none rfl rfl rfl rfl ?_
    | refine AWP.block ?_
    | refine AWP.condT rfl ?_
    | refine AWP.condF rfl ?_
    | refine AWP.cond rfl (fun hb => ?_) (fun hb => ?_)
    | refine AWP.ret ?_
    | refine AWP.exit ?_
    | refine AWP.skip ?_
    | refine GuardB.t ?_
    | refine GuardB.f ?_
    | refine GuardB.mk (fun hb => ?_) (fun hb => ?_)
    | refine NilQ.mk (fun hb => ?_) ?_
    | refine VC.mk Nat.zero_lt_one ?_
    | refine VC.mk rfl ?_
    | refine Ret.bool [] ?_ (.nil _) rfl
    | refine VC.mk ?_ ?_
  all_goals simp [btw, hb]
theorem l1In_call (n lo hi : Int) : ACall Try.prog 115 [.int .i64 n, .int .i64 lo, .int .i64 hi] [] (Is (.bool (btw lo hi n)) []) := by
  refine ACall.walk T Try.func115 Try.ntmps115 Try.results115 rfl rfl rfl (Is.nv _ _) ?_
  repeat' (conv => whnf); first
    | refine AWP.seq ?_
    | refine AWP.reg T rfl ?_
    | refine AWP.drw T none rfl rfl rfl ?_
    | refine AWP.dep T none rfl rfl rfl rfl ?_
    | refine AWP.block ?_
    | refine AWP.condT rfl ?_
    | refine AWP.condF rfl ?_
    | refine AWP.cond rfl (fun hb => ?_) (fun hb => ?_)
    | refine AWP.ret ?_
    | refine AWP.exit ?_
    | refine AWP.skip ?_
    | refine GuardB.t ?_
    | refine GuardB.f ?_
    | refine GuardB.mk (fun hb => ?_) (fun hb => ?_)
    | refine NilQ.mk (fun hb => ?_) ?_
    | refine VC.mk Nat.zero_lt_one ?_
    | refine VC.mk rfl ?_
    | refine Ret.bool [] ?_ (.nil _) rfl
    | refine VC.mk ?_ ?_
  all_goals simp [btw, hb]
theorem isNode_call (n : Int) : ACall Try.prog 70 [.int .i64 n] [] (Is (.bool (btw 0 7 n)) []) := by
  refine ACall.walk T Try.func70 Try.ntmps70 Try.results70 rfl rfl rfl (Is.nv _ _) ?_
  repeat' (conv => whnf); first
    | refine AWP.seq ?_
    | refine AWP.reg T rfl ?_
    | refine AWP.drw T none rfl rfl rfl ?_
    | refine AWP.dep T none rfl rfl rfl rfl ?_
    | refine AWP.block ?_
    | refine AWP.condT rfl ?_
    | refine AWP.condF rfl ?_
    | refine AWP.cond rfl (fun hb => ?_) (fun hb => ?_)
    | refine AWP.ret ?_
    | refine AWP.exit ?_
    | refine AWP.skip ?_
    | refine GuardB.t ?_
    | refine GuardB.f ?_
    | refine GuardB.mk (fun hb => ?_) (fun hb => ?_)
    | refine NilQ.mk (fun hb => ?_) ?_
    | refine VC.mk Nat.zero_lt_one ?_
    | refine VC.mk rfl ?_
    | refine ACall.useIs [] (within_call _ _ _) rfl (.nil _) rfl ?_
    | refine Ret.bool [] ?_ (.nil _) rfl
    | refine VC.mk ?_ ?_
  all_goals rfl
theorem l6Node_call (n : Int) : ACall Try.prog 44 [.int .i64 n] [] (Is (.bool (btw 0 7 n)) []) := by
  refine ACall.walk T Try.func44 Try.ntmps44 Try.results44 rfl rfl rfl (Is.nv _ _) ?_
  repeat' (conv => whnf); first
    | refine AWP.seq ?_
    | refine AWP.reg T rfl ?_
    | refine AWP.drw T none rfl rfl rfl ?_
    | refine AWP.dep T none rfl rfl rfl rfl ?_
    | refine AWP.block ?_
    | refine AWP.condT rfl ?_
    | refine AWP.condF rfl ?_
    | refine AWP.cond rfl (fun hb => ?_) (fun hb => ?_)
    | refine AWP.ret ?_
    | refine AWP.exit ?_
    | refine AWP.skip ?_
    | refine GuardB.t ?_
    | refine GuardB.f ?_
    | refine GuardB.mk (fun hb => ?_) (fun hb => ?_)
    | refine NilQ.mk (fun hb => ?_) ?_
    | refine VC.mk Nat.zero_lt_one ?_
    | refine VC.mk rfl ?_
    | refine Ret.bool [] ?_ (.nil _) rfl
    | refine VC.mk ?_ ?_
  all_goals grind [btw]
theorem areUnlike_call (a b : Int) : ACall Try.prog 48 [.int .i64 a, .int .i64 b] [] (Is (.bool (btw 0 7 a && btw 0 7 b && decide (a ≠ b))) []) := by
  refine ACall.walk T Try.func48 Try.ntmps48 Try.results48 rfl rfl rfl (Is.nv _ _) ?_
  repeat' (conv => whnf); first
    | refine AWP.seq ?_
    | refine AWP.reg T rfl ?_
    | refine AWP.drw T none rfl rfl rfl ?_
    | refine AWP.dep T none rfl rfl rfl rfl ?_
    | refine AWP.block ?_
    | refine AWP.condT rfl ?_
    | refine AWP.condF rfl ?_
    | refine AWP.cond rfl (fun hb => ?_) (fun hb => ?_)
    | refine AWP.ret ?_
    | refine AWP.exit ?_
    | refine AWP.skip ?_
    | refine GuardB.t ?_
    | refine GuardB.f ?_
    | refine GuardB.mk (fun hb => ?_) (fun hb => ?_)
    | refine NilQ.mk (fun hb => ?_) ?_
    | refine VC.mk Nat.zero_lt_one ?_
    | refine VC.mk rfl ?_
    | refine ACall.useIs [] (isNode_call _) rfl (.nil _) rfl ?_
    | refine Ret.bool [] ?_ (.nil _) rfl
    | refine VC.mk ?_ ?_
  all_goals simp_all

theorem szIntS_call (l : List Int) (n : Int) (h1 : l.length ≤ 9223372036854775807) (h2 : 0 ≤ n ∧ n ≤ 1048576) : ACall Try.prog 62 [.slice ⟨0, 0, 0, 1, 0⟩ l.length, .int .i64 n] [.arr true .int l] (Is (.int .i64 (leftOf n l.length)) [.arr true .int l]) := by
  refine ACall.walk T Try.func62 Try.ntmps62 Try.results62 rfl rfl rfl (Is.nv _ _) ?_
  repeat' (conv => whnf); first
    | refine AWP.seq ?_
    | refine AWP.reg T rfl ?_
    | refine AWP.drw T none rfl rfl rfl ?_
    | refine AWP.dep T none rfl rfl rfl rfl ?_
    | refine AWP.block ?_
    | refine AWP.condT rfl ?_
    | refine AWP.condF rfl ?_
    | refine AWP.cond rfl (fun hb => ?_) (fun hb => ?_)
    | refine AWP.ret ?_
    | refine AWP.exit ?_
    | refine AWP.skip ?_
    | refine GuardB.t ?_
    | refine GuardB.f ?_
    | refine GuardB.mk (fun hb => ?_) (fun hb => ?_)
    | refine NilQ.mk (fun hb => ?_) ?_
    | refine VC.mk Nat.zero_lt_one ?_
    | refine VC.mk rfl ?_
    | refine Ret.int [0] ?_ (.cons (.same rfl rfl) (.nil _)) rfl
    | refine VC.mk ?_ ?_
  all_goals try simp only [decide_eq_true_eq, decide_eq_false_iff_not, Bool.not_eq_true', Bool.not_eq_false', cond_true, cond_false, eqB_true, eqB_false] at *
  all_goals try simp only [in64, idxAdd_zero_left, Int.toNat_natCast, fillTo_length, Int.ofNat_lt, Int.ofNat_le, Int.natCast_inj] at *
  · omega
  · rw [leftOf, if_pos (by omega)]
  · rw [leftOf, if_neg (by omega)]
theorem toIntS_call (l : List Int) (hl : l.length ≤ 1048576) : ACall Try.prog 17 [.slice ⟨0, 0, 0, 1, 0⟩ l.length] [.arr true .int l] (Is (.slice ⟨1, 0, 0, 1, 0⟩ l.length) [.arr true .int l, .arr false .int l]) := by
  refine ACall.walk T Try.func17 Try.ntmps17 Try.results17 rfl rfl rfl (Is.nv _ _) ?_
  repeat' (conv => whnf); first
    | refine AWP.seq ?_
    | refine AWP.reg T rfl ?_
    | refine AWP.drw T none rfl rfl rfl ?_
    | refine AWP.dep T none rfl rfl rfl rfl ?_
    | refine AWP.block ?_
    | refine AWP.condT rfl ?_
    | refine AWP.condF rfl ?_
    | refine AWP.cond rfl (fun hb => ?_) (fun hb => ?_)
    | refine AWP.ret ?_
    | refine AWP.exit ?_
    | refine AWP.skip ?_
    | refine GuardB.t ?_
    | refine GuardB.f ?_
    | refine GuardB.mk (fun hb => ?_) (fun hb => ?_)
    | refine NilQ.mk (fun hb => ?_) ?_
    | refine VC.mk Nat.zero_lt_one ?_
    | refine VC.mk rfl ?_
    | refine AWP.while (ι := Nat) (fun k => St.of [(0, .slice ⟨0, 0, 0, 1, 0⟩ l.length), (3, .slice ⟨2, 0, 0, 1, 0⟩ l.length), (4, .int .i64 k)] [.arr true .int l, .dead, .arr false .int (fillTo l k 0)]) (fun k => k ≤ l.length) (fun k => l.length - k) 0 (Nat.zero_le _)
        (Weak.of [0, 1, 2] (.cons rfl rfl (.cons rfl rfl (.cons rfl rfl .nil))) (.cons (.same rfl rfl) (.cons (.dead _) (.cons (.same rfl rfl) (.nil _)))) rfl) (fun k hk => ?_)
    | refine Ret.is [0, 2] rfl (.cons (.same rfl rfl) (.cons (.arr rfl ?_) (.nil _))) rfl
    | refine roundEnd (_ + 1) ?_ ?_ (Weak.of [0, 1, 2] (.cons rfl rfl (.cons rfl rfl (.cons rfl rfl .nil))) (.cons (.same rfl rfl) (.cons (.dead _) (.cons (.arr rfl ?_) (.nil _)))) rfl)
    | refine VC.mk ?_ ?_
  all_goals try simp only [decide_eq_true_eq, decide_eq_false_iff_not, Bool.not_eq_true', Bool.not_eq_false', cond_true, cond_false, eqB_true, eqB_false] at *
  all_goals try simp only [in64, idxAdd_zero_left, Int.toNat_natCast, fillTo_length, Int.ofNat_lt, Int.ofNat_le, Int.natCast_inj] at *
  all_goals first
    | omega
    | exact (fillTo_all l _ (by omega)).symm
    | exact fillTo_set l _ (by omega) (getD_get (by omega))
theorem eqIntS_call (a b : List Int) (ha : a.length ≤ 1048576) : ACall Try.prog 19 [.slice ⟨0, 0, 0, 1, 0⟩ a.length, .slice ⟨1, 0, 0, 1, 0⟩ b.length] [.arr true .int a, .arr true .int b] (Is (.bool (eqB a b)) [.arr true .int a, .arr true .int b]) := by
  refine ACall.walk T Try.func19 Try.ntmps19 Try.results19 rfl rfl rfl (Is.nv _ _) ?_
  repeat' (conv => whnf); first
    | refine AWP.seq ?_
    | refine AWP.reg T rfl ?_
    | refine AWP.drw T none rfl rfl rfl ?_
    | refine AWP.dep T none rfl rfl rfl rfl ?_
    | refine AWP.block ?_
    | refine AWP.condT rfl ?_
    | refine AWP.condF rfl ?_
    | refine AWP.cond rfl (fun hb => ?_) (fun hb => ?_)
    | refine AWP.ret ?_
    | refine AWP.exit ?_
    | refine AWP.skip ?_
    | refine GuardB.t ?_
    | refine GuardB.f ?_
    | refine GuardB.mk (fun hb => ?_) (fun hb => ?_)
    | refine NilQ.mk (fun hb => ?_) ?_
    | refine VC.mk Nat.zero_lt_one ?_
    | refine VC.mk rfl ?_
    | refine AWP.while (ι := Nat) (fun k => St.of [(0, .slice ⟨0, 0, 0, 1, 0⟩ a.length), (1, .slice ⟨1, 0, 0, 1, 0⟩ b.length), (5, .int .i64 k)] [.arr true .int a, .arr true .int b]) (fun k => Same a b k) (fun k => a.length - k) 0 ?_
        (Weak.of [0, 1] (.cons rfl rfl (.cons rfl rfl (.cons rfl rfl .nil))) (.cons (.same rfl rfl) (.cons (.same rfl rfl) (.nil _))) rfl) (fun k hk => ?_)
    | refine Ret.bool [0, 1] ?_ (.cons (.same rfl rfl) (.cons (.same rfl rfl) (.nil _))) rfl
    | refine roundEnd (_ + 1) ?_ ?_ (Weak.of [0, 1] (.cons rfl rfl (.cons rfl rfl (.cons rfl rfl .nil))) (.cons (.same rfl rfl) (.cons (.same rfl rfl) (.nil _))) rfl)
    | refine VC.mk ?_ ?_
  all_goals try simp only [decide_eq_true_eq, decide_eq_false_iff_not, Bool.not_eq_true', Bool.not_eq_false', cond_true, cond_false, eqB_true, eqB_false] at *
  all_goals try simp only [in64, idxAdd_zero_left, Int.toNat_natCast, fillTo_length, Int.ofNat_lt, Int.ofNat_le, Int.natCast_inj] at *
  all_goals first
    | omega
    | (have := hk.1; have := hk.2.1; omega)
    | exact Same.zero (by omega)
    | (rw [eq_comm, eqB_false]; intro e; subst e; omega)
    | (rw [eq_comm, eqB_true]; exact hk.eq (by omega))
    | (have h1 := hk.1; have h2 : k < a.length := by omega
       have h3 : k < b.length := by omega
       simp only [getD_get h2, getD_get h3] at *
       first
       | exact hk.next h2 h3 (by assumption)
       | (rw [eq_comm, eqB_false]; intro e; subst e; simp_all))
theorem sameInts_call (a b : List Int) (ha : a.length ≤ 1048576) : ACall Try.prog 38 [.slice ⟨0, 0, 0, 1, 0⟩ a.length, .slice ⟨1, 0, 0, 1, 0⟩ b.length] [.arr true .int a, .arr true .int b] (Is (.bool (eqB a b)) [.arr true .int a, .arr true .int b]) := by
  refine ACall.walk T Try.func38 Try.ntmps38 Try.results38 rfl rfl rfl (Is.nv _ _) ?_
  repeat' (conv => whnf); first
    | refine AWP.seq ?_
    | refine AWP.reg T rfl ?_
    | refine AWP.drw T none rfl rfl rfl ?_
    | refine AWP.dep T none rfl rfl rfl rfl ?_
    | refine AWP.block ?_
    | refine AWP.condT rfl ?_
    | refine AWP.condF rfl ?_
    | refine AWP.cond rfl (fun hb => ?_) (fun hb => ?_)
    | refine AWP.ret ?_
    | refine AWP.exit ?_
    | refine AWP.skip ?_
    | refine GuardB.t ?_
    | refine GuardB.f ?_
    | refine GuardB.mk (fun hb => ?_) (fun hb => ?_)
    | refine NilQ.mk (fun hb => ?_) ?_
    | refine VC.mk Nat.zero_lt_one ?_
    | refine VC.mk rfl ?_
    | refine AWP.while (ι := Nat) (fun k => St.of [(0, .slice ⟨0, 0, 0, 1, 0⟩ a.length), (1, .slice ⟨1, 0, 0, 1, 0⟩ b.length), (12, .int .i64 a.length), (13, .int .i64 k)] [.arr true .int a, .arr true .int b]) (fun k => Same a b k) (fun k => a.length - k) 0 ?_
        (Weak.of [0, 1] (.cons rfl rfl (.cons rfl rfl (.cons rfl rfl (.cons rfl rfl .nil)))) (.cons (.same rfl rfl) (.cons (.same rfl rfl) (.nil _))) rfl) (fun k hk => ?_)
    | refine Ret.bool [0, 1] ?_ (.cons (.same rfl rfl) (.cons (.same rfl rfl) (.nil _))) rfl
    | refine roundEnd (_ + 1) ?_ ?_ (Weak.of [0, 1] (.cons rfl rfl (.cons rfl rfl (.cons rfl rfl (.cons rfl rfl .nil)))) (.cons (.same rfl rfl) (.cons (.same rfl rfl) (.nil _))) rfl)
    | refine VC.mk ?_ ?_
  all_goals try simp only [decide_eq_true_eq, decide_eq_false_iff_not, Bool.not_eq_true', Bool.not_eq_false', cond_true, cond_false, eqB_true, eqB_false] at *
  all_goals try simp only [in64, idxAdd_zero_left, Int.toNat_natCast, fillTo_length, Int.ofNat_lt, Int.ofNat_le, Int.natCast_inj] at *
  all_goals first
    | omega
    | (have := hk.1; have := hk.2.1; omega)
    | exact Same.zero (by omega)
    | (rw [eq_comm, eqB_false]; intro e; subst e; omega)
    | (rw [eq_comm, eqB_true]; exact hk.eq (by omega))
    | (have h1 := hk.1; have h2 : k < a.length := by omega
       have h3 : k < b.length := by omega
       simp only [getD_get h2, getD_get h3] at *
       first
       | exact hk.next h2 h3 (by assumption)
       | (rw [eq_comm, eqB_false]; intro e; subst e; simp_all))
theorem l1Has_call (l : List Int) (n : Int) (hl : l.length ≤ 1048576) : ACall Try.prog 51 [.slice ⟨0, 0, 0, 1, 0⟩ l.length, .int .i64 n] [.arr true .int l] (Is (.bool (hasB l n)) [.arr true .int l]) := by
  refine ACall.walk T Try.func51 Try.ntmps51 Try.results51 rfl rfl rfl (Is.nv _ _) ?_
  repeat' (conv => whnf); first
    | refine AWP.seq ?_
    | refine AWP.reg T rfl ?_
    | refine AWP.drw T none rfl rfl rfl ?_
    | refine AWP.dep T none rfl rfl rfl rfl ?_
    | refine AWP.block ?_
    | refine AWP.condT rfl ?_
    | refine AWP.condF rfl ?_
    | refine AWP.cond rfl (fun hb => ?_) (fun hb => ?_)
    | refine AWP.ret ?_
    | refine AWP.exit ?_
    | refine AWP.skip ?_
    | refine GuardB.t ?_
    | refine GuardB.f ?_
    | refine GuardB.mk (fun hb => ?_) (fun hb => ?_)
    | refine NilQ.mk (fun hb => ?_) ?_
    | refine VC.mk Nat.zero_lt_one ?_
    | refine VC.mk rfl ?_
    | refine AWP.while (ι := Nat) (fun k => St.of [(1, .int .i64 n), (7, .slice ⟨0, 0, 0, 1, 0⟩ l.length), (8, .int .i64 l.length), (9, .int .i64 k)] [.arr true .int l]) (fun k => NoneTo (fun x => decide (x = n)) l k) (fun k => l.length - k) 0 (NoneTo.zero _ _)
        (Weak.of [0] (.cons rfl rfl (.cons rfl rfl (.cons rfl rfl (.cons rfl rfl .nil)))) (.cons (.same rfl rfl) (.nil _)) rfl) (fun k hk => ?_)
    | refine Ret.bool [0] ?_ (.cons (.same rfl rfl) (.nil _)) rfl
    | refine roundEnd (_ + 1) ?_ ?_ (Weak.of [0] (.cons rfl rfl (.cons rfl rfl (.cons rfl rfl (.cons rfl rfl .nil)))) (.cons (.same rfl rfl) (.nil _)) rfl)
    | refine VC.mk ?_ ?_
  all_goals try simp only [decide_eq_true_eq, decide_eq_false_iff_not, Bool.not_eq_true', Bool.not_eq_false', cond_true, cond_false, eqB_true, eqB_false] at *
  all_goals try simp only [in64, idxAdd_zero_left, Int.toNat_natCast, fillTo_length, Int.ofNat_lt, Int.ofNat_le, Int.natCast_inj] at *
  all_goals first
    | omega
    | (have := hk.1; omega)
    | (rw [eq_comm]; exact hk.any (by omega))
    | (have h2 : k < l.length := by omega
       simp only [getD_get h2] at *
       first
       | exact hk.next h2 (by simp_all)
       | (rw [eq_comm]; exact any_here h2 (by simp_all)))
theorem has_call (l : List Int) (n : Int) (hl : l.length ≤ 1048576) : ACall Try.prog 39 [.slice ⟨0, 0, 0, 1, 0⟩ l.length, .int .i64 n] [.arr true .int l] (Is (.bool (hasB l n)) [.arr true .int l]) := by
  refine ACall.walk T Try.func39 Try.ntmps39 Try.results39 rfl rfl rfl (Is.nv _ _) ?_
  repeat' (conv => whnf); first
    | refine AWP.seq ?_
    | refine AWP.reg T rfl ?_
    | refine AWP.drw T none rfl rfl rfl ?_
    | refine AWP.dep T none rfl rfl rfl rfl ?_
    | refine AWP.block ?_
    | refine AWP.condT rfl ?_
    | refine AWP.condF rfl ?_
    | refine AWP.cond rfl (fun hb => ?_) (fun hb => ?_)
    | refine AWP.ret ?_
    | refine AWP.exit ?_
    | refine AWP.skip ?_
    | refine GuardB.t ?_
    | refine GuardB.f ?_
    | refine GuardB.mk (fun hb => ?_) (fun hb => ?_)
    | refine NilQ.mk (fun hb => ?_) ?_
    | refine VC.mk Nat.zero_lt_one ?_
    | refine VC.mk rfl ?_
    | refine AWP.while (ι := Nat) (fun k => St.of [(1, .int .i64 n), (7, .slice ⟨0, 0, 0, 1, 0⟩ l.length), (8, .int .i64 l.length), (9, .int .i64 k)] [.arr true .int l]) (fun k => NoneTo (fun x => decide (x = n)) l k) (fun k => l.length - k) 0 (NoneTo.zero _ _)
        (Weak.of [0] (.cons rfl rfl (.cons rfl rfl (.cons rfl rfl (.cons rfl rfl .nil)))) (.cons (.same rfl rfl) (.nil _)) rfl) (fun k hk => ?_)
    | refine Ret.bool [0] ?_ (.cons (.same rfl rfl) (.nil _)) rfl
    | refine roundEnd (_ + 1) ?_ ?_ (Weak.of [0] (.cons rfl rfl (.cons rfl rfl (.cons rfl rfl (.cons rfl rfl .nil)))) (.cons (.same rfl rfl) (.nil _)) rfl)
    | refine VC.mk ?_ ?_
  all_goals try simp only [decide_eq_true_eq, decide_eq_false_iff_not, Bool.not_eq_true', Bool.not_eq_false', cond_true, cond_false, eqB_true, eqB_false] at *
  all_goals try simp only [in64, idxAdd_zero_left, Int.toNat_natCast, fillTo_length, Int.ofNat_lt, Int.ofNat_le, Int.natCast_inj] at *
  all_goals first
    | omega
    | (have := hk.1; omega)
    | (rw [eq_comm]; exact hk.any (by omega))
    | (have h2 : k < l.length := by omega
       simp only [getD_get h2] at *
       first
       | exact hk.next h2 (by simp_all)
       | (rw [eq_comm]; exact any_here h2 (by simp_all)))
theorem slicesIndex_call (l : List Int) (n : Int) (hl : l.length ≤ 1048576) : ACall Try.prog 82 [.slice ⟨0, 0, 0, 1, 0⟩ l.length, .int .i64 n] [.arr true .int l] (Is (.int .i64 (idxF (fun x => decide (x = n)) l)) [.arr true .int l]) := by
  refine ACall.walk T Try.func82 Try.ntmps82 Try.results82 rfl rfl rfl (Is.nv _ _) ?_
  repeat' (conv => whnf); first
    | refine AWP.seq ?_
    | refine AWP.reg T rfl ?_
    | refine AWP.drw T none rfl rfl rfl ?_
    | refine AWP.dep T none rfl rfl rfl rfl ?_
    | refine AWP.block ?_
    | refine AWP.condT rfl ?_
    | refine AWP.condF rfl ?_
    | refine AWP.cond rfl (fun hb => ?_) (fun hb => ?_)
    | refine AWP.ret ?_
    | refine AWP.exit ?_
    | refine AWP.skip ?_
    | refine GuardB.t ?_
    | refine GuardB.f ?_
    | refine GuardB.mk (fun hb => ?_) (fun hb => ?_)
    | refine NilQ.mk (fun hb => ?_) ?_
    | refine VC.mk Nat.zero_lt_one ?_
    | refine VC.mk rfl ?_
    | refine AWP.while (ι := Nat) (fun k => St.of [(0, .slice ⟨0, 0, 0, 1, 0⟩ l.length), (1, .int .i64 n), (7, .int .i64 l.length), (8, .int .i64 k)] [.arr true .int l]) (fun k => NoneTo (fun x => decide (x = n)) l k) (fun k => l.length - k) 0 (NoneTo.zero _ _)
        (Weak.of [0] (.cons rfl rfl (.cons rfl rfl (.cons rfl rfl (.cons rfl rfl .nil)))) (.cons (.same rfl rfl) (.nil _)) rfl) (fun k hk => ?_)
    | refine Ret.int [0] ?_ (.cons (.same rfl rfl) (.nil _)) rfl
    | refine roundEnd (_ + 1) ?_ ?_ (Weak.of [0] (.cons rfl rfl (.cons rfl rfl (.cons rfl rfl (.cons rfl rfl .nil)))) (.cons (.same rfl rfl) (.nil _)) rfl)
    | refine VC.mk ?_ ?_
  all_goals try simp only [decide_eq_true_eq, decide_eq_false_iff_not, Bool.not_eq_true', Bool.not_eq_false', cond_true, cond_false, eqB_true, eqB_false] at *
  all_goals try simp only [in64, idxAdd_zero_left, Int.toNat_natCast, fillTo_length, Int.ofNat_lt, Int.ofNat_le, Int.natCast_inj] at *
  all_goals first
    | omega
    | (have := hk.1; omega)
    | exact idxF_none (fun j hj => hk.2 j hj (by omega))
    | (have h2 : k < l.length := by omega
       simp only [getD_get h2] at *
       first
       | exact hk.next h2 (by simp_all [eq_comm])
       | exact idxF_here h2 (fun j hj => hk.2 j (by omega) hj) (by simp_all [eq_comm]))
theorem slicesContains_call (l : List Int) (n : Int) (hl : l.length ≤ 1048576) : ACall Try.prog 53 [.slice ⟨0, 0, 0, 1, 0⟩ l.length, .int .i64 n] [.arr true .int l] (Is (.bool (hasB l n)) [.arr true .int l]) := by
  refine ACall.walk T Try.func53 Try.ntmps53 Try.results53 rfl rfl rfl (Is.nv _ _) ?_
  repeat' (conv => whnf); first
    | refine AWP.seq ?_
    | refine AWP.reg T rfl ?_
    | refine AWP.drw T none rfl rfl rfl ?_
    | refine AWP.dep T none rfl rfl rfl rfl ?_
    | refine AWP.block ?_
    | refine AWP.condT rfl ?_
    | refine AWP.condF rfl ?_
    | refine AWP.cond rfl (fun hb => ?_) (fun hb => ?_)
    | refine AWP.ret ?_
    | refine AWP.exit ?_
    | refine AWP.skip ?_
    | refine GuardB.t ?_
    | refine GuardB.f ?_
    | refine GuardB.mk (fun hb => ?_) (fun hb => ?_)
    | refine NilQ.mk (fun hb => ?_) ?_
    | refine VC.mk Nat.zero_lt_one ?_
    | refine VC.mk rfl ?_
    | refine ACall.useIs [0] (slicesIndex_call _ _ ?_) rfl (.cons (.same rfl rfl) (.nil _)) rfl ?_
    | refine Ret.bool [0] ?_ (.cons (.same rfl rfl) (.nil _)) rfl
    | refine VC.mk ?_ ?_
  all_goals first | exact idxF_any _ _ | exact hl
theorem l1Some_call (l : List Int) (n : Int) (hl : l.length ≤ 1048576) : ACall Try.prog 68 [.slice ⟨0, 0, 0, 1, 0⟩ l.length, .int .i64 n] [.arr true .int l] (Is (.bool (someB l n)) [.arr true .int l]) := by
  refine ACall.walk T Try.func68 Try.ntmps68 Try.results68 rfl rfl rfl (Is.nv _ _) ?_
  repeat' (conv => whnf); first
    | refine AWP.seq ?_
    | refine AWP.reg T rfl ?_
    | refine AWP.drw T none rfl rfl rfl ?_
    | refine AWP.dep T none rfl rfl rfl rfl ?_
    | refine AWP.block ?_
    | refine AWP.condT rfl ?_
    | refine AWP.condF rfl ?_
    | refine AWP.cond rfl (fun hb => ?_) (fun hb => ?_)
    | refine AWP.ret ?_
    | refine AWP.exit ?_
    | refine AWP.skip ?_
    | refine GuardB.t ?_
    | refine GuardB.f ?_
    | refine GuardB.mk (fun hb => ?_) (fun hb => ?_)
    | refine NilQ.mk (fun hb => ?_) ?_
    | refine VC.mk Nat.zero_lt_one ?_
    | refine VC.mk rfl ?_
    | refine AWP.while (ι := Nat) (fun k => St.of [(0, .slice ⟨0, 0, 0, 1, 0⟩ l.length), (1, .int .i64 n), (7, .slice ⟨0, 0, 0, 1, 0⟩ l.length), (8, .int .i64 l.length), (9, .int .i64 k)] [.arr true .int l]) (fun k => AllTo (someOk l n) l.length k) (fun k => l.length - k) 0 (AllTo.zero _ _)
        (Weak.of [0] (.cons rfl rfl (.cons rfl rfl (.cons rfl rfl (.cons rfl rfl (.cons rfl rfl .nil))))) (.cons (.same rfl rfl) (.nil _)) rfl) (fun k hk => ?_)
    | refine Ret.bool [0] ?_ (.cons (.same rfl rfl) (.nil _)) rfl
    | refine roundEnd (_ + 1) ?_ ?_ (Weak.of [0] (.cons rfl rfl (.cons rfl rfl (.cons rfl rfl (.cons rfl rfl (.cons rfl rfl .nil))))) (.cons (.same rfl rfl) (.nil _)) rfl)
    | refine VC.mk ?_ ?_
  all_goals try simp only [decide_eq_true_eq, decide_eq_false_iff_not, Bool.not_eq_true', Bool.not_eq_false', cond_true, cond_false, eqB_true, eqB_false] at *
  all_goals try simp only [in64, idxAdd_zero_left, Int.toNat_natCast, fillTo_length, Int.ofNat_lt, Int.ofNat_le, Int.natCast_inj] at *
  all_goals first
    | omega
    | (have := hk.1; omega)
    | (rw [eq_comm]; exact hk.all (by omega))
    | (have h2 : k < l.length := by omega
       have e1 : ((k : Int) - 1).toNat = k - 1 := by omega
       rw [eq_comm]; refine not_all h2 ?_
       grind [someOk])
    | (have h2 : k < l.length := by omega
       have e1 : ((k : Int) - 1).toNat = k - 1 := by omega
       refine hk.next h2 ?_
       grind [someOk])
theorem rise_call (l : List Int) (n : Int) (hl : l.length ≤ 1048576) : ACall Try.prog 71 [.slice ⟨0, 0, 0, 1, 0⟩ l.length, .int .i64 n] [.arr true .int l] (Is (.bool (someB l n)) [.arr true .int l]) := by
  refine ACall.walk T Try.func71 Try.ntmps71 Try.results71 rfl rfl rfl (Is.nv _ _) ?_
  repeat' (conv => whnf); first
    | refine AWP.seq ?_
    | refine AWP.reg T rfl ?_
    | refine AWP.drw T none rfl rfl rfl ?_
    | refine AWP.dep T none rfl rfl rfl rfl ?_
    | refine AWP.block ?_
    | refine AWP.condT rfl ?_
    | refine AWP.condF rfl ?_
    | refine AWP.cond rfl (fun hb => ?_) (fun hb => ?_)
    | refine AWP.ret ?_
    | refine AWP.exit ?_
    | refine AWP.skip ?_
    | refine GuardB.t ?_
    | refine GuardB.f ?_
    | refine GuardB.mk (fun hb => ?_) (fun hb => ?_)
    | refine NilQ.mk (fun hb => ?_) ?_
    | refine VC.mk Nat.zero_lt_one ?_
    | refine VC.mk rfl ?_
    | refine AWP.while (ι := Nat) (fun k => St.of [(0, .slice ⟨0, 0, 0, 1, 0⟩ l.length), (1, .int .i64 n), (7, .slice ⟨0, 0, 0, 1, 0⟩ l.length), (8, .int .i64 l.length), (9, .int .i64 k)] [.arr true .int l]) (fun k => AllTo (someOk l n) l.length k) (fun k => l.length - k) 0 (AllTo.zero _ _)
        (Weak.of [0] (.cons rfl rfl (.cons rfl rfl (.cons rfl rfl (.cons rfl rfl (.cons rfl rfl .nil))))) (.cons (.same rfl rfl) (.nil _)) rfl) (fun k hk => ?_)
    | refine Ret.bool [0] ?_ (.cons (.same rfl rfl) (.nil _)) rfl
    | refine roundEnd (_ + 1) ?_ ?_ (Weak.of [0] (.cons rfl rfl (.cons rfl rfl (.cons rfl rfl (.cons rfl rfl (.cons rfl rfl .nil))))) (.cons (.same rfl rfl) (.nil _)) rfl)
    | refine VC.mk ?_ ?_
  all_goals try simp only [decide_eq_true_eq, decide_eq_false_iff_not, Bool.not_eq_true', Bool.not_eq_false', cond_true, cond_false, eqB_true, eqB_false] at *
  all_goals try simp only [in64, idxAdd_zero_left, Int.toNat_natCast, fillTo_length, Int.ofNat_lt, Int.ofNat_le, Int.natCast_inj] at *
  all_goals first
    | omega
    | (have := hk.1; omega)
    | (rw [eq_comm]; exact hk.all (by omega))
    | (have h2 : k < l.length := by omega
       have e1 : ((k : Int) - 1).toNat = k - 1 := by omega
       rw [eq_comm]; refine not_all h2 ?_
       grind [someOk])
    | (have h2 : k < l.length := by omega
       have e1 : ((k : Int) - 1).toNat = k - 1 := by omega
       refine hk.next h2 ?_
       grind [someOk])
theorem markIntS_call (l : List Int) (n : Int) (hl : l.length ≤ 1048576) (hn : 0 ≤ n ∧ n ≤ 1073741824) : ACall Try.prog 32 [.slice ⟨0, 0, 0, 1, 0⟩ l.length, .int .i64 n] [.arr false .int l] (Is (.int .i64 (n + (l.length : Int))) [.arr false .int (marksI l.length n)]) := by
  refine ACall.walk T Try.func32 Try.ntmps32 Try.results32 rfl rfl rfl (Is.nv _ _) ?_
  repeat' (conv => whnf); first
    | refine AWP.seq ?_
    | refine AWP.reg T rfl ?_
    | refine AWP.drw T none rfl rfl rfl ?_
    | refine AWP.dep T none rfl rfl rfl rfl ?_
    | refine AWP.block ?_
    | refine AWP.condT rfl ?_
    | refine AWP.condF rfl ?_
    | refine AWP.cond rfl (fun hb => ?_) (fun hb => ?_)
    | refine AWP.ret ?_
    | refine AWP.exit ?_
    | refine AWP.skip ?_
    | refine GuardB.t ?_
    | refine GuardB.f ?_
    | refine GuardB.mk (fun hb => ?_) (fun hb => ?_)
    | refine NilQ.mk (fun hb => ?_) ?_
    | refine VC.mk Nat.zero_lt_one ?_
    | refine VC.mk rfl ?_
    | refine AWP.while (ι := Nat) (fun k => St.of [(0, .slice ⟨0, 0, 0, 1, 0⟩ l.length), (1, .int .i64 (n + (k : Int))), (5, .int .i64 k)] [.arr false .int (mixTo (marksI l.length n) l k)]) (fun k => k ≤ l.length) (fun k => l.length - k) 0 (Nat.zero_le _)
        (Weak.of [0] (.cons rfl rfl (.cons ?_ rfl (.cons rfl rfl .nil))) (.cons (.arr rfl (mixTo_zero _ _)) (.nil _)) rfl) (fun k hk => ?_)
    | refine Ret.int [0] ?_ (.cons (.arr rfl ?_) (.nil _)) rfl
    | refine roundEnd (_ + 1) ?_ ?_ (Weak.of [0] (.cons rfl rfl (.cons ?_ rfl (.cons rfl rfl .nil))) (.cons (.arr rfl ?_) (.nil _)) rfl)
    | refine VC.mk ?_ ?_
  all_goals try simp only [decide_eq_true_eq, decide_eq_false_iff_not, Bool.not_eq_true', Bool.not_eq_false', cond_true, cond_false, eqB_true, eqB_false] at *
  all_goals try simp only [in64, idxAdd_zero_left, Int.toNat_natCast, fillTo_length, Int.ofNat_lt, Int.ofNat_le, Int.natCast_inj] at *
  all_goals try have ml := mixTo_length (marksI_length l.length n) hk
  all_goals first
    | omega
    | exact congrArg (AV.int .i64) (by simp only [AV.int.injEq, true_and]; omega)
    | exact congrArg (AV.int .i64) (by omega)
    | exact (mixTo_all (by simp) (by omega)).symm
    | (have h2 : k < l.length := by omega
       rw [mixTo_set (by simp) h2 rfl, marksI_get h2])
    | (have : k = l.length := by omega
       omega)
theorem heldIntS_call (c : Nat) (n : Int) (hl : c ≤ 1048576) (hn : 0 ≤ n ∧ n ≤ 1073741824) : ACall Try.prog 33 [.slice ⟨0, 0, 0, 1, 0⟩ c, .int .i64 n] [.arr true .int (marksI c n)] (Is (.int .i64 (n + (c : Int))) [.arr true .int (marksI c n)]) := by
  refine ACall.walk T Try.func33 Try.ntmps33 Try.results33 rfl rfl rfl (Is.nv _ _) ?_
  repeat' (conv => whnf); first
    | refine AWP.seq ?_
    | refine AWP.reg T rfl ?_
    | refine AWP.drw T none rfl rfl rfl ?_
    | refine AWP.dep T none rfl rfl rfl rfl ?_
    | refine AWP.block ?_
    | refine AWP.condT rfl ?_
    | refine AWP.condF rfl ?_
    | refine AWP.cond rfl (fun hb => ?_) (fun hb => ?_)
    | refine AWP.ret ?_
    | refine AWP.exit ?_
    | refine AWP.skip ?_
    | refine GuardB.t ?_
    | refine GuardB.f ?_
    | refine GuardB.mk (fun hb => ?_) (fun hb => ?_)
    | refine NilQ.mk (fun hb => ?_) ?_
    | refine VC.mk Nat.zero_lt_one ?_
    | refine VC.mk rfl ?_
    | refine AWP.while (ι := Nat) (fun k => St.of [(0, .slice ⟨0, 0, 0, 1, 0⟩ c), (1, .int .i64 (n + (k : Int))), (5, .int .i64 k)] [.arr true .int (marksI c n)]) (fun k => k ≤ c) (fun k => c - k) 0 (Nat.zero_le _)
        (Weak.of [0] (.cons rfl rfl (.cons ?_ rfl (.cons rfl rfl .nil))) (.cons (.same rfl rfl) (.nil _)) rfl) (fun k hk => ?_)
    | refine Ret.int [0] ?_ (.cons (.same rfl rfl) (.nil _)) rfl
    | refine roundEnd (_ + 1) ?_ ?_ (Weak.of [0] (.cons rfl rfl (.cons ?_ rfl (.cons rfl rfl .nil))) (.cons (.same rfl rfl) (.nil _)) rfl)
    | refine VC.mk ?_ ?_
  all_goals try simp only [decide_eq_true_eq, decide_eq_false_iff_not, Bool.not_eq_true', Bool.not_eq_false', cond_true, cond_false, eqB_true, eqB_false] at *
  all_goals try simp only [in64, idxAdd_zero_left, Int.toNat_natCast, fillTo_length, Int.ofNat_lt, Int.ofNat_le, Int.natCast_inj] at *
  all_goals try simp only [marksI_length] at *
  all_goals first
    | omega
    | exact congrArg (AV.int .i64) (by simp only [AV.int.injEq, true_and]; omega)
    | exact congrArg (AV.int .i64) (by omega)
    | (have h2 : k < c := by omega
       have g := marksI_getD h2 n 0
       omega)
    | (have : k = c := by omega
       omega)

theorem toLink_call (a : S2) : ACall Try.prog 45 [s2V a] [] (Is (s2V a) []) := by
  refine ACall.walk T Try.func45 Try.ntmps45 Try.results45 rfl rfl rfl (Is.nv _ _) ?_
  repeat' (conv => whnf); first
    | refine AWP.seq ?_
    | refine AWP.reg T rfl ?_
    | refine AWP.drw T none rfl rfl rfl ?_
    | refine AWP.dep T none rfl rfl rfl rfl ?_
    | refine AWP.block ?_
    | refine AWP.condT rfl ?_
    | refine AWP.condF rfl ?_
    | refine AWP.cond rfl (fun hb => ?_) (fun hb => ?_)
    | refine AWP.ret ?_
    | refine AWP.exit ?_
    | refine AWP.skip ?_
    | refine GuardB.t ?_
    | refine GuardB.f ?_
    | refine GuardB.mk (fun hb => ?_) (fun hb => ?_)
    | refine NilQ.mk (fun hb => ?_) ?_
    | refine VC.mk Nat.zero_lt_one ?_
    | refine VC.mk rfl ?_
    | refine Ret.is [] rfl (.nil _) rfl
    | refine VC.mk ?_ ?_
theorem eqLink_call (a b : S2) : ACall Try.prog 49 [s2V a, s2V b] [] (Is (.bool (eqB a b)) []) := by
  refine ACall.walk T Try.func49 Try.ntmps49 Try.results49 rfl rfl rfl (Is.nv _ _) ?_
  repeat' (conv => whnf); first
    | refine AWP.seq ?_
    | refine AWP.reg T rfl ?_
    | refine AWP.drw T none rfl rfl rfl ?_
    | refine AWP.dep T none rfl rfl rfl rfl ?_
    | refine AWP.block ?_
    | refine AWP.condT rfl ?_
    | refine AWP.condF rfl ?_
    | refine AWP.cond rfl (fun hb => ?_) (fun hb => ?_)
    | refine AWP.ret ?_
    | refine AWP.exit ?_
    | refine AWP.skip ?_
    | refine GuardB.t ?_
    | refine GuardB.f ?_
    | refine GuardB.mk (fun hb => ?_) (fun hb => ?_)
    | refine NilQ.mk (fun hb => ?_) ?_
    | refine VC.mk Nat.zero_lt_one ?_
    | refine VC.mk rfl ?_
    | refine Ret.bool [] ?_ (.nil _) rfl
    | refine VC.mk ?_ ?_
  all_goals
    cases a
    cases b
    simp_all [eqB]
theorem szLinkS_call (l : List S2) (n : Int) (h1 : l.length ≤ 9223372036854775807) (h2 : 0 ≤ n ∧ n ≤ 1048576) : ACall Try.prog 11 [.slice ⟨0, 0, 0, 2, 0⟩ l.length, .int .i64 n] [.arr true .s2 l] (Is (.int .i64 (leftOf n l.length)) [.arr true .s2 l]) := by
  refine ACall.walk T Try.func11 Try.ntmps11 Try.results11 rfl rfl rfl (Is.nv _ _) ?_
  repeat' (conv => whnf); first
    | refine AWP.seq ?_
    | refine AWP.reg T rfl ?_
    | refine AWP.drw T none rfl rfl rfl ?_
    | refine AWP.dep T none rfl rfl rfl rfl ?_
    | refine AWP.block ?_
    | refine AWP.condT rfl ?_
    | refine AWP.condF rfl ?_
    | refine AWP.cond rfl (fun hb => ?_) (fun hb => ?_)
    | refine AWP.ret ?_
    | refine AWP.exit ?_
    | refine AWP.skip ?_
    | refine GuardB.t ?_
    | refine GuardB.f ?_
    | refine GuardB.mk (fun hb => ?_) (fun hb => ?_)
    | refine NilQ.mk (fun hb => ?_) ?_
    | refine VC.mk Nat.zero_lt_one ?_
    | refine VC.mk rfl ?_
    | refine Ret.int [0] ?_ (.cons (.same rfl rfl) (.nil _)) rfl
    | refine VC.mk ?_ ?_
  all_goals try simp only [decide_eq_true_eq, decide_eq_false_iff_not, Bool.not_eq_true', Bool.not_eq_false', cond_true, cond_false, eqB_true, eqB_false] at *
  all_goals try simp only [in64, idxAdd_zero_left, Int.toNat_natCast, fillTo_length, Int.ofNat_lt, Int.ofNat_le, Int.natCast_inj] at *
  · omega
  · rw [leftOf, if_pos (by omega)]
  · rw [leftOf, if_neg (by omega)]
theorem toLinkS_call (l : List S2) (hl : l.length ≤ 1048576) : ACall Try.prog 13 [.slice ⟨0, 0, 0, 2, 0⟩ l.length] [.arr true .s2 l] (Is (.slice ⟨1, 0, 0, 2, 0⟩ l.length) [.arr true .s2 l, .arr false .s2 l]) := by
  refine ACall.walk T Try.func13 Try.ntmps13 Try.results13 rfl rfl rfl (Is.nv _ _) ?_
  repeat' (conv => whnf); first
    | refine AWP.seq ?_
    | refine AWP.reg T rfl ?_
    | refine AWP.drw T none rfl rfl rfl ?_
    | refine AWP.dep T none rfl rfl rfl rfl ?_
    | refine AWP.block ?_
    | refine AWP.condT rfl ?_
    | refine AWP.condF rfl ?_
    | refine AWP.cond rfl (fun hb => ?_) (fun hb => ?_)
    | refine AWP.ret ?_
    | refine AWP.exit ?_
    | refine AWP.skip ?_
    | refine GuardB.t ?_
    | refine GuardB.f ?_
    | refine GuardB.mk (fun hb => ?_) (fun hb => ?_)
    | refine NilQ.mk (fun hb => ?_) ?_
    | refine VC.mk Nat.zero_lt_one ?_
    | refine VC.mk rfl ?_
    | refine AWP.while (ι := Nat) (fun k => St.of [(0, .slice ⟨0, 0, 0, 2, 0⟩ l.length), (3, .slice ⟨2, 0, 0, 2, 0⟩ l.length), (4, .int .i64 k)] [.arr true .s2 l, .dead, .arr false .s2 (fillTo l k ⟨0, 0⟩)]) (fun k => k ≤ l.length) (fun k => l.length - k) 0 (Nat.zero_le _)
        (Weak.of [0, 1, 2] (.cons rfl rfl (.cons rfl rfl (.cons rfl rfl .nil))) (.cons (.same rfl rfl) (.cons (.dead _) (.cons (.same rfl rfl) (.nil _)))) rfl) (fun k hk => ?_)
    | refine ACall.useIs [] (toLink_call _) rfl (.nil _) rfl ?_
    | refine Ret.is [0, 2] rfl (.cons (.same rfl rfl) (.cons (.arr rfl ?_) (.nil _))) rfl
    | refine roundEnd (_ + 1) ?_ ?_ (Weak.of [0, 1, 2] (.cons rfl rfl (.cons rfl rfl (.cons rfl rfl .nil))) (.cons (.same rfl rfl) (.cons (.dead _) (.cons (.arr rfl ?_) (.nil _)))) rfl)
    | refine VC.mk ?_ ?_
  all_goals try simp only [decide_eq_true_eq, decide_eq_false_iff_not, Bool.not_eq_true', Bool.not_eq_false', cond_true, cond_false, eqB_true, eqB_false] at *
  all_goals try simp only [in64, idxAdd_zero_left, Int.toNat_natCast, fillTo_length, Int.ofNat_lt, Int.ofNat_le, Int.natCast_inj] at *
  all_goals first
    | omega
    | exact (fillTo_all l _ (by omega)).symm
    | exact fillTo_set l _ (by omega) (getD_get (by omega))
theorem eqLinkS_call (a b : List S2) (ha : a.length ≤ 1048576) : ACall Try.prog 15 [.slice ⟨0, 0, 0, 2, 0⟩ a.length, .slice ⟨1, 0, 0, 2, 0⟩ b.length] [.arr true .s2 a, .arr true .s2 b] (Is (.bool (eqB a b)) [.arr true .s2 a, .arr true .s2 b]) := by
  refine ACall.walk T Try.func15 Try.ntmps15 Try.results15 rfl rfl rfl (Is.nv _ _) ?_
  repeat' (conv => whnf); first
    | refine AWP.seq ?_
    | refine AWP.reg T rfl ?_
    | refine AWP.drw T none rfl rfl rfl ?_
    | refine AWP.dep T none rfl rfl rfl rfl ?_
    | refine AWP.block ?_
    | refine AWP.condT rfl ?_
    | refine AWP.condF rfl ?_
    | refine AWP.cond rfl (fun hb => ?_) (fun hb => ?_)
    | refine AWP.ret ?_
    | refine AWP.exit ?_
    | refine AWP.skip ?_
    | refine GuardB.t ?_
    | refine GuardB.f ?_
    | refine GuardB.mk (fun hb => ?_) (fun hb => ?_)
    | refine NilQ.mk (fun hb => ?_) ?_
    | refine VC.mk Nat.zero_lt_one ?_
    | refine VC.mk rfl ?_
    | refine AWP.while (ι := Nat) (fun k => St.of [(0, .slice ⟨0, 0, 0, 2, 0⟩ a.length), (1, .slice ⟨1, 0, 0, 2, 0⟩ b.length), (5, .int .i64 k)] [.arr true .s2 a, .arr true .s2 b]) (fun k => Same a b k) (fun k => a.length - k) 0 ?_
        (Weak.of [0, 1] (.cons rfl rfl (.cons rfl rfl (.cons rfl rfl .nil))) (.cons (.same rfl rfl) (.cons (.same rfl rfl) (.nil _))) rfl) (fun k hk => ?_)
    | refine ACall.useIs [] (eqLink_call _ _) rfl (.nil _) rfl ?_
    | refine Ret.bool [0, 1] ?_ (.cons (.same rfl rfl) (.cons (.same rfl rfl) (.nil _))) rfl
    | refine roundEnd (_ + 1) ?_ ?_ (Weak.of [0, 1] (.cons rfl rfl (.cons rfl rfl (.cons rfl rfl .nil))) (.cons (.same rfl rfl) (.cons (.same rfl rfl) (.nil _))) rfl)
    | refine VC.mk ?_ ?_
  all_goals try simp only [decide_eq_true_eq, decide_eq_false_iff_not, Bool.not_eq_true', Bool.not_eq_false', cond_true, cond_false, eqB_true, eqB_false] at *
  all_goals try simp only [in64, idxAdd_zero_left, Int.toNat_natCast, fillTo_length, Int.ofNat_lt, Int.ofNat_le, Int.natCast_inj] at *
  all_goals first
    | omega
    | (have := hk.1; have := hk.2.1; omega)
    | exact Same.zero (by omega)
    | (rw [eq_comm, eqB_false]; intro e; subst e; omega)
    | (rw [eq_comm, eqB_true]; exact hk.eq (by omega))
    | (have h1 := hk.1; have h2 : k < a.length := by omega
       have h3 : k < b.length := by omega
       simp only [getD_get h2, getD_get h3] at *
       first
       | exact hk.next h2 h3 (by assumption)
       | (rw [eq_comm, eqB_false]; intro e; subst e; simp_all))
theorem markLinkS_call (l : List S2) (n : Int) (hl : l.length ≤ 1048576) (hn : 0 ≤ n ∧ n ≤ 1073741824) : ACall Try.prog 23 [.slice ⟨0, 0, 0, 2, 0⟩ l.length, .int .i64 n] [.arr false .s2 l] (Is (.int .i64 (n + 2 * (l.length : Int))) [.arr false .s2 (marks2 l.length n)]) := by
  refine ACall.walk T Try.func23 Try.ntmps23 Try.results23 rfl rfl rfl (Is.nv _ _) ?_
  repeat' (conv => whnf); first
    | refine AWP.seq ?_
    | refine AWP.reg T rfl ?_
    | refine AWP.drw T none rfl rfl rfl ?_
    | refine AWP.dep T none rfl rfl rfl rfl ?_
    | refine AWP.block ?_
    | refine AWP.condT rfl ?_
    | refine AWP.condF rfl ?_
    | refine AWP.cond rfl (fun hb => ?_) (fun hb => ?_)
    | refine AWP.ret ?_
    | refine AWP.exit ?_
    | refine AWP.skip ?_
    | refine GuardB.t ?_
    | refine GuardB.f ?_
    | refine GuardB.mk (fun hb => ?_) (fun hb => ?_)
    | refine NilQ.mk (fun hb => ?_) ?_
    | refine VC.mk Nat.zero_lt_one ?_
    | refine VC.mk rfl ?_
    | refine AWP.while (ι := Nat) (fun k => St.of [(0, .slice ⟨0, 0, 0, 2, 0⟩ l.length), (1, .int .i64 (n + 2 * (k : Int))), (5, .int .i64 k)] [.arr false .s2 (mixTo (marks2 l.length n) l k)]) (fun k => k ≤ l.length) (fun k => l.length - k) 0 (Nat.zero_le _)
        (Weak.of [0] (.cons rfl rfl (.cons ?_ rfl (.cons rfl rfl .nil))) (.cons (.arr rfl (mixTo_zero _ _)) (.nil _)) rfl) (fun k hk => ?_)
    | refine Ret.int [0] ?_ (.cons (.arr rfl ?_) (.nil _)) rfl
    | refine roundEnd (_ + 1) ?_ ?_ (Weak.of [0] (.cons rfl rfl (.cons ?_ rfl (.cons rfl rfl .nil))) (.cons (.arr rfl ?_) (.nil _)) rfl)
    | refine VC.mk ?_ ?_
  all_goals try simp only [decide_eq_true_eq, decide_eq_false_iff_not, Bool.not_eq_true', Bool.not_eq_false', cond_true, cond_false, eqB_true, eqB_false] at *
  all_goals try simp only [in64, idxAdd_zero_left, Int.toNat_natCast, fillTo_length, Int.ofNat_lt, Int.ofNat_le, Int.natCast_inj] at *
  all_goals try have ml := mixTo_length (marks2_length l.length n) hk
  all_goals try simp only [List.length_set] at *
  all_goals first
    | omega
    | exact congrArg (AV.int .i64) (by simp only [AV.int.injEq, true_and]; omega)
    | exact congrArg (AV.int .i64) (by omega)
    | exact (mixTo_all (by simp) (by omega)).symm
    | (have h2 : k < l.length := by omega
       have h3 : k < (mixTo (marks2 l.length n) l k).length := by omega
       rw [mixTo_set (by simp) h2 rfl, marks2_get h2]
       simp only [List.set_set, getD_set_self h3, getD_set_self (show k < (List.set _ k _).length by simpa using h3), show n + 3 * (k : Int) + 1 + 1 = n + 3 * (k : Int) + 2 by omega])
    | (have : k = l.length := by omega
       omega)

/-- A link that may be. -/
def goodLink (r : S2) : Bool := btw 0 7 r.a && btw 0 7 r.b && decide (r.a ≠ r.b)
theorem badLink_call (r : S2) : ACall Try.prog 47 [s2V r] [] (Is (.bool (!goodLink r)) []) := by
  refine ACall.walk T Try.func47 Try.ntmps47 Try.results47 rfl rfl rfl (Is.nv _ _) ?_
  repeat' (conv => whnf); first
    | refine AWP.seq ?_
    | refine AWP.reg T rfl ?_
    | refine AWP.drw T none rfl rfl rfl ?_
    | refine AWP.dep T none rfl rfl rfl rfl ?_
    | refine AWP.block ?_
    | refine AWP.condT rfl ?_
    | refine AWP.condF rfl ?_
    | refine AWP.cond rfl (fun hb => ?_) (fun hb => ?_)
    | refine AWP.ret ?_
    | refine AWP.exit ?_
    | refine AWP.skip ?_
    | refine GuardB.t ?_
    | refine GuardB.f ?_
    | refine GuardB.mk (fun hb => ?_) (fun hb => ?_)
    | refine NilQ.mk (fun hb => ?_) ?_
    | refine VC.mk Nat.zero_lt_one ?_
    | refine VC.mk rfl ?_
    | refine ACall.useIs [] (areUnlike_call _ _) rfl (.nil _) rfl ?_
    | refine ACall.useIs [] (within_call _ _ _) rfl (.nil _) rfl ?_
    | refine Ret.bool [] ?_ (.nil _) rfl
    | refine VC.mk ?_ ?_
  all_goals simp_all [goodLink]
theorem idxBadLink_call (l : List S2) (hl : l.length ≤ 1048576) : ACall Try.prog 78 [.slice ⟨0, 0, 0, 2, 0⟩ l.length, .func 47 []] [.arr true .s2 l] (Is (.int .i64 (idxF (fun r => !goodLink r) l)) [.arr true .s2 l]) := by
  refine ACall.walk T Try.func78 Try.ntmps78 Try.results78 rfl rfl rfl (Is.nv _ _) ?_
  repeat' (conv => whnf); first
    | refine AWP.seq ?_
    | refine AWP.reg T rfl ?_
    | refine AWP.drw T none rfl rfl rfl ?_
    | refine AWP.dep T none rfl rfl rfl rfl ?_
    | refine AWP.block ?_
    | refine AWP.condT rfl ?_
    | refine AWP.condF rfl ?_
    | refine AWP.cond rfl (fun hb => ?_) (fun hb => ?_)
    | refine AWP.ret ?_
    | refine AWP.exit ?_
    | refine AWP.skip ?_
    | refine GuardB.t ?_
    | refine GuardB.f ?_
    | refine GuardB.mk (fun hb => ?_) (fun hb => ?_)
    | refine NilQ.mk (fun hb => ?_) ?_
    | refine VC.mk Nat.zero_lt_one ?_
    | refine VC.mk rfl ?_
    | refine AWP.while (ι := Nat) (fun k => St.of [(0, .slice ⟨0, 0, 0, 2, 0⟩ l.length), (1, .func 47 []), (7, .int .i64 l.length), (8, .int .i64 k)] [.arr true .s2 l]) (fun k => NoneTo (fun r => !goodLink r) l k) (fun k => l.length - k) 0 (NoneTo.zero _ _)
        (Weak.of [0] (.cons rfl rfl (.cons rfl rfl (.cons rfl rfl (.cons rfl rfl .nil)))) (.cons (.same rfl rfl) (.nil _)) rfl) (fun k hk => ?_)
    | refine ACall.useIs [] (badLink_call _) rfl (.nil _) rfl ?_
    | refine Ret.int [0] ?_ (.cons (.same rfl rfl) (.nil _)) rfl
    | refine roundEnd (_ + 1) ?_ ?_ (Weak.of [0] (.cons rfl rfl (.cons rfl rfl (.cons rfl rfl (.cons rfl rfl .nil)))) (.cons (.same rfl rfl) (.nil _)) rfl)
    | refine VC.mk ?_ ?_
  all_goals try simp only [decide_eq_true_eq, decide_eq_false_iff_not, Bool.not_eq_true', Bool.not_eq_false', cond_true, cond_false, eqB_true, eqB_false] at *
  all_goals try simp only [in64, idxAdd_zero_left, Int.toNat_natCast, fillTo_length, Int.ofNat_lt, Int.ofNat_le, Int.natCast_inj] at *
  all_goals first
    | omega
    | (have := hk.1; omega)
    | exact idxF_none (fun j hj => hk.2 j hj (by omega))
    | (have h2 : k < l.length := by omega
       simp only [getD_get h2] at *
       first
       | exact hk.next h2 (by simp_all)
       | exact idxF_here h2 (fun j hj => hk.2 j (by omega) hj) (by simp_all))
theorem anyBadLink_call (l : List S2) (hl : l.length ≤ 1048576) : ACall Try.prog 46 [.slice ⟨0, 0, 0, 2, 0⟩ l.length, .func 47 []] [.arr true .s2 l] (Is (.bool (l.any (fun r => !goodLink r))) [.arr true .s2 l]) := by
  refine ACall.walk T Try.func46 Try.ntmps46 Try.results46 rfl rfl rfl (Is.nv _ _) ?_
  repeat' (conv => whnf); first
    | refine AWP.seq ?_
    | refine AWP.reg T rfl ?_
    | refine AWP.drw T none rfl rfl rfl ?_
    | refine AWP.dep T none rfl rfl rfl rfl ?_
    | refine AWP.block ?_
    | refine AWP.condT rfl ?_
    | refine AWP.condF rfl ?_
    | refine AWP.cond rfl (fun hb => ?_) (fun hb => ?_)
    | refine AWP.ret ?_
    | refine AWP.exit ?_
    | refine AWP.skip ?_
    | refine GuardB.t ?_
    | refine GuardB.f ?_
    | refine GuardB.mk (fun hb => ?_) (fun hb => ?_)
    | refine NilQ.mk (fun hb => ?_) ?_
    | refine VC.mk Nat.zero_lt_one ?_
    | refine VC.mk rfl ?_
    | refine ACall.useIs [0] (idxBadLink_call _ ?_) rfl (.cons (.same rfl rfl) (.nil _)) rfl ?_
    | refine Ret.bool [0] ?_ (.cons (.same rfl rfl) (.nil _)) rfl
    | refine VC.mk ?_ ?_
  all_goals first | exact idxF_any _ _ | exact hl
def goodLinks (l : List S2) : Bool := decide (l.length ≤ 20) && !l.any (fun r => !goodLink r)
theorem implGoodLinks_call (l : List S2) (hl : l.length ≤ 1048576) : ACall Try.prog 14 [.slice ⟨0, 0, 0, 2, 0⟩ l.length] [.arr true .s2 l] (Is (.bool (goodLinks l)) [.arr true .s2 l]) := by
  refine ACall.walk T Try.func14 Try.ntmps14 Try.results14 rfl rfl rfl (Is.nv _ _) ?_
  repeat' (conv => whnf); first
    | refine AWP.seq ?_
    | refine AWP.reg T rfl ?_
    | refine AWP.drw T none rfl rfl rfl ?_
    | refine AWP.dep T none rfl rfl rfl rfl ?_
    | refine AWP.block ?_
    | refine AWP.condT rfl ?_
    | refine AWP.condF rfl ?_
    | refine AWP.cond rfl (fun hb => ?_) (fun hb => ?_)
    | refine AWP.ret ?_
    | refine AWP.exit ?_
    | refine AWP.skip ?_
    | refine GuardB.t ?_
    | refine GuardB.f ?_
    | refine GuardB.mk (fun hb => ?_) (fun hb => ?_)
    | refine NilQ.mk (fun hb => ?_) ?_
    | refine VC.mk Nat.zero_lt_one ?_
    | refine VC.mk rfl ?_
    | refine ACall.useIs [0] (anyBadLink_call _ ?_) rfl (.cons (.same rfl rfl) (.nil _)) rfl ?_
    | refine Ret.bool [0] ?_ (.cons (.same rfl rfl) (.nil _)) rfl
    | refine VC.mk ?_ ?_
  all_goals try simp only [decide_eq_true_eq, decide_eq_false_iff_not, Bool.not_eq_true', Bool.not_eq_false', cond_true, cond_false, eqB_true, eqB_false] at *
  all_goals try simp only [in64, idxAdd_zero_left, Int.toNat_natCast, fillTo_length, Int.ofNat_lt, Int.ofNat_le, Int.natCast_inj] at *
  · exact hl
  · simp [goodLinks]; omega
  · simp [goodLinks]; omega
theorem specGoodLinks_call (l : List S2) (hl : l.length ≤ 1048576) : ACall Try.prog 12 [.slice ⟨0, 0, 0, 2, 0⟩ l.length] [.arr true .s2 l] (Is (.bool (goodLinks l)) [.arr true .s2 l]) := by
  refine ACall.walk T Try.func12 Try.ntmps12 Try.results12 rfl rfl rfl (Is.nv _ _) ?_
  repeat' (conv => whnf); first
    | refine AWP.seq ?_
    | refine AWP.reg T rfl ?_
    | refine AWP.drw T none rfl rfl rfl ?_
    | refine AWP.dep T none rfl rfl rfl rfl ?_
    | refine AWP.block ?_
    | refine AWP.condT rfl ?_
    | refine AWP.condF rfl ?_
    | refine AWP.cond rfl (fun hb => ?_) (fun hb => ?_)
    | refine AWP.ret ?_
    | refine AWP.exit ?_
    | refine AWP.skip ?_
    | refine GuardB.t ?_
    | refine GuardB.f ?_
    | refine GuardB.mk (fun hb => ?_) (fun hb => ?_)
    | refine NilQ.mk (fun hb => ?_) ?_
    | refine VC.mk Nat.zero_lt_one ?_
    | refine VC.mk rfl ?_
    | refine AWP.while (ι := Nat) (fun k => St.of [(0, .slice ⟨0, 0, 0, 2, 0⟩ l.length), (5, .slice ⟨0, 0, 0, 2, 0⟩ l.length), (6, .int .i64 l.length), (7, .int .i64 k)] [.arr true .s2 l]) (fun k => NoneTo (fun r => !goodLink r) l k) (fun k => l.length - k) 0 (NoneTo.zero _ _)
        (Weak.of [0] (.cons rfl rfl (.cons rfl rfl (.cons rfl rfl (.cons rfl rfl .nil)))) (.cons (.same rfl rfl) (.nil _)) rfl) (fun k hk => ?_)
    | refine ACall.useIs [] (l6Node_call _) rfl (.nil _) rfl ?_
    | refine ACall.useIs [] (l1In_call _ _ _) rfl (.nil _) rfl ?_
    | refine Ret.bool [0] ?_ (.cons (.same rfl rfl) (.nil _)) rfl
    | refine roundEnd (_ + 1) ?_ ?_ (Weak.of [0] (.cons rfl rfl (.cons rfl rfl (.cons rfl rfl (.cons rfl rfl .nil)))) (.cons (.same rfl rfl) (.nil _)) rfl)
    | refine VC.mk ?_ ?_
  all_goals try simp only [decide_eq_true_eq, decide_eq_false_iff_not, Bool.not_eq_true', Bool.not_eq_false', cond_true, cond_false, eqB_true, eqB_false] at *
  all_goals try simp only [in64, idxAdd_zero_left, Int.toNat_natCast, fillTo_length, Int.ofNat_lt, Int.ofNat_le, Int.natCast_inj] at *
  all_goals first
    | omega
    | (have := hk.1; omega)
    | (have h2 : k < l.length := by omega
       simp only [getD_get h2] at *
       first
       | exact hk.next h2 (by grind [goodLink])
       | (have h3 : (l.any (fun r => !goodLink r)) = true := any_here h2 (by grind [goodLink])
          grind [goodLinks]))
    | (have h3 := hk.any (by omega)
       grind [goodLinks])

theorem lawGoodLinks_call (l : List S2) (hl : l.length ≤ 9223372036854775807) : ACall Try.prog 3 [.slice ⟨0, 0, 0, 2, 0⟩ l.length] [.arr true .s2 l] (Is (.bool true) [.arr true .s2 l]) := by
  refine ACall.walk T Try.func3 Try.ntmps3 Try.results3 rfl rfl rfl (Is.nv _ _) ?_
  repeat' (conv => whnf); first
    | refine AWP.seq ?_
    | refine AWP.reg T rfl ?_
    | refine AWP.drw T none rfl rfl rfl ?_
    | refine AWP.dep T none rfl rfl rfl rfl ?_
    | refine AWP.block ?_
    | refine AWP.condT rfl ?_
    | refine AWP.condF rfl ?_
    | refine AWP.cond rfl (fun hb => ?_) (fun hb => ?_)
    | refine AWP.ret ?_
    | refine AWP.exit ?_
    | refine AWP.skip ?_
    | refine GuardB.t ?_
    | refine GuardB.f ?_
    | refine GuardB.mk (fun hb => ?_) (fun hb => ?_)
    | refine NilQ.mk (fun hb => ?_) ?_
    | refine VC.mk Nat.zero_lt_one ?_
    | refine VC.mk rfl ?_
    | refine ACall.useIs [0] (szLinkS_call _ _ ?_ ?_) rfl (.cons (.same rfl rfl) (.nil _)) rfl ?_
    | refine ACall.useIs [0] (toLinkS_call _ ?_) rfl (.cons (.same rfl rfl) (.nil _)) rfl ?_
    | refine ACall.useIs [1] (specGoodLinks_call _ ?_) rfl (.cons (.ro rfl rfl) (.nil _)) rfl ?_
    | refine ACall.useIs [2] (implGoodLinks_call _ ?_) rfl (.cons (.ro rfl rfl) (.nil _)) rfl ?_
    | refine ACall.useIs [2, 3] (eqLinkS_call _ _ ?_) rfl (.cons (.ro rfl rfl) (.cons (.ro rfl rfl) (.nil _))) rfl ?_
    | refine Ret.bool [0] ?_ (.cons (.same rfl rfl) (.nil _)) rfl
    | refine VC.mk ?_ ?_
  all_goals try simp only [decide_eq_true_eq, decide_eq_false_iff_not, Bool.not_eq_true', Bool.not_eq_false', cond_true, cond_false, eqB_true, eqB_false] at *
  all_goals try simp only [in64, idxAdd_zero_left, Int.toNat_natCast, fillTo_length, Int.ofNat_lt, Int.ofNat_le, Int.natCast_inj] at *
  all_goals first
    | rfl
    | omega
    | exact leftOf_ok (by assumption) (by omega)
    | simp_all [eqB]

end YtafalojjbghlhaaAM
