/- Contracts of functions of this seat. -/
import Derived.Test.YtofjbgpaofcpjaaAmTabPairs
import Derived.Test.YtofjbgpaofcpjaaAmModels
import Derived.Test.YtofjbgpaofcpjaaAmPairs1
import Derived.Test.YtofjbgpaofcpjaaAmPairModels
import Derived.Test.YtofjbgpaofcpjaaAmRowCall
set_option linter.unusedVariables false
set_option linter.unusedSimpArgs false
set_option maxRecDepth 100000
namespace YtofjbgpaofcpjaaAM
open Go Go.Proofs

theorem szIntSS_call (ll : List (List Int)) (n : Int) (h1 : ll.length ≤ 9223372036854775807) (h2 : 0 ≤ n ∧ n ≤ 1048576) (h3 : ∀ l ∈ ll, l.length ≤ 9223372036854775807) : ACall Try.prog 39 [.slice ⟨0, 0, 0, 1, 0⟩ ll.length, .int .i64 n] [.rows true ll] (Is (.int .i64 (leftSS ll n)) [.rows true ll]) := by
  refine ACall.walk T Try.func39 Try.ntmps39 Try.results39 rfl rfl rfl (Is.nv _ _) ?_
  repeat' (conv => whnf); first
    | refine AWP.seq ?_
    | refine AWP.reg T rfl ?_
    | refine AWP.drw T none rfl rfl rfl ?_
    | refine AWP.dep T none rfl rfl rfl rfl ?_
    | refine AWP.block ?_
    | refine AWP.condT rfl ?_
    | refine AWP.condF rfl ?_
    | refine AWP.cond rfl (fun hb => ?_) (fun hb => ?_)
    | refine AWP.ret ?_
    | refine AWP.exit ?_
    | refine AWP.skip ?_
    | refine GuardB.t ?_
    | refine GuardB.f ?_
    | refine GuardB.mk (fun hb => ?_) (fun hb => ?_)
    | refine NilQ.mk (fun hb => ?_) ?_
    | refine VC.mk Nat.zero_lt_one ?_
    | refine VC.mk rfl ?_
    | refine AWP.while (ι := Nat) (fun k => St.of [(0, .slice ⟨0, 0, 0, 1, 0⟩ ll.length), (1, .int .i64 (leftN ll n k)), (5, .int .i64 k)] [.rows true ll]) (fun k => k ≤ ll.length ∧ 0 ≤ leftN ll n k) (fun k => ll.length - k) 0 ⟨Nat.zero_le _, ?_⟩
        (Weak.of [0] (.cons rfl rfl (.i rfl ?_ (.cons rfl rfl .nil))) (.cons (.same rfl rfl) (.nil _)) rfl) (fun k hk => ?_)
    | refine ACall.row0 (id := 0) rfl ?_
    | refine ACall.useIs [1] (szIntS_call _ _ ?_ ?_) rfl (.cons (.same rfl rfl) (.nil _)) rfl ?_
    | refine Ret.int [0] ?_ (.cons (.same rfl rfl) (.nil _)) rfl
    | refine roundEnd (k + 1) ?_ ?_ (Weak.of [0] (.cons rfl rfl (.i rfl ?_ (.cons rfl rfl .nil))) (.cons (.same rfl rfl) (.nil _)) rfl)
    | refine VC.mk ?_ ?_
  all_goals try simp only [decide_eq_true_eq, decide_eq_false_iff_not, Bool.not_eq_true', Bool.not_eq_false', cond_true, cond_false, eqB_true, eqB_false] at *
  all_goals try simp only [in64, idxAdd_zero_left, Int.toNat_natCast, fillTo_length, Int.ofNat_lt, Int.ofNat_le, Int.natCast_inj] at *
  all_goals try have hlr := leftN_range (ll := ll) (n := n) h2.2 k
  all_goals try
    have hk1 := hk.1
    have hk2 := hk.2
  all_goals first
    | omega
    | exact ⟨by omega, by omega⟩
    | exact h3 _ (by rw [getD_get (by omega)]; exact List.getElem_mem _)
    | (have e : k = ll.length := by omega
       subst e
       rfl)
    | (rw [leftN_zero, leftOf, if_neg (by omega)]; done)
    | (rw [leftN_zero, leftOf, if_neg (by omega)]; omega)
    | (rw [leftOf, if_neg (by omega)] at *; omega)
    | (have e := leftN_go (n := n) hk2
       have e2 := leftN_end (ll := ll) (n := n) (k := k + 1) (by omega) (by rw [e]; assumption)
       rw [e2, e]; exact (leftOf_neg (by assumption)).symm)
    | (have e := leftN_end (n := n) (ll := ll) (k := 0) (by omega) (by rw [leftN_zero, leftOf, if_pos (by omega)]; omega)
       rw [e, leftN_zero, leftOf, if_pos (by omega)])
    | (refine ⟨by omega, ?_⟩
       rw [leftN_go hk2]; omega)
    | (rw [leftN_go hk2]; done)
theorem toIntSS_call (ll : List (List Int)) (hr : SmallR ll) : ACall Try.prog 42 [.slice ⟨0, 0, 0, 1, 0⟩ ll.length] [.rows true ll] (Is (.slice ⟨1, 0, 0, 1, 0⟩ ll.length) [.rows true ll, .rows false ll]) := by
  refine ACall.walk T Try.func42 Try.ntmps42 Try.results42 rfl rfl rfl (Is.nv _ _) ?_
  repeat' (conv => whnf); first
    | refine AWP.regX (id := 5) T 8 rfl ?_
    | refine AWP.seq ?_
    | refine AWP.reg T rfl ?_
    | refine AWP.drw T none rfl rfl rfl ?_
    | refine AWP.dep T none rfl rfl rfl rfl ?_
    | refine AWP.block ?_
    | refine AWP.condT rfl ?_
    | refine AWP.condF rfl ?_
    | refine AWP.cond rfl (fun hb => ?_) (fun hb => ?_)
    | refine AWP.ret ?_
    | refine AWP.exit ?_
    | refine AWP.skip ?_
    | refine GuardB.t ?_
    | refine GuardB.f ?_
    | refine GuardB.mk (fun hb => ?_) (fun hb => ?_)
    | refine NilQ.mk (fun hb => ?_) ?_
    | refine VC.mk Nat.zero_lt_one ?_
    | refine VC.mk rfl ?_
    | refine AWP.while (ι := Nat) (fun k => St.of [(0, .slice ⟨0, 0, 0, 1, 0⟩ ll.length), (3, .slice ⟨1, 0, 0, 1, 0⟩ ll.length), (4, .int .i64 k)] [.rows true ll, .rows false (fillTo ll k [])]) (fun k => k ≤ ll.length) (fun k => ll.length - k) 0 (Nat.zero_le _)
        (Weak.of [0, 2] (.cons rfl rfl (.cons rfl rfl (.cons rfl rfl .nil))) (.cons (.same rfl rfl) (.cons (.rows ?_) (.nil _))) rfl) (fun k hk => ?_)
    | refine ACall.row0 (id := 0) rfl ?_
    | refine ACall.useIs [2] (toIntS_call _ ?_) rfl (.cons (.same rfl rfl) (.nil _)) rfl ?_
    | refine XGoal.row rfl ?_
    | refine Ret.is [0, 1] rfl (.cons (.same rfl rfl) (.cons (.rows ?_) (.nil _))) rfl
    | refine roundEnd (k + 1) ?_ ?_ (Weak.of [0, 4] (.cons rfl rfl (.cons rfl rfl (.cons rfl rfl .nil))) (.cons (.same rfl rfl) (.cons (.rows ?_) (.nil _))) rfl)
    | refine VC.mk ?_ ?_
  all_goals try simp only [decide_eq_true_eq, decide_eq_false_iff_not, Bool.not_eq_true', Bool.not_eq_false', cond_true, cond_false, eqB_true, eqB_false] at *
  all_goals try simp only [in64, idxAdd_zero_left, Int.toNat_natCast, fillTo_length, Int.ofNat_lt, Int.ofNat_le, Int.natCast_inj] at *
  all_goals try have hrow := hr.row k
  all_goals try have hrl := hr.len
  all_goals first
    | omega
    | exact ⟨by omega, by omega⟩
    | exact ⟨by omega, trivial⟩
    | (simp [fillTo]; done)
    | exact (fillTo_all ll _ (by omega)).symm
    | exact fillTo_all ll _ (by omega)
    | exact fillTo_set ll _ (by omega) (getD_get (by omega))
theorem eqIntSS_call (a b : List (List Int)) (ha : SmallR a) : ACall Try.prog 47 [.slice ⟨0, 0, 0, 1, 0⟩ a.length, .slice ⟨1, 0, 0, 1, 0⟩ b.length] [.rows true a, .rows true b] (Is (.bool (eqB a b)) [.rows true a, .rows true b]) := by
  refine ACall.walk T Try.func47 Try.ntmps47 Try.results47 rfl rfl rfl (Is.nv _ _) ?_
  repeat' (conv => whnf); first
    | refine AWP.seq ?_
    | refine AWP.reg T rfl ?_
    | refine AWP.drw T none rfl rfl rfl ?_
    | refine AWP.dep T none rfl rfl rfl rfl ?_
    | refine AWP.block ?_
    | refine AWP.condT rfl ?_
    | refine AWP.condF rfl ?_
    | refine AWP.cond rfl (fun hb => ?_) (fun hb => ?_)
    | refine AWP.ret ?_
    | refine AWP.exit ?_
    | refine AWP.skip ?_
    | refine GuardB.t ?_
    | refine GuardB.f ?_
    | refine GuardB.mk (fun hb => ?_) (fun hb => ?_)
    | refine NilQ.mk (fun hb => ?_) ?_
    | refine VC.mk Nat.zero_lt_one ?_
    | refine VC.mk rfl ?_
    | refine AWP.while (ι := Nat) (fun k => St.of [(0, .slice ⟨0, 0, 0, 1, 0⟩ a.length), (1, .slice ⟨1, 0, 0, 1, 0⟩ b.length), (5, .int .i64 k)] [.rows true a, .rows true b]) (fun k => Same a b k) (fun k => a.length - k) 0 ?_
        (Weak.of [0, 1] (.cons rfl rfl (.cons rfl rfl (.cons rfl rfl .nil))) (.cons (.same rfl rfl) (.cons (.same rfl rfl) (.nil _))) rfl) (fun k hk => ?_)
    | refine ACall.row0 (id := 0) rfl ?_
    | refine ACall.row1 (id := 1) rfl ?_
    | refine ACall.useIs [2, 3] (eqIntS_call _ _ ?_) rfl (.cons (.same rfl rfl) (.cons (.same rfl rfl) (.nil _))) rfl ?_
    | refine Ret.bool [0, 1] ?_ (.cons (.same rfl rfl) (.cons (.same rfl rfl) (.nil _))) rfl
    | refine roundEnd (k + 1) ?_ ?_ (Weak.of [0, 1] (.cons rfl rfl (.cons rfl rfl (.cons rfl rfl .nil))) (.cons (.same rfl rfl) (.cons (.same rfl rfl) (.nil _))) rfl)
    | refine VC.mk ?_ ?_
  all_goals try simp only [decide_eq_true_eq, decide_eq_false_iff_not, Bool.not_eq_true', Bool.not_eq_false', cond_true, cond_false, eqB_true, eqB_false] at *
  all_goals try simp only [in64, idxAdd_zero_left, Int.toNat_natCast, fillTo_length, Int.ofNat_lt, Int.ofNat_le, Int.natCast_inj] at *
  all_goals try have hrow := ha.row k
  all_goals try have hrl := ha.len
  all_goals first
    | omega
    | (have := hk.1; have := hk.2.1; omega)
    | exact Same.zero (by omega)
    | (rw [eq_comm, eqB_false]; intro e; subst e; omega)
    | (rw [eq_comm, eqB_true]; exact hk.eq (by omega))
    | (have h1 := hk.1; have h2 : k < a.length := by omega
       have h3 : k < b.length := by omega
       simp only [getD_get h2, getD_get h3] at *
       first
       | exact hk.next h2 h3 (by assumption)
       | (rw [eq_comm, eqB_false]; intro e; subst e; simp_all))
theorem markIntSS_call (ll : List (List Int)) (n : Int) (hr : SmallR ll) (hn : 0 ≤ n ∧ n ≤ 1000000000) : ACall Try.prog 57 [.slice ⟨0, 0, 0, 1, 0⟩ ll.length, .int .i64 n] [.rows false ll] (Is (.int .i64 (n + (totN ll ll.length : Int))) [.rows false (markSS ll n)]) := by
  refine ACall.walk T Try.func57 Try.ntmps57 Try.results57 rfl rfl rfl (Is.nv _ _) ?_
  repeat' (conv => whnf); first
    | refine AWP.seq ?_
    | refine AWP.reg T rfl ?_
    | refine AWP.drw T none rfl rfl rfl ?_
    | refine AWP.dep T none rfl rfl rfl rfl ?_
    | refine AWP.block ?_
    | refine AWP.condT rfl ?_
    | refine AWP.condF rfl ?_
    | refine AWP.cond rfl (fun hb => ?_) (fun hb => ?_)
    | refine AWP.ret ?_
    | refine AWP.exit ?_
    | refine AWP.skip ?_
    | refine GuardB.t ?_
    | refine GuardB.f ?_
    | refine GuardB.mk (fun hb => ?_) (fun hb => ?_)
    | refine NilQ.mk (fun hb => ?_) ?_
    | refine VC.mk Nat.zero_lt_one ?_
    | refine VC.mk rfl ?_
    | refine AWP.while (ι := Nat) (fun k => St.of [(0, .slice ⟨0, 0, 0, 1, 0⟩ ll.length), (1, .int .i64 (n + (totN ll k : Int))), (5, .int .i64 k)] [.rows false (mixTo (markSS ll n) ll k)]) (fun k => k ≤ ll.length) (fun k => ll.length - k) 0 (Nat.zero_le _)
        (Weak.of [0] (.cons rfl rfl (.i rfl ?_ (.cons rfl rfl .nil))) (.cons (.rows (mixTo_zero _ _)) (.nil _)) rfl) (fun k hk => ?_)
    | refine ACall.lendK (id := 0) (i := k) (markIntS_call _ _ ?_ ?_) rfl rfl ?_ rfl ?_ ?_
    | refine Ret.int [0] ?_ (.cons (.rows ?_) (.nil _)) rfl
    | refine roundEnd (k + 1) ?_ ?_ (Weak.of [0] (.cons rfl rfl (.i rfl ?_ (.cons rfl rfl .nil))) (.cons (.rows ?_) (.nil _)) rfl)
    | refine VC.mk ?_ ?_
  all_goals try simp only [decide_eq_true_eq, decide_eq_false_iff_not, Bool.not_eq_true', Bool.not_eq_false', cond_true, cond_false, eqB_true, eqB_false] at *
  all_goals try simp only [in64, idxAdd_zero_left, Int.toNat_natCast, fillTo_length, Int.ofNat_lt, Int.ofNat_le, Int.natCast_inj] at *
  all_goals try have hrow := hr.row k
  all_goals try have hrl := hr.len
  all_goals try have htot := hr.tot
  all_goals try have hmono := totN_mono ll (show k ≤ ll.length by omega)
  all_goals try have ml := mixTo_length (markSS_length ll n) hk
  all_goals try
    have hk3 : k < ll.length := by omega
    have hg3 := mixTo_getD (markSS_length ll n) hk3 []
    simp only [hg3] at *
  all_goals first
    | omega
    | exact ⟨by omega, by omega⟩
    | (rw [totN_zero]; simp; done)
    | (rw [mixTo_getD (markSS_length ll n) (by omega)]; done)
    | (rw [totN_succ]; omega)
    | (have e : k = ll.length := by omega
       subst e
       rfl)
    | exact (mixTo_all (by simp) (by omega)).symm
    | exact mixTo_set (by simp) (by omega) (by rw [markSS_get (by omega)])
    | (simp; done)
    | (rw [mixTo_getD (markSS_length ll n) (by omega)]; simp; done)

theorem szPairing_call (n m : Int) (ll : List (List Int)) (q : Int) (h1 : ll.length ≤ 9223372036854775807) (h2 : 0 ≤ q ∧ q ≤ 1048576) (h3 : ∀ l ∈ ll, l.length ≤ 9223372036854775807) : ACall Try.prog 12 [.agg [.int .i64 n, .int .i64 m, .slice ⟨0, 0, 0, 1, 0⟩ ll.length], .int .i64 q] [.rows true ll] (Is (.int .i64 (leftSS ll q)) [.rows true ll]) := by
  refine ACall.walk T Try.func12 Try.ntmps12 Try.results12 rfl rfl rfl (Is.nv _ _) ?_
  repeat' (conv => whnf); first
    | refine AWP.seq ?_
    | refine AWP.reg T rfl ?_
    | refine AWP.drw T none rfl rfl rfl ?_
    | refine AWP.dep T none rfl rfl rfl rfl ?_
    | refine AWP.block ?_
    | refine AWP.condT rfl ?_
    | refine AWP.condF rfl ?_
    | refine AWP.cond rfl (fun hb => ?_) (fun hb => ?_)
    | refine AWP.ret ?_
    | refine AWP.exit ?_
    | refine AWP.skip ?_
    | refine GuardB.t ?_
    | refine GuardB.f ?_
    | refine GuardB.mk (fun hb => ?_) (fun hb => ?_)
    | refine NilQ.mk (fun hb => ?_) ?_
    | refine VC.mk Nat.zero_lt_one ?_
    | refine VC.mk rfl ?_
    | refine ACall.useIs [0] (szIntSS_call _ _ ?_ ?_ ?_) rfl (.cons (.same rfl rfl) (.nil _)) rfl ?_
    | refine Ret.int [0] ?_ (.cons (.same rfl rfl) (.nil _)) rfl
    | refine VC.mk ?_ ?_
  all_goals try simp only [decide_eq_true_eq, decide_eq_false_iff_not, Bool.not_eq_true', Bool.not_eq_false', cond_true, cond_false, eqB_true, eqB_false] at *
  all_goals try simp only [in64, idxAdd_zero_left, Int.toNat_natCast, fillTo_length, Int.ofNat_lt, Int.ofNat_le, Int.natCast_inj] at *
  all_goals first
    | exact h3
    | omega
    | exact (leftSS_neg h2.2 (by assumption)).symm
    | rfl

theorem toPairing_call (n m : Int) (ll : List (List Int))(hr : SmallR ll) : ACall Try.prog 14 [.agg [.int .i64 n, .int .i64 m, .slice ⟨0, 0, 0, 1, 0⟩ ll.length]] [.rows true ll] (Is (.agg [.int .i64 n, .int .i64 m, .slice ⟨1, 0, 0, 1, 0⟩ ll.length]) [.rows true ll, .rows false ll]) := by
  refine ACall.walk T Try.func14 Try.ntmps14 Try.results14 rfl rfl rfl (Is.nv _ _) ?_
  repeat' (conv => whnf); first
    | refine AWP.seq ?_
    | refine AWP.reg T rfl ?_
    | refine AWP.drw T none rfl rfl rfl ?_
    | refine AWP.dep T none rfl rfl rfl rfl ?_
    | refine AWP.block ?_
    | refine AWP.condT rfl ?_
    | refine AWP.condF rfl ?_
    | refine AWP.cond rfl (fun hb => ?_) (fun hb => ?_)
    | refine AWP.ret ?_
    | refine AWP.exit ?_
    | refine AWP.skip ?_
    | refine GuardB.t ?_
    | refine GuardB.f ?_
    | refine GuardB.mk (fun hb => ?_) (fun hb => ?_)
    | refine NilQ.mk (fun hb => ?_) ?_
    | refine VC.mk Nat.zero_lt_one ?_
    | refine VC.mk rfl ?_
    | refine ACall.useIs [0] (toIntSS_call _ ?_) rfl (.cons (.same rfl rfl) (.nil _)) rfl ?_
    | refine Ret.is [0, 4] rfl (.cons (.same rfl rfl) (.cons (.rows ?_) (.nil _))) rfl
    | refine VC.mk ?_ ?_
  all_goals try simp only [decide_eq_true_eq, decide_eq_false_iff_not, Bool.not_eq_true', Bool.not_eq_false', cond_true, cond_false, eqB_true, eqB_false] at *
  all_goals try simp only [in64, idxAdd_zero_left, Int.toNat_natCast, fillTo_length, Int.ofNat_lt, Int.ofNat_le, Int.natCast_inj] at *
  all_goals first
    | exact hr
    | rfl

theorem eqPairing_call (n m : Int) (ll : List (List Int)) (n2 m2 : Int) (l2 : List (List Int)) (hr : SmallR ll) : ACall Try.prog 16 [.agg [.int .i64 n, .int .i64 m, .slice ⟨0, 0, 0, 1, 0⟩ ll.length], .agg [.int .i64 n2, .int .i64 m2, .slice ⟨1, 0, 0, 1, 0⟩ l2.length]] [.rows true ll, .rows true l2] (Is (.bool (eqB n n2 && eqB m m2 && eqB ll l2)) [.rows true ll, .rows true l2]) := by
  refine ACall.walk T Try.func16 Try.ntmps16 Try.results16 rfl rfl rfl (Is.nv _ _) ?_
  repeat' (conv => whnf); first
    | refine AWP.seq ?_
    | refine AWP.reg T rfl ?_
    | refine AWP.drw T none rfl rfl rfl ?_
    | refine AWP.dep T none rfl rfl rfl rfl ?_
    | refine AWP.block ?_
    | refine AWP.condT rfl ?_
    | refine AWP.condF rfl ?_
    | refine AWP.cond rfl (fun hb => ?_) (fun hb => ?_)
    | refine AWP.ret ?_
    | refine AWP.exit ?_
    | refine AWP.skip ?_
    | refine GuardB.t ?_
    | refine GuardB.f ?_
    | refine GuardB.mk (fun hb => ?_) (fun hb => ?_)
    | refine NilQ.mk (fun hb => ?_) ?_
    | refine VC.mk Nat.zero_lt_one ?_
    | refine VC.mk rfl ?_
    | refine ACall.useIs [0, 1] (eqIntSS_call _ _ ?_) rfl (.cons (.same rfl rfl) (.cons (.same rfl rfl) (.nil _))) rfl ?_
    | refine Ret.bool [0, 1] ?_ (.cons (.same rfl rfl) (.cons (.same rfl rfl) (.nil _))) rfl
    | refine VC.mk ?_ ?_
  all_goals try simp only [decide_eq_true_eq, decide_eq_false_iff_not, Bool.not_eq_true', Bool.not_eq_false', cond_true, cond_false, eqB_true, eqB_false] at *
  all_goals try simp only [in64, idxAdd_zero_left, Int.toNat_natCast, fillTo_length, Int.ofNat_lt, Int.ofNat_le, Int.natCast_inj] at *
  all_goals first
    | exact hr
    | (simp_all [eqB]; done)

theorem specGoodPairing_call (n m : Int) (ll : List (List Int))(hr : SmallR ll) : ACall Try.prog 13 [.agg [.int .i64 n, .int .i64 m, .slice ⟨0, 0, 0, 1, 0⟩ ll.length]] [.rows true ll] (Is (.bool (goodP n m ll)) [.rows true ll]) := by
  refine ACall.walk T Try.func13 Try.ntmps13 Try.results13 rfl rfl rfl (Is.nv _ _) ?_
  repeat' (conv => whnf); first
    | refine AWP.seq ?_
    | refine AWP.reg T rfl ?_
    | refine AWP.drw T none rfl rfl rfl ?_
    | refine AWP.dep T none rfl rfl rfl rfl ?_
    | refine AWP.block ?_
    | refine AWP.condT rfl ?_
    | refine AWP.condF rfl ?_
    | refine AWP.cond rfl (fun hb => ?_) (fun hb => ?_)
    | refine AWP.ret ?_
    | refine AWP.exit ?_
    | refine AWP.skip ?_
    | refine GuardB.t ?_
    | refine GuardB.f ?_
    | refine GuardB.mk (fun hb => ?_) (fun hb => ?_)
    | refine NilQ.mk (fun hb => ?_) ?_
    | refine VC.mk Nat.zero_lt_one ?_
    | refine VC.mk rfl ?_
    | refine AWP.while (ι := Nat) (fun k => St.of [(1, .ptr ⟨1, 0, 0, 3, 0⟩), (6, .slice ⟨0, 0, 0, 1, 0⟩ ll.length), (7, .int .i64 ll.length), (8, .int .i64 k)] [.rows true ll, .arr false (.raw 3) [[.int .i64 n, .int .i64 m, .slice ⟨0, 0, 0, 1, 0⟩ ll.length]]]) (fun k => NoneTo (fun w => !someB w m) ll k) (fun k => ll.length - k) 0 (NoneTo.zero _ _)
        (Weak.of [0, 1] (.cons rfl rfl (.cons rfl rfl (.cons rfl rfl (.cons rfl rfl .nil)))) (.cons (.same rfl rfl) (.cons (.same rfl rfl) (.nil _))) rfl) (fun k hk => ?_)
    | refine ACall.row0 (id := 0) rfl ?_
    | refine ACall.useIs [2] (l1Some_call _ _ ?_) rfl (.cons (.same rfl rfl) (.nil _)) rfl ?_
    | refine ACall.useIs [] (l1In_call _ _ _) rfl (.nil _) rfl ?_
    | refine Ret.bool [0] ?_ (.cons (.same rfl rfl) (.nil _)) rfl
    | refine roundEnd (_ + 1) ?_ ?_ (Weak.of [0, 1] (.cons rfl rfl (.cons rfl rfl (.cons rfl rfl (.cons rfl rfl .nil)))) (.cons (.same rfl rfl) (.cons (.same rfl rfl) (.nil _))) rfl)
    | refine VC.mk ?_ ?_
  all_goals try simp only [decide_eq_true_eq, decide_eq_false_iff_not, Bool.not_eq_true', Bool.not_eq_false', cond_true, cond_false, eqB_true, eqB_false] at *
  all_goals try simp only [in64, idxAdd_zero_left, Int.toNat_natCast, fillTo_length, Int.ofNat_lt, Int.ofNat_le, Int.natCast_inj] at *
  all_goals try have hrow := hr.row k
  all_goals try have hrl := hr.len
  all_goals first
    | omega
    | exact hrow
    | exact hr
    | (have := hk.1; omega)
    | (have h2 : k < ll.length := by omega
       simp only [getD_get h2] at *
       first
       | exact hk.next h2 (by simp_all)
       | (have h3 : (ll.any (fun w => !someB w m)) = true := any_here h2 (by simp_all)
          simp [goodP, h3]; done))
    | (have h3 := hk.any (by omega)
       simp_all [goodP]; done)
    | (have h3 := hk.any (by omega)
       simp_all [goodP]; omega)

theorem badRow_call (n m : Int) (ll : List (List Int)) (w : List Int) (hw : w.length ≤ 1048576) : ACall Try.prog 45 [.slice ⟨2, 0, 0, 1, 0⟩ w.length, .ptr ⟨1, 0, 0, 3, 0⟩] [.rows true ll, .arr true (.raw 3) [[.int .i64 n, .int .i64 m, .slice ⟨0, 0, 0, 1, 0⟩ ll.length]], .arr true .int w] (Is (.bool (!someB w m)) [.rows true ll, .arr true (.raw 3) [[.int .i64 n, .int .i64 m, .slice ⟨0, 0, 0, 1, 0⟩ ll.length]], .arr true .int w]) := by
  refine ACall.walk T Try.func45 Try.ntmps45 Try.results45 rfl rfl rfl (Is.nv _ _) ?_
  repeat' (conv => whnf); first
    | refine AWP.seq ?_
    | refine AWP.reg T rfl ?_
    | refine AWP.drw T none rfl rfl rfl ?_
    | refine AWP.dep T none rfl rfl rfl rfl ?_
    | refine AWP.block ?_
    | refine AWP.condT rfl ?_
    | refine AWP.condF rfl ?_
    | refine AWP.cond rfl (fun hb => ?_) (fun hb => ?_)
    | refine AWP.ret ?_
    | refine AWP.exit ?_
    | refine AWP.skip ?_
    | refine GuardB.t ?_
    | refine GuardB.f ?_
    | refine GuardB.mk (fun hb => ?_) (fun hb => ?_)
    | refine NilQ.mk (fun hb => ?_) ?_
    | refine VC.mk Nat.zero_lt_one ?_
    | refine VC.mk rfl ?_
    | refine ACall.useIs [2] (rise_call _ _ ?_) rfl (.cons (.same rfl rfl) (.nil _)) rfl ?_
    | refine Ret.bool [0, 1, 2] ?_ (.cons (.same rfl rfl) (.cons (.same rfl rfl) (.cons (.same rfl rfl) (.nil _)))) rfl
    | refine VC.mk ?_ ?_
  all_goals try simp only [decide_eq_true_eq, decide_eq_false_iff_not, Bool.not_eq_true', Bool.not_eq_false', cond_true, cond_false, eqB_true, eqB_false] at *
  all_goals try simp only [in64, idxAdd_zero_left, Int.toNat_natCast, fillTo_length, Int.ofNat_lt, Int.ofNat_le, Int.natCast_inj] at *
  all_goals first
    | exact hw
    | rfl

theorem idxBadRow_call (n m : Int) (ll : List (List Int))(hr : SmallR ll) : ACall Try.prog 72 [.slice ⟨0, 0, 0, 1, 0⟩ ll.length, .func 45 [.ptr ⟨1, 0, 0, 3, 0⟩]] [.rows true ll, .arr true (.raw 3) [[.int .i64 n, .int .i64 m, .slice ⟨0, 0, 0, 1, 0⟩ ll.length]]] (Is (.int .i64 (idxF (fun w => !someB w m) ll)) [.rows true ll, .arr true (.raw 3) [[.int .i64 n, .int .i64 m, .slice ⟨0, 0, 0, 1, 0⟩ ll.length]]]) := by
  refine ACall.walk T Try.func72 Try.ntmps72 Try.results72 rfl rfl rfl (Is.nv _ _) ?_
  repeat' (conv => whnf); first
    | refine AWP.seq ?_
    | refine AWP.reg T rfl ?_
    | refine AWP.drw T none rfl rfl rfl ?_
    | refine AWP.dep T none rfl rfl rfl rfl ?_
    | refine AWP.block ?_
    | refine AWP.condT rfl ?_
    | refine AWP.condF rfl ?_
    | refine AWP.cond rfl (fun hb => ?_) (fun hb => ?_)
    | refine AWP.ret ?_
    | refine AWP.exit ?_
    | refine AWP.skip ?_
    | refine GuardB.t ?_
    | refine GuardB.f ?_
    | refine GuardB.mk (fun hb => ?_) (fun hb => ?_)
    | refine NilQ.mk (fun hb => ?_) ?_
    | refine VC.mk Nat.zero_lt_one ?_
    | refine VC.mk rfl ?_
    | refine AWP.while (ι := Nat) (fun k => St.of [(0, .slice ⟨0, 0, 0, 1, 0⟩ ll.length), (1, .func 45 [.ptr ⟨1, 0, 0, 3, 0⟩]), (7, .int .i64 ll.length), (8, .int .i64 k)] [.rows true ll, .arr true (.raw 3) [[.int .i64 n, .int .i64 m, .slice ⟨0, 0, 0, 1, 0⟩ ll.length]]]) (fun k => NoneTo (fun w => !someB w m) ll k) (fun k => ll.length - k) 0 (NoneTo.zero _ _)
        (Weak.of [0, 1] (.cons rfl rfl (.cons rfl rfl (.cons rfl rfl (.cons rfl rfl .nil)))) (.cons (.same rfl rfl) (.cons (.same rfl rfl) (.nil _))) rfl) (fun k hk => ?_)
    | refine ACall.row0 (id := 0) rfl ?_
    | refine ACall.useIs [0, 1, 2] (badRow_call _ _ _ _ ?_) rfl (.cons (.same rfl rfl) (.cons (.same rfl rfl) (.cons (.same rfl rfl) (.nil _)))) rfl ?_
    | refine Ret.int [0, 1] ?_ (.cons (.same rfl rfl) (.cons (.same rfl rfl) (.nil _))) rfl
    | refine roundEnd (_ + 1) ?_ ?_ (Weak.of [0, 1] (.cons rfl rfl (.cons rfl rfl (.cons rfl rfl (.cons rfl rfl .nil)))) (.cons (.same rfl rfl) (.cons (.same rfl rfl) (.nil _))) rfl)
    | refine VC.mk ?_ ?_
  all_goals try simp only [decide_eq_true_eq, decide_eq_false_iff_not, Bool.not_eq_true', Bool.not_eq_false', cond_true, cond_false, eqB_true, eqB_false] at *
  all_goals try simp only [in64, idxAdd_zero_left, Int.toNat_natCast, fillTo_length, Int.ofNat_lt, Int.ofNat_le, Int.natCast_inj] at *
  all_goals try have hrow := hr.row k
  all_goals try have hrl := hr.len
  all_goals first
    | omega
    | exact hrow
    | (have := hk.1; omega)
    | exact idxF_none (fun j hj => hk.2 j hj (by omega))
    | (have h2 : k < ll.length := by omega
       simp only [getD_get h2] at *
       first
       | exact hk.next h2 (by simp_all)
       | exact idxF_here h2 (fun j hj => hk.2 j (by omega) hj) (by simp_all))

theorem anyBadRow_call (n m : Int) (ll : List (List Int))(hr : SmallR ll) : ACall Try.prog 44 [.slice ⟨0, 0, 0, 1, 0⟩ ll.length, .func 45 [.ptr ⟨1, 0, 0, 3, 0⟩]] [.rows true ll, .arr true (.raw 3) [[.int .i64 n, .int .i64 m, .slice ⟨0, 0, 0, 1, 0⟩ ll.length]]] (Is (.bool (ll.any (fun w => !someB w m))) [.rows true ll, .arr true (.raw 3) [[.int .i64 n, .int .i64 m, .slice ⟨0, 0, 0, 1, 0⟩ ll.length]]]) := by
  refine ACall.walk T Try.func44 Try.ntmps44 Try.results44 rfl rfl rfl (Is.nv _ _) ?_
  repeat' (conv => whnf); first
    | refine AWP.seq ?_
    | refine AWP.reg T rfl ?_
    | refine AWP.drw T none rfl rfl rfl ?_
    | refine AWP.dep T none rfl rfl rfl rfl ?_
    | refine AWP.block ?_
    | refine AWP.condT rfl ?_
    | refine AWP.condF rfl ?_
    | refine AWP.cond rfl (fun hb => ?_) (fun hb => ?_)
    | refine AWP.ret ?_
    | refine AWP.exit ?_
    | refine AWP.skip ?_
    | refine GuardB.t ?_
    | refine GuardB.f ?_
    | refine GuardB.mk (fun hb => ?_) (fun hb => ?_)
    | refine NilQ.mk (fun hb => ?_) ?_
    | refine VC.mk Nat.zero_lt_one ?_
    | refine VC.mk rfl ?_
    | refine ACall.useIs [0, 1] (idxBadRow_call _ _ _ ?_) rfl (.cons (.same rfl rfl) (.cons (.same rfl rfl) (.nil _))) rfl ?_
    | refine Ret.bool [0, 1] ?_ (.cons (.same rfl rfl) (.cons (.same rfl rfl) (.nil _))) rfl
    | refine VC.mk ?_ ?_
  all_goals first | exact idxF_any _ _ | exact hr

theorem implGoodPairing_call (n m : Int) (ll : List (List Int))(hr : SmallR ll) : ACall Try.prog 15 [.agg [.int .i64 n, .int .i64 m, .slice ⟨0, 0, 0, 1, 0⟩ ll.length]] [.rows true ll] (Is (.bool (goodP n m ll)) [.rows true ll]) := by
  refine ACall.walk T Try.func15 Try.ntmps15 Try.results15 rfl rfl rfl (Is.nv _ _) ?_
  repeat' (conv => whnf); first
    | refine AWP.seq ?_
    | refine AWP.reg T rfl ?_
    | refine AWP.drw T none rfl rfl rfl ?_
    | refine AWP.dep T none rfl rfl rfl rfl ?_
    | refine AWP.block ?_
    | refine AWP.condT rfl ?_
    | refine AWP.condF rfl ?_
    | refine AWP.cond rfl (fun hb => ?_) (fun hb => ?_)
    | refine AWP.ret ?_
    | refine AWP.exit ?_
    | refine AWP.skip ?_
    | refine GuardB.t ?_
    | refine GuardB.f ?_
    | refine GuardB.mk (fun hb => ?_) (fun hb => ?_)
    | refine NilQ.mk (fun hb => ?_) ?_
    | refine VC.mk Nat.zero_lt_one ?_
    | refine VC.mk rfl ?_
    | refine ACall.useIs [] (within_call _ _ _) rfl (.nil _) rfl ?_
    | refine ACall.useIs [0, 1] (anyBadRow_call _ _ _ ?_) rfl (.cons (.same rfl rfl) (.cons (.ro rfl rfl) (.nil _))) rfl ?_
    | refine Ret.bool [0] ?_ (.cons (.same rfl rfl) (.nil _)) rfl
    | refine VC.mk ?_ ?_
  all_goals try simp only [decide_eq_true_eq, decide_eq_false_iff_not, Bool.not_eq_true', Bool.not_eq_false', cond_true, cond_false, eqB_true, eqB_false] at *
  all_goals try simp only [in64, idxAdd_zero_left, Int.toNat_natCast, fillTo_length, Int.ofNat_lt, Int.ofNat_le, Int.natCast_inj] at *
  all_goals first
    | exact hr
    | (simp [goodP]; done)
    | (simp_all [goodP]; done)

theorem lawGoodPairing_call (n m : Int) (ll : List (List Int)) (h1 : ll.length ≤ 9223372036854775807) (h3 : ∀ l ∈ ll, l.length ≤ 9223372036854775807) : ACall Try.prog 3 [.agg [.int .i64 n, .int .i64 m, .slice ⟨0, 0, 0, 1, 0⟩ ll.length]] [.rows true ll] (Is (.bool true) [.rows true ll]) := by
  refine ACall.walk T Try.func3 Try.ntmps3 Try.results3 rfl rfl rfl (Is.nv _ _) ?_
  repeat' (conv => whnf); first
    | refine AWP.seq ?_
    | refine AWP.reg T rfl ?_
    | refine AWP.drw T none rfl rfl rfl ?_
    | refine AWP.dep T none rfl rfl rfl rfl ?_
    | refine AWP.block ?_
    | refine AWP.condT rfl ?_
    | refine AWP.condF rfl ?_
    | refine AWP.cond rfl (fun hb => ?_) (fun hb => ?_)
    | refine AWP.ret ?_
    | refine AWP.exit ?_
    | refine AWP.skip ?_
    | refine GuardB.t ?_
    | refine GuardB.f ?_
    | refine GuardB.mk (fun hb => ?_) (fun hb => ?_)
    | refine NilQ.mk (fun hb => ?_) ?_
    | refine VC.mk Nat.zero_lt_one ?_
    | refine VC.mk rfl ?_
    | refine AWP.drw T (some [1, 4]) rfl rfl rfl ?_
    | refine ACall.useIs [0] (szPairing_call _ _ _ _ ?_ ?_ ?_) rfl (.cons (.same rfl rfl) (.nil _)) rfl ?_
    | refine ACall.useIs [0] (toPairing_call _ _ _ ?_) rfl (.cons (.same rfl rfl) (.nil _)) rfl ?_
    | refine ACall.useIs [2] (specGoodPairing_call _ _ _ ?_) rfl (.cons (.ro rfl rfl) (.nil _)) rfl ?_
    | refine ACall.useIs [3] (implGoodPairing_call _ _ _ ?_) rfl (.cons (.ro rfl rfl) (.nil _)) rfl ?_
    | refine ACall.useIs [3, 5] (eqPairing_call _ _ _ _ _ _ ?_) rfl (.cons (.ro rfl rfl) (.cons (.ro rfl rfl) (.nil _))) rfl ?_
    | refine Ret.bool [0] ?_ (.cons (.same rfl rfl) (.nil _)) rfl
    | refine VC.mk ?_ ?_
  all_goals try simp only [decide_eq_true_eq, decide_eq_false_iff_not, Bool.not_eq_true', Bool.not_eq_false', cond_true, cond_false, eqB_true, eqB_false] at *
  all_goals try simp only [in64, idxAdd_zero_left, Int.toNat_natCast, fillTo_length, Int.ofNat_lt, Int.ofNat_le, Int.natCast_inj] at *
  all_goals try
    have hsm : SmallR ll := SmallR.of (n := 1048576) (by omega) (by assumption)
  all_goals first
    | rfl
    | omega
    | exact h3
    | exact hsm
    | exact ⟨rfl, rfl, trivial⟩
    | (simp_all [eqB]; done)

end YtofjbgpaofcpjaaAM
