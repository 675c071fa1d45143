/- Contracts of functions of this seat. -/
import Derived.Test.YtofjbgpaofcpjaaAmTabPairs
import Derived.Test.YtofjbgpaofcpjaaAmModels
import Derived.Test.YtofjbgpaofcpjaaAmPairs3
set_option linter.unusedVariables false
set_option linter.unusedSimpArgs false
set_option maxRecDepth 100000
namespace YtofjbgpaofcpjaaAM
open Go Go.Proofs

theorem specIsMatch_call (n m : Int) (ll : List (List Int)) (mt : List Int) (hr : SmallR ll) (hm : mt.length ≤ 1048576) : ACall Try.prog 21 [.agg [.int .i64 n, .int .i64 m, .slice ⟨0, 0, 0, 1, 0⟩ ll.length], .slice ⟨1, 0, 0, 1, 0⟩ mt.length] [.rows true ll, .arr true .int mt] (Is (.tuple [.bool (isMatch n m ll mt), .bool (matchOk n m ll mt)]) [.rows true ll, .arr true .int mt]) := by
  refine ACall.walk T Try.func21 Try.ntmps21 Try.results21 rfl rfl rfl (Is.nv _ _) ?_
  repeat' (conv => whnf); first
    | refine AWP.seq ?_
    | refine AWP.reg T rfl ?_
    | refine AWP.drw T none rfl rfl rfl ?_
    | refine AWP.dep T none rfl rfl rfl rfl ?_
    | refine AWP.block ?_
    | refine AWP.condT rfl ?_
    | refine AWP.condF rfl ?_
    | refine AWP.cond rfl (fun hb => ?_) (fun hb => ?_)
    | refine AWP.ret ?_
    | refine AWP.exit ?_
    | refine AWP.skip ?_
    | refine GuardB.t ?_
    | refine GuardB.f ?_
    | refine GuardB.mk (fun hb => ?_) (fun hb => ?_)
    | refine NilQ.mk (fun hb => ?_) ?_
    | refine VC.mk Nat.zero_lt_one ?_
    | refine VC.mk rfl ?_
    | refine ACall.useIs [0] (specGoodPairing_call _ _ _ ?_) rfl (.cons (.same rfl rfl) (.nil _)) rfl ?_
    | refine ACall.useIs [0, 1] (l10Is_call _ _ _ _ ?_ ?_ ?_ ?_) rfl (.cons (.same rfl rfl) (.cons (.same rfl rfl) (.nil _))) rfl ?_
    | refine Ret.bb [0, 1] ?_ ?_ (.cons (.same rfl rfl) (.cons (.same rfl rfl) (.nil _))) rfl
    | refine VC.mk ?_ ?_
  all_goals try simp only [decide_eq_true_eq, decide_eq_false_iff_not, Bool.not_eq_true', Bool.not_eq_false', cond_true, cond_false, eqB_true, eqB_false] at *
  all_goals try simp only [in64, idxAdd_zero_left, Int.toNat_natCast, fillTo_length, Int.ofNat_lt, Int.ofNat_le, Int.natCast_inj] at *
  all_goals try
    have hg : goodP n m ll = true := by assumption
    have hgl := goodP_len hg
  all_goals first
    | omega
    | exact hr
    | exact hm
    | (simp_all [isMatch, matchOk]; done)
    | (simp_all [isMatch, matchOk]; omega)

theorem implIsMatch_call (n m : Int) (ll : List (List Int)) (mt : List Int) (hr : SmallR ll) (hm : mt.length ≤ 1048576) : ACall Try.prog 22 [.agg [.int .i64 n, .int .i64 m, .slice ⟨0, 0, 0, 1, 0⟩ ll.length], .slice ⟨1, 0, 0, 1, 0⟩ mt.length] [.rows true ll, .arr true .int mt] (Is (.tuple [.bool (isMatch n m ll mt), .bool (matchOk n m ll mt)]) [.rows true ll, .arr true .int mt]) := by
  refine ACall.walk T Try.func22 Try.ntmps22 Try.results22 rfl rfl rfl (Is.nv _ _) ?_
  repeat' (conv => whnf); first
    | refine AWP.seq ?_
    | refine AWP.reg T rfl ?_
    | refine AWP.drw T none rfl rfl rfl ?_
    | refine AWP.dep T none rfl rfl rfl rfl ?_
    | refine AWP.block ?_
    | refine AWP.condT rfl ?_
    | refine AWP.condF rfl ?_
    | refine AWP.cond rfl (fun hb => ?_) (fun hb => ?_)
    | refine AWP.ret ?_
    | refine AWP.exit ?_
    | refine AWP.skip ?_
    | refine GuardB.t ?_
    | refine GuardB.f ?_
    | refine GuardB.mk (fun hb => ?_) (fun hb => ?_)
    | refine NilQ.mk (fun hb => ?_) ?_
    | refine VC.mk Nat.zero_lt_one ?_
    | refine VC.mk rfl ?_
    | refine ACall.useIs [0] (implGoodPairing_call _ _ _ ?_) rfl (.cons (.same rfl rfl) (.nil _)) rfl ?_
    | refine ACall.useIs [0, 1] (isMatch_call _ _ _ _ ?_ ?_ ?_ ?_) rfl (.cons (.same rfl rfl) (.cons (.same rfl rfl) (.nil _))) rfl ?_
    | refine Ret.bb [0, 1] ?_ ?_ (.cons (.same rfl rfl) (.cons (.same rfl rfl) (.nil _))) rfl
    | refine VC.mk ?_ ?_
  all_goals try simp only [decide_eq_true_eq, decide_eq_false_iff_not, Bool.not_eq_true', Bool.not_eq_false', cond_true, cond_false, eqB_true, eqB_false] at *
  all_goals try simp only [in64, idxAdd_zero_left, Int.toNat_natCast, fillTo_length, Int.ofNat_lt, Int.ofNat_le, Int.natCast_inj] at *
  all_goals try
    have hg : goodP n m ll = true := by assumption
    have hgl := goodP_len hg
  all_goals first
    | omega
    | exact hr
    | exact hm
    | (simp_all [isMatch, matchOk]; done)
    | (simp_all [isMatch, matchOk]; omega)

theorem lawIsCover_call (n m : Int) (ll : List (List Int)) (lf rt : List Int) (h1 : ll.length ≤ 9223372036854775807) (h3 : ∀ l ∈ ll, l.length ≤ 9223372036854775807) (hl : lf.length ≤ 9223372036854775807) (ht : rt.length ≤ 9223372036854775807) : ACall Try.prog 4 [.agg [.int .i64 n, .int .i64 m, .slice ⟨0, 0, 0, 1, 0⟩ ll.length], .slice ⟨1, 0, 0, 1, 0⟩ lf.length, .slice ⟨2, 0, 0, 1, 0⟩ rt.length] [.rows true ll, .arr true .int lf, .arr true .int rt] (Is (.bool true) [.rows true ll, .arr true .int lf, .arr true .int rt]) := by
  refine ACall.walk T Try.func4 Try.ntmps4 Try.results4 rfl rfl rfl (Is.nv _ _) ?_
  repeat' (conv => whnf); first
    | refine AWP.seq ?_
    | refine AWP.reg T rfl ?_
    | refine AWP.drw T none rfl rfl rfl ?_
    | refine AWP.dep T none rfl rfl rfl rfl ?_
    | refine AWP.block ?_
    | refine AWP.condT rfl ?_
    | refine AWP.condF rfl ?_
    | refine AWP.cond rfl (fun hb => ?_) (fun hb => ?_)
    | refine AWP.ret ?_
    | refine AWP.exit ?_
    | refine AWP.skip ?_
    | refine GuardB.t ?_
    | refine GuardB.f ?_
    | refine GuardB.mk (fun hb => ?_) (fun hb => ?_)
    | refine NilQ.mk (fun hb => ?_) ?_
    | refine VC.mk Nat.zero_lt_one ?_
    | refine VC.mk rfl ?_
    | refine AWP.drw T (some [3, 8]) rfl rfl rfl ?_
    | refine ACall.useIs [0] (szPairing_call _ _ _ _ ?_ ?_ ?_) rfl (.cons (.same rfl rfl) (.nil _)) rfl ?_
    | refine ACall.useIs [0] (toPairing_call _ _ _ ?_) rfl (.cons (.same rfl rfl) (.nil _)) rfl ?_
    | refine ACall.useIs [1] (toIntS_call _ ?_) rfl (.cons (.same rfl rfl) (.nil _)) rfl ?_
    | refine ACall.useIs [2] (toIntS_call _ ?_) rfl (.cons (.same rfl rfl) (.nil _)) rfl ?_
    | refine ACall.useIs [4, 5, 6] (specIsCover_call _ _ _ _ _ ?_ ?_ ?_) rfl (.cons (.ro rfl rfl) (.cons (.ro rfl rfl) (.cons (.ro rfl rfl) (.nil _)))) rfl ?_
    | refine ACall.useIs [7, 9, 10] (implIsCover_call _ _ _ _ _ ?_ ?_ ?_) rfl (.cons (.ro rfl rfl) (.cons (.ro rfl rfl) (.cons (.ro rfl rfl) (.nil _)))) rfl ?_
    | refine ACall.useIs [7, 11] (eqPairing_call _ _ _ _ _ _ ?_) rfl (.cons (.ro rfl rfl) (.cons (.ro rfl rfl) (.nil _))) rfl ?_
    | refine ACall.useIs [9, 12] (eqIntS_call _ _ ?_) rfl (.cons (.ro rfl rfl) (.cons (.ro rfl rfl) (.nil _))) rfl ?_
    | refine ACall.useIs [10, 13] (eqIntS_call _ _ ?_) rfl (.cons (.ro rfl rfl) (.cons (.ro rfl rfl) (.nil _))) rfl ?_
    | refine Ret.bool [0, 1, 2] ?_ (.cons (.same rfl rfl) (.cons (.same rfl rfl) (.cons (.same rfl rfl) (.nil _)))) rfl
    | refine VC.mk ?_ ?_
  all_goals try simp only [decide_eq_true_eq, decide_eq_false_iff_not, Bool.not_eq_true', Bool.not_eq_false', cond_true, cond_false, eqB_true, eqB_false] at *
  all_goals try simp only [in64, idxAdd_zero_left, Int.toNat_natCast, fillTo_length, Int.ofNat_lt, Int.ofNat_le, Int.natCast_inj] at *
  all_goals try
    have hsm : SmallR ll := SmallR.of (n := 1048576) (by omega) (by assumption)
  all_goals first
    | rfl
    | omega
    | exact h3
    | exact hsm
    | exact ⟨rfl, rfl, trivial⟩
    | (simp_all [eqB]; done)

theorem lawIsMatch_call (n m : Int) (ll : List (List Int)) (mt : List Int) (h1 : ll.length ≤ 9223372036854775807) (h3 : ∀ l ∈ ll, l.length ≤ 9223372036854775807) (hm : mt.length ≤ 9223372036854775807) : ACall Try.prog 5 [.agg [.int .i64 n, .int .i64 m, .slice ⟨0, 0, 0, 1, 0⟩ ll.length], .slice ⟨1, 0, 0, 1, 0⟩ mt.length] [.rows true ll, .arr true .int mt] (Is (.bool true) [.rows true ll, .arr true .int mt]) := by
  refine ACall.walk T Try.func5 Try.ntmps5 Try.results5 rfl rfl rfl (Is.nv _ _) ?_
  repeat' (conv => whnf); first
    | refine AWP.seq ?_
    | refine AWP.reg T rfl ?_
    | refine AWP.drw T none rfl rfl rfl ?_
    | refine AWP.dep T none rfl rfl rfl rfl ?_
    | refine AWP.block ?_
    | refine AWP.condT rfl ?_
    | refine AWP.condF rfl ?_
    | refine AWP.cond rfl (fun hb => ?_) (fun hb => ?_)
    | refine AWP.ret ?_
    | refine AWP.exit ?_
    | refine AWP.skip ?_
    | refine GuardB.t ?_
    | refine GuardB.f ?_
    | refine GuardB.mk (fun hb => ?_) (fun hb => ?_)
    | refine NilQ.mk (fun hb => ?_) ?_
    | refine VC.mk Nat.zero_lt_one ?_
    | refine VC.mk rfl ?_
    | refine AWP.drw T (some [2, 6]) rfl rfl rfl ?_
    | refine ACall.useIs [0] (szPairing_call _ _ _ _ ?_ ?_ ?_) rfl (.cons (.same rfl rfl) (.nil _)) rfl ?_
    | refine ACall.useIs [0] (toPairing_call _ _ _ ?_) rfl (.cons (.same rfl rfl) (.nil _)) rfl ?_
    | refine ACall.useIs [1] (toIntS_call _ ?_) rfl (.cons (.same rfl rfl) (.nil _)) rfl ?_
    | refine ACall.useIs [3, 4] (specIsMatch_call _ _ _ _ ?_ ?_) rfl (.cons (.ro rfl rfl) (.cons (.ro rfl rfl) (.nil _))) rfl ?_
    | refine ACall.useIs [5, 7] (implIsMatch_call _ _ _ _ ?_ ?_) rfl (.cons (.ro rfl rfl) (.cons (.ro rfl rfl) (.nil _))) rfl ?_
    | refine ACall.useIs [5, 8] (eqPairing_call _ _ _ _ _ _ ?_) rfl (.cons (.ro rfl rfl) (.cons (.ro rfl rfl) (.nil _))) rfl ?_
    | refine ACall.useIs [7, 9] (eqIntS_call _ _ ?_) rfl (.cons (.ro rfl rfl) (.cons (.ro rfl rfl) (.nil _))) rfl ?_
    | refine Ret.bool [0, 1] ?_ (.cons (.same rfl rfl) (.cons (.same rfl rfl) (.nil _))) rfl
    | refine VC.mk ?_ ?_
  all_goals try simp only [decide_eq_true_eq, decide_eq_false_iff_not, Bool.not_eq_true', Bool.not_eq_false', cond_true, cond_false, eqB_true, eqB_false] at *
  all_goals try simp only [in64, idxAdd_zero_left, Int.toNat_natCast, fillTo_length, Int.ofNat_lt, Int.ofNat_le, Int.natCast_inj] at *
  all_goals try
    have hsm : SmallR ll := SmallR.of (n := 1048576) (by omega) (by assumption)
  all_goals first
    | rfl
    | omega
    | exact h3
    | exact hsm
    | exact ⟨rfl, rfl, trivial⟩
    | (simp_all [eqB]; done)

end YtofjbgpaofcpjaaAM
