/- Contracts of functions of this seat. -/
import Derived.Test.YtafalojjbghlhaaAmTabLinks
import Derived.Test.YtafalojjbghlhaaAmModels
import Derived.Test.YtafalojjbghlhaaAmLinkModels
import Derived.Test.YtafalojjbghlhaaAmLinks2
import Derived.Test.YtafalojjbghlhaaAmPipeModels
set_option linter.unusedVariables false
set_option linter.unusedSimpArgs false
set_option maxRecDepth 100000
namespace YtafalojjbghlhaaAM
open Go Go.Proofs

theorem specGoodPipes_call (l : List S3) (hl : l.length ≤ 1048576) : ACall Try.prog 108 [.slice ⟨0, 0, 0, 3, 0⟩ l.length] [.arr true .s3 l] (Is (.bool (goodPipes l)) [.arr true .s3 l]) := by
  refine ACall.walk T Try.func108 Try.ntmps108 Try.results108 rfl rfl rfl (Is.nv _ _) ?_
  repeat' (conv => whnf); first
    | refine AWP.seq ?_
    | refine AWP.reg T rfl ?_
    | refine AWP.drw T none rfl rfl rfl ?_
    | refine AWP.dep T none rfl rfl rfl rfl ?_
    | refine AWP.block ?_
    | refine AWP.condT rfl ?_
    | refine AWP.condF rfl ?_
    | refine AWP.cond rfl (fun hb => ?_) (fun hb => ?_)
    | refine AWP.ret ?_
    | refine AWP.exit ?_
    | refine AWP.skip ?_
    | refine GuardB.t ?_
    | refine GuardB.f ?_
    | refine GuardB.mk (fun hb => ?_) (fun hb => ?_)
    | refine NilQ.mk (fun hb => ?_) ?_
    | refine VC.mk Nat.zero_lt_one ?_
    | refine VC.mk rfl ?_
    | refine AWP.while (ι := Nat) (fun k => St.of [(0, .slice ⟨0, 0, 0, 3, 0⟩ l.length), (5, .slice ⟨0, 0, 0, 3, 0⟩ l.length), (6, .int .i64 l.length), (7, .int .i64 k)] [.arr true .s3 l]) (fun k => NoneTo (fun r => !goodPipe r) l k) (fun k => l.length - k) 0 (NoneTo.zero _ _)
        (Weak.of [0] (.cons rfl rfl (.cons rfl rfl (.cons rfl rfl (.cons rfl rfl .nil)))) (.cons (.same rfl rfl) (.nil _)) rfl) (fun k hk => ?_)
    | refine ACall.useIs [] (l6Node_call _) rfl (.nil _) rfl ?_
    | refine ACall.useIs [] (l1In_call _ _ _) rfl (.nil _) rfl ?_
    | refine Ret.bool [0] ?_ (.cons (.same rfl rfl) (.nil _)) rfl
    | refine roundEnd (_ + 1) ?_ ?_ (Weak.of [0] (.cons rfl rfl (.cons rfl rfl (.cons rfl rfl (.cons rfl rfl .nil)))) (.cons (.same rfl rfl) (.nil _)) rfl)
    | refine VC.mk ?_ ?_
  all_goals try simp only [decide_eq_true_eq, decide_eq_false_iff_not, Bool.not_eq_true', Bool.not_eq_false', cond_true, cond_false, eqB_true, eqB_false] at *
  all_goals try simp only [in64, idxAdd_zero_left, Int.toNat_natCast, fillTo_length, Int.ofNat_lt, Int.ofNat_le, Int.natCast_inj] at *
  all_goals first
    | omega
    | (have := hk.1; omega)
    | (have h2 : k < l.length := by omega
       simp only [getD_get h2] at *
       first
       | exact hk.next h2 (by grind [goodPipe])
       | (have h3 : (l.any (fun r => !goodPipe r)) = true := any_here h2 (by grind [goodPipe])
          grind [goodPipes]))
    | (have h3 := hk.any (by omega)
       grind [goodPipes])

theorem l8Out_call (l : List S3) (fl : List Int) (n : Int) (hg : goodPipes l = true) (hlen : fl.length = l.length) (hc : AllTo (capB l fl) l.length l.length) : ACall Try.prog 56 [.slice ⟨0, 0, 0, 3, 0⟩ l.length, .slice ⟨1, 0, 0, 1, 0⟩ fl.length, .int .i64 n] [.arr true .s3 l, .arr true .int fl] (Is (.int .i64 (outM l fl n)) [.arr true .s3 l, .arr true .int fl]) := by
  refine ACall.walk T Try.func56 Try.ntmps56 Try.results56 rfl rfl rfl (Is.nv _ _) ?_
  repeat' (conv => whnf); first
    | refine AWP.seq ?_
    | refine AWP.reg T rfl ?_
    | refine AWP.drw T none rfl rfl rfl ?_
    | refine AWP.dep T none rfl rfl rfl rfl ?_
    | refine AWP.block ?_
    | refine AWP.condT rfl ?_
    | refine AWP.condF rfl ?_
    | refine AWP.cond rfl (fun hb => ?_) (fun hb => ?_)
    | refine AWP.ret ?_
    | refine AWP.exit ?_
    | refine AWP.skip ?_
    | refine GuardB.t ?_
    | refine GuardB.f ?_
    | refine GuardB.mk (fun hb => ?_) (fun hb => ?_)
    | refine NilQ.mk (fun hb => ?_) ?_
    | refine VC.mk Nat.zero_lt_one ?_
    | refine VC.mk rfl ?_
    | refine AWP.while (ι := Nat) (fun k => St.of [(1, .slice ⟨1, 0, 0, 1, 0⟩ fl.length), (2, .int .i64 n), (7, .int .i64 (outN l fl n k)), (10, .slice ⟨0, 0, 0, 3, 0⟩ l.length), (11, .int .i64 l.length), (12, .int .i64 k)] [.arr true .s3 l, .arr true .int fl]) (fun k => k ≤ l.length) (fun k => l.length - k) 0 (Nat.zero_le _)
        (Weak.of [0, 1] (.cons rfl rfl (.cons rfl rfl (.cons rfl rfl (.cons rfl rfl (.cons rfl rfl (.cons rfl rfl .nil)))))) (.cons (.same rfl rfl) (.cons (.same rfl rfl) (.nil _))) rfl) (fun k hk => ?_)
    | refine Ret.int [0, 1] ?_ (.cons (.same rfl rfl) (.cons (.same rfl rfl) (.nil _))) rfl
    | refine roundEnd (k + 1) ?_ ?_ (Weak.of [0, 1] (.cons rfl rfl (.cons rfl rfl (.i rfl ?_ (.cons rfl rfl (.cons rfl rfl (.cons rfl rfl .nil)))))) (.cons (.same rfl rfl) (.cons (.same rfl rfl) (.nil _))) rfl)
    | refine VC.mk ?_ ?_
  all_goals try simp only [decide_eq_true_eq, decide_eq_false_iff_not, Bool.not_eq_true', Bool.not_eq_false', cond_true, cond_false, eqB_true, eqB_false] at *
  all_goals try simp only [in64, idxAdd_zero_left, Int.toNat_natCast, fillTo_length, Int.ofNat_lt, Int.ofNat_le, Int.natCast_inj] at *
  all_goals try
    have h2 : k < l.length := by omega
    have gp := goodPipes_at hg h2
    have hcap := capB_iff.1 (hc.2 k h2)
    have rg := out_range hg n k ⟨by omega, fun j hj => hc.2 j (by omega)⟩
    have hlr := goodPipes_len hg
  all_goals first
    | omega
    | (rw [outN_succ, outStep]; simp_all; done)
    | (rw [outN_succ, outStep]; split <;> split <;> omega)
    | (have e : k = l.length := by omega
       subst e
       rfl)

theorem outOf_call (l : List S3) (fl : List Int) (n : Int) (hg : goodPipes l = true) (hlen : fl.length = l.length) (hc : AllTo (capB l fl) l.length l.length) : ACall Try.prog 61 [.slice ⟨0, 0, 0, 3, 0⟩ l.length, .int .i64 n, .slice ⟨1, 0, 0, 1, 0⟩ fl.length] [.arr true .s3 l, .arr true .int fl] (Is (.int .i64 (outM l fl n)) [.arr true .s3 l, .arr true .int fl]) := by
  refine ACall.walk T Try.func61 Try.ntmps61 Try.results61 rfl rfl rfl (Is.nv _ _) ?_
  repeat' (conv => whnf); first
    | refine AWP.seq ?_
    | refine AWP.reg T rfl ?_
    | refine AWP.drw T none rfl rfl rfl ?_
    | refine AWP.dep T none rfl rfl rfl rfl ?_
    | refine AWP.block ?_
    | refine AWP.condT rfl ?_
    | refine AWP.condF rfl ?_
    | refine AWP.cond rfl (fun hb => ?_) (fun hb => ?_)
    | refine AWP.ret ?_
    | refine AWP.exit ?_
    | refine AWP.skip ?_
    | refine GuardB.t ?_
    | refine GuardB.f ?_
    | refine GuardB.mk (fun hb => ?_) (fun hb => ?_)
    | refine NilQ.mk (fun hb => ?_) ?_
    | refine VC.mk Nat.zero_lt_one ?_
    | refine VC.mk rfl ?_
    | refine AWP.while (ι := Nat) (fun k => St.of [(1, .int .i64 n), (2, .slice ⟨1, 0, 0, 1, 0⟩ fl.length), (7, .int .i64 (outN l fl n k)), (10, .slice ⟨0, 0, 0, 3, 0⟩ l.length), (11, .int .i64 l.length), (12, .int .i64 k)] [.arr true .s3 l, .arr true .int fl]) (fun k => k ≤ l.length) (fun k => l.length - k) 0 (Nat.zero_le _)
        (Weak.of [0, 1] (.cons rfl rfl (.cons rfl rfl (.cons rfl rfl (.cons rfl rfl (.cons rfl rfl (.cons rfl rfl .nil)))))) (.cons (.same rfl rfl) (.cons (.same rfl rfl) (.nil _))) rfl) (fun k hk => ?_)
    | refine Ret.int [0, 1] ?_ (.cons (.same rfl rfl) (.cons (.same rfl rfl) (.nil _))) rfl
    | refine roundEnd (k + 1) ?_ ?_ (Weak.of [0, 1] (.cons rfl rfl (.cons rfl rfl (.i rfl ?_ (.cons rfl rfl (.cons rfl rfl (.cons rfl rfl .nil)))))) (.cons (.same rfl rfl) (.cons (.same rfl rfl) (.nil _))) rfl)
    | refine VC.mk ?_ ?_
  all_goals try simp only [decide_eq_true_eq, decide_eq_false_iff_not, Bool.not_eq_true', Bool.not_eq_false', cond_true, cond_false, eqB_true, eqB_false] at *
  all_goals try simp only [in64, idxAdd_zero_left, Int.toNat_natCast, fillTo_length, Int.ofNat_lt, Int.ofNat_le, Int.natCast_inj] at *
  all_goals try
    have h2 : k < l.length := by omega
    have gp := goodPipes_at hg h2
    have hcap := capB_iff.1 (hc.2 k h2)
    have rg := out_range hg n k ⟨by omega, fun j hj => hc.2 j (by omega)⟩
    have hlr := goodPipes_len hg
  all_goals first
    | omega
    | (rw [outN_succ, outStep]; simp_all; done)
    | (rw [outN_succ, outStep]; split <;> split <;> omega)
    | (have e : k = l.length := by omega
       subst e
       rfl)

theorem l8Ask_call (l : List S3) (f t : Int) (hl : l.length ≤ 1048576) : ACall Try.prog 89 [.slice ⟨0, 0, 0, 3, 0⟩ l.length, .int .i64 f, .int .i64 t] [.arr true .s3 l] (Is (.bool (askB l f t)) [.arr true .s3 l]) := by
  refine ACall.walk T Try.func89 Try.ntmps89 Try.results89 rfl rfl rfl (Is.nv _ _) ?_
  repeat' (conv => whnf); first
    | refine AWP.seq ?_
    | refine AWP.reg T rfl ?_
    | refine AWP.drw T none rfl rfl rfl ?_
    | refine AWP.dep T none rfl rfl rfl rfl ?_
    | refine AWP.block ?_
    | refine AWP.condT rfl ?_
    | refine AWP.condF rfl ?_
    | refine AWP.cond rfl (fun hb => ?_) (fun hb => ?_)
    | refine AWP.ret ?_
    | refine AWP.exit ?_
    | refine AWP.skip ?_
    | refine GuardB.t ?_
    | refine GuardB.f ?_
    | refine GuardB.mk (fun hb => ?_) (fun hb => ?_)
    | refine NilQ.mk (fun hb => ?_) ?_
    | refine VC.mk Nat.zero_lt_one ?_
    | refine VC.mk rfl ?_
    | refine ACall.useIs [0] (specGoodPipes_call _ ?_) rfl (.cons (.same rfl rfl) (.nil _)) rfl ?_
    | refine ACall.useIs [] (l6Node_call _) rfl (.nil _) rfl ?_
    | refine Ret.bool [0] ?_ (.cons (.same rfl rfl) (.nil _)) rfl
    | refine VC.mk ?_ ?_
  all_goals try simp only [decide_eq_true_eq, decide_eq_false_iff_not, Bool.not_eq_true', Bool.not_eq_false', cond_true, cond_false, eqB_true, eqB_false] at *
  all_goals try simp only [in64, idxAdd_zero_left, Int.toNat_natCast, fillTo_length, Int.ofNat_lt, Int.ofNat_le, Int.natCast_inj] at *
  all_goals first
    | exact hl
    | (simp_all [askB]; done)

theorem l8Cut_call (l : List S3) (s : List Int) (hg : goodPipes l = true) (hs : s.length ≤ 1048576) : ACall Try.prog 91 [.slice ⟨0, 0, 0, 3, 0⟩ l.length, .slice ⟨1, 0, 0, 1, 0⟩ s.length] [.arr true .s3 l, .arr true .int s] (Is (.int .i64 (cutM l s)) [.arr true .s3 l, .arr true .int s]) := by
  refine ACall.walk T Try.func91 Try.ntmps91 Try.results91 rfl rfl rfl (Is.nv _ _) ?_
  repeat' (conv => whnf); first
    | refine AWP.seq ?_
    | refine AWP.reg T rfl ?_
    | refine AWP.drw T none rfl rfl rfl ?_
    | refine AWP.dep T none rfl rfl rfl rfl ?_
    | refine AWP.block ?_
    | refine AWP.condT rfl ?_
    | refine AWP.condF rfl ?_
    | refine AWP.cond rfl (fun hb => ?_) (fun hb => ?_)
    | refine AWP.ret ?_
    | refine AWP.exit ?_
    | refine AWP.skip ?_
    | refine GuardB.t ?_
    | refine GuardB.f ?_
    | refine GuardB.mk (fun hb => ?_) (fun hb => ?_)
    | refine NilQ.mk (fun hb => ?_) ?_
    | refine VC.mk Nat.zero_lt_one ?_
    | refine VC.mk rfl ?_
    | refine AWP.while (ι := Nat) (fun k => St.of [(1, .slice ⟨1, 0, 0, 1, 0⟩ s.length), (5, .int .i64 (foldTo (cutStep s) 0 l k)), (8, .slice ⟨0, 0, 0, 3, 0⟩ l.length), (9, .int .i64 l.length), (10, .int .i64 k)] [.arr true .s3 l, .arr true .int s]) (fun k => k ≤ l.length) (fun k => l.length - k) 0 (Nat.zero_le _)
        (Weak.of [0, 1] (.cons rfl rfl (.cons rfl rfl (.cons rfl rfl (.cons rfl rfl (.cons rfl rfl .nil))))) (.cons (.same rfl rfl) (.cons (.same rfl rfl) (.nil _))) rfl) (fun k hk => ?_)
    | refine ACall.useIs [1] (l1Has_call _ _ ?_) rfl (.cons (.same rfl rfl) (.nil _)) rfl ?_
    | refine Ret.int [0, 1] ?_ (.cons (.same rfl rfl) (.cons (.same rfl rfl) (.nil _))) rfl
    | refine roundEnd (k + 1) ?_ ?_ (Weak.of [0, 1] (.cons rfl rfl (.i rfl ?_ (.cons rfl rfl (.cons rfl rfl (.cons rfl rfl .nil))))) (.cons (.same rfl rfl) (.cons (.same rfl rfl) (.nil _))) rfl)
    | refine VC.mk ?_ ?_
  all_goals try simp only [decide_eq_true_eq, decide_eq_false_iff_not, Bool.not_eq_true', Bool.not_eq_false', cond_true, cond_false, eqB_true, eqB_false] at *
  all_goals try simp only [in64, idxAdd_zero_left, Int.toNat_natCast, fillTo_length, Int.ofNat_lt, Int.ofNat_le, Int.natCast_inj] at *
  all_goals try
    have h2 : k < l.length := by omega
    simp only [getD_get h2] at *
    have gr := goodPipe_iff.1 (goodPipes_get hg h2)
    have rg := cutTo_range hg s k hk
    have hlr := goodPipes_len hg
  all_goals first
    | omega
    | exact hs
    | (rw [foldTo_succ _ _ _ h2, cutStep, if_pos ⟨by assumption, by assumption⟩]; done)
    | (rw [foldTo_succ _ _ _ h2, cutStep, if_neg (by simp_all)]; done)
    | (have e : k = l.length := by omega
       subst e
       rfl)

end YtafalojjbghlhaaAM
