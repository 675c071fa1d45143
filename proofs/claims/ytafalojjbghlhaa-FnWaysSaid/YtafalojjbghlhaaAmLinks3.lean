/- Contracts of functions of this seat. -/
import Derived.Test.YtafalojjbghlhaaAmTabLinks
import Derived.Test.YtafalojjbghlhaaAmModels
import Derived.Test.YtafalojjbghlhaaAmLFlow9
import Derived.Test.YtafalojjbghlhaaAmLinkCuts
set_option linter.unusedVariables false
set_option linter.unusedSimpArgs false
set_option maxRecDepth 100000
set_option maxHeartbeats 2000000
namespace YtafalojjbghlhaaAM
open Go Go.Proofs
attribute [local irreducible] foldN mcL mcN sideN sideM sortI sortN askB cutM fcN fcL linkAsk

theorem l9Pipes_call (l : List S2) (hl : l.length ≤ 1048576) : ACall Try.prog 54 [.slice ⟨0, 0, 0, 2, 0⟩ l.length] [.arr true .s2 l] (Is (.slice ⟨1, 0, 0, 3, 0⟩ (pipesOf l).length) [.arr true .s2 l, .arr false .s3 (pipesOf l)]) := by
  refine ACall.walk T Try.func54 Try.ntmps54 Try.results54 rfl rfl rfl (Is.nv _ _) ?_
  repeat' (conv => whnf); first
    | refine AWP.seq ?_
    | refine AWP.reg T rfl ?_
    | refine AWP.drw T none rfl rfl rfl ?_
    | refine AWP.dep T none rfl rfl rfl rfl ?_
    | refine AWP.block ?_
    | refine AWP.condT rfl ?_
    | refine AWP.condF rfl ?_
    | refine AWP.cond rfl (fun hb => ?_) (fun hb => ?_)
    | refine AWP.ret ?_
    | refine AWP.exit ?_
    | refine AWP.skip ?_
    | refine GuardB.t ?_
    | refine GuardB.f ?_
    | refine GuardB.mk (fun hb => ?_) (fun hb => ?_)
    | refine NilQ.mk (fun hb => ?_) ?_
    | refine VC.mk Nat.zero_lt_one ?_
    | refine VC.mk rfl ?_
    | refine AWP.while (ι := Nat) (fun k => St.of [(3, .slice ⟨1, 0, 0, 3, 0⟩ k), (6, .slice ⟨0, 0, 0, 2, 0⟩ l.length), (7, .int .i64 l.length), (8, .int .i64 k)] [.arr true .s2 l, .arr false .s3 ((l.take k).map toP)]) (fun k => k ≤ l.length) (fun k => l.length - k) 0 (Nat.zero_le _)
        (Weak.of [0, 2] (.cons rfl rfl (.cons rfl rfl (.cons rfl rfl (.cons rfl rfl .nil)))) (.cons (.same rfl rfl) (.cons (.same rfl rfl) (.nil _))) rfl) (fun k hk => ?_)
    | refine roundEnd (k + 1) ?_ ?_ (Weak.of [0, 4] (.cons rfl rfl (.cons rfl rfl (.cons rfl rfl (.cons rfl rfl .nil)))) (.cons (.same rfl rfl) (.cons (.arr rfl ?_) (.nil _))) rfl)
    | refine Ret.s [0, 1] rfl ?_ (.cons (.same rfl rfl) (.cons (.arr rfl ?_) (.nil _))) rfl
    | refine VC.mk ?_ ?_
  all_goals try simp only [decide_eq_true_eq, decide_eq_false_iff_not, Bool.not_eq_true', Bool.not_eq_false', cond_true, cond_false, eqB_true, eqB_false] at *
  all_goals try simp only [in64, idxAdd_zero_left, Int.toNat_natCast, fillTo_length, Int.ofNat_lt, Int.ofNat_le, Int.natCast_inj] at *
  all_goals try
    have h2 : k < l.length := by omega
    simp only [getD_get h2] at *
  all_goals first
    | omega
    | exact ⟨by simp, by simp; omega, by omega⟩
    | exact map_take_app h2 rfl
    | (rw [pipesOf_len]; omega)
    | (rw [pipesOf_take (by omega)]; done)
    | (exact (pipesOf_take (by omega)).symm)
    | rfl

theorem pipes_call (l : List S2) (hl : l.length ≤ 1048576) : ACall Try.prog 59 [.slice ⟨0, 0, 0, 2, 0⟩ l.length] [.arr true .s2 l] (Is (.slice ⟨1, 0, 0, 3, 0⟩ (pipesOf l).length) [.arr true .s2 l, .arr false .s3 (pipesOf l)]) := by
  refine ACall.walk T Try.func59 Try.ntmps59 Try.results59 rfl rfl rfl (Is.nv _ _) ?_
  repeat' (conv => whnf); first
    | refine AWP.seq ?_
    | refine AWP.reg T rfl ?_
    | refine AWP.drw T none rfl rfl rfl ?_
    | refine AWP.dep T none rfl rfl rfl rfl ?_
    | refine AWP.block ?_
    | refine AWP.condT rfl ?_
    | refine AWP.condF rfl ?_
    | refine AWP.cond rfl (fun hb => ?_) (fun hb => ?_)
    | refine AWP.ret ?_
    | refine AWP.exit ?_
    | refine AWP.skip ?_
    | refine GuardB.t ?_
    | refine GuardB.f ?_
    | refine GuardB.mk (fun hb => ?_) (fun hb => ?_)
    | refine NilQ.mk (fun hb => ?_) ?_
    | refine VC.mk Nat.zero_lt_one ?_
    | refine VC.mk rfl ?_
    | refine AWP.while (ι := Nat) (fun k => St.of [(3, .slice ⟨1, 0, 0, 3, 0⟩ k), (7, .slice ⟨0, 0, 0, 2, 0⟩ l.length), (8, .int .i64 l.length), (9, .int .i64 k)] [.arr true .s2 l, .arr false .s3 ((l.take k).map toP)]) (fun k => k ≤ l.length) (fun k => l.length - k) 0 (Nat.zero_le _)
        (Weak.of [0, 2] (.cons rfl rfl (.cons rfl rfl (.cons rfl rfl (.cons rfl rfl .nil)))) (.cons (.same rfl rfl) (.cons (.same rfl rfl) (.nil _))) rfl) (fun k hk => ?_)
    | refine roundEnd (k + 1) ?_ ?_ (Weak.of [0, 4] (.cons rfl rfl (.cons rfl rfl (.cons rfl rfl (.cons rfl rfl .nil)))) (.cons (.same rfl rfl) (.cons (.arr rfl ?_) (.nil _))) rfl)
    | refine Ret.s [0, 1] rfl ?_ (.cons (.same rfl rfl) (.cons (.arr rfl ?_) (.nil _))) rfl
    | refine VC.mk ?_ ?_
  all_goals try simp only [decide_eq_true_eq, decide_eq_false_iff_not, Bool.not_eq_true', Bool.not_eq_false', cond_true, cond_false, eqB_true, eqB_false] at *
  all_goals try simp only [in64, idxAdd_zero_left, Int.toNat_natCast, fillTo_length, Int.ofNat_lt, Int.ofNat_le, Int.natCast_inj] at *
  all_goals try
    have h2 : k < l.length := by omega
    simp only [getD_get h2] at *
  all_goals first
    | omega
    | exact ⟨by simp, by simp; omega, by omega⟩
    | exact map_take_app h2 rfl
    | (rw [pipesOf_len]; omega)
    | (rw [pipesOf_take (by omega)]; done)
    | (exact (pipesOf_take (by omega)).symm)
    | rfl

theorem specFewestToCut_call (l : List S2) (u t : Int) (hl : l.length ≤ 1048576) : ACall Try.prog 34 [.slice ⟨0, 0, 0, 2, 0⟩ l.length, .int .i64 u, .int .i64 t] [.arr true .s2 l] (Is (.tuple [.slice ⟨1, 0, 0, 1, 0⟩ (fcL l u t).length, .bool (linkAsk l u t)]) [.arr true .s2 l, .arr false .int (fcL l u t)]) := by
  refine ACall.walk T Try.func34 Try.ntmps34 Try.results34 rfl rfl rfl (Is.nv _ _) ?_
  repeat' (conv => whnf); first
    | refine AWP.seq ?_
    | refine AWP.reg T rfl ?_
    | refine AWP.drw T none rfl rfl rfl ?_
    | refine AWP.dep T none rfl rfl rfl rfl ?_
    | refine AWP.block ?_
    | refine AWP.condT rfl ?_
    | refine AWP.condF rfl ?_
    | refine AWP.cond rfl (fun hb => ?_) (fun hb => ?_)
    | refine AWP.ret ?_
    | refine AWP.exit ?_
    | refine AWP.skip ?_
    | refine GuardB.t ?_
    | refine GuardB.f ?_
    | refine GuardB.mk (fun hb => ?_) (fun hb => ?_)
    | refine NilQ.mk (fun hb => ?_) ?_
    | refine VC.mk Nat.zero_lt_one ?_
    | refine VC.mk rfl ?_
    | refine ACall.useIs [0] (l9Ask_call _ _ _ ?_) rfl (.cons (.same rfl rfl) (.nil _)) rfl ?_
    | refine ACall.useIs [0] (l9Pipes_call _ ?_) rfl (.cons (.same rfl rfl) (.nil _)) rfl ?_
    | refine ACall.useIs [2] (specMinCut_call _ _ _ ?_) rfl (.cons (.ro rfl rfl) (.nil _)) rfl ?_
    | refine ACall.useIs [1] (l1Has_call _ _ ?_) rfl (.cons (.ro rfl rfl) (.nil _)) rfl ?_
    | refine AWP.while (ι := Nat) (fun k => St.of [(8, .slice ⟨1, 0, 0, 1, 0⟩ (sideM (pipesOf l) u t).length), (11, .slice ⟨2, 0, 0, 1, 0⟩ (fcN l (sideM (pipesOf l) u t) k).length), (28, .slice ⟨0, 0, 0, 2, 0⟩ l.length), (29, .int .i64 l.length), (30, .int .i64 k)] [.arr true .s2 l, .arr false .int (sideM (pipesOf l) u t), .arr false .int (fcN l (sideM (pipesOf l) u t) k)]) (fun k => k ≤ l.length) (fun k => l.length - k) 0 (Nat.zero_le _)
        (Weak.of [0, 3, 4] (.s rfl ?_ rfl (.s rfl ?_ rfl (.cons rfl rfl (.cons rfl rfl (.cons rfl rfl .nil))))) (.cons (.same rfl rfl) (.cons (.arr rfl ?_) (.cons (.arr rfl ?_) (.nil _)))) rfl) (fun k hk => ?_)
    | refine roundEnd (k + 1) ?_ ?_ (Weak.of [0, 1, 5] (.cons rfl rfl (.s rfl ?_ rfl (.cons rfl rfl (.cons rfl rfl (.cons rfl rfl .nil))))) (.cons (.same rfl rfl) (.cons (.same rfl rfl) (.cons (.arr rfl ?_) (.nil _)))) rfl)
    | refine roundEnd (k + 1) ?_ ?_ (Weak.of [0, 1, 2] (.cons rfl rfl (.s rfl ?_ rfl (.cons rfl rfl (.cons rfl rfl (.cons rfl rfl .nil))))) (.cons (.same rfl rfl) (.cons (.same rfl rfl) (.cons (.arr rfl ?_) (.nil _)))) rfl)
    | refine Ret.sb [0, 2] rfl ?_ ?_ (.cons (.same rfl rfl) (.cons (.arr rfl ?_) (.nil _))) rfl
    | refine VC.mk ?_ ?_
  all_goals try simp only [decide_eq_true_eq, decide_eq_false_iff_not, Bool.not_eq_true', Bool.not_eq_false', cond_true, cond_false, eqB_true, eqB_false] at *
  all_goals try simp only [in64, idxAdd_zero_left, Int.toNat_natCast, fillTo_length, Int.ofNat_lt, Int.ofNat_le, Int.natCast_inj] at *
  all_goals try have hi : linkAsk l u t = true := by (first | assumption | (simp_all [linkAsk]; done))
  all_goals try
    have hs := linkAsk_spec hi
    have hsl := side_len (t := t) hs.2.2.2.2.1 hs.2.1
    have hpl := pipesOf_len l
    have hlr := goodLinks_len hs.1
    have hms := mcL_side hs.2.2.2.2.2
  all_goals try have hfl := fcN_len l (sideM (pipesOf l) u t) k
  all_goals first
    | omega
    | exact hl
    | exact hs.2.1
    | exact hs.2.2.1
    | exact hs.2.2.2.1
    | exact hs.2.2.2.2.1
    | exact (fcN_zero _ _).symm
    | exact fcN_zero _ _
    | (rw [fcN_zero]; rfl)
    | (rw [hms]; done)
    | exact ⟨by simp, by omega, by omega⟩
    | (have hc : acrossB l (sideM (pipesOf l) u t) k = true := by simp_all [acrossB]
       rw [fcN_succ, if_pos hc]
       first
       | (rw [sub_snoc rfl]; done)
       | (simp; done))
    | (have hc : acrossB l (sideM (pipesOf l) u t) k = false := by simp_all [acrossB]
       rw [fcN_succ, if_neg (by rw [hc]; simp)])
    | (have e : k = l.length := by omega
       subst e
       rw [fcL, if_pos hi])
    | (rw [hi]; done)
    | (have hn : linkAsk l u t = false := by (first | assumption | (simp_all [linkAsk]; done))
       first
       | (rw [fcL, if_neg (by rw [hn]; simp)]; done)
       | (rw [fcL, if_neg (by rw [hn]; simp)]; rfl)
       | (rw [hn]; done))

theorem implFewestToCut_call (l : List S2) (u t : Int) (hl : l.length ≤ 1048576) : ACall Try.prog 35 [.slice ⟨0, 0, 0, 2, 0⟩ l.length, .int .i64 u, .int .i64 t] [.arr true .s2 l] (Is (.tuple [.slice ⟨1, 0, 0, 1, 0⟩ (fcL l u t).length, .bool (linkAsk l u t)]) [.arr true .s2 l, .arr false .int (fcL l u t)]) := by
  refine ACall.walk T Try.func35 Try.ntmps35 Try.results35 rfl rfl rfl (Is.nv _ _) ?_
  repeat' (conv => whnf); first
    | refine AWP.seq ?_
    | refine AWP.reg T rfl ?_
    | refine AWP.drw T none rfl rfl rfl ?_
    | refine AWP.dep T none rfl rfl rfl rfl ?_
    | refine AWP.block ?_
    | refine AWP.condT rfl ?_
    | refine AWP.condF rfl ?_
    | refine AWP.cond rfl (fun hb => ?_) (fun hb => ?_)
    | refine AWP.ret ?_
    | refine AWP.exit ?_
    | refine AWP.skip ?_
    | refine GuardB.t ?_
    | refine GuardB.f ?_
    | refine GuardB.mk (fun hb => ?_) (fun hb => ?_)
    | refine NilQ.mk (fun hb => ?_) ?_
    | refine VC.mk Nat.zero_lt_one ?_
    | refine VC.mk rfl ?_
    | refine ACall.useIs [0] (implGoodLinks_call _ ?_) rfl (.cons (.same rfl rfl) (.nil _)) rfl ?_
    | refine ACall.useIs [] (areUnlike_call _ _) rfl (.nil _) rfl ?_
    | refine ACall.useIs [0] (pipes_call _ ?_) rfl (.cons (.same rfl rfl) (.nil _)) rfl ?_
    | refine ACall.useIs [2] (side_call _ _ _ ?_ ?_ ?_ ?_) rfl (.cons (.ro rfl rfl) (.nil _)) rfl ?_
    | refine ACall.useIs [1] (slicesContains_call _ _ ?_) rfl (.cons (.ro rfl rfl) (.nil _)) rfl ?_
    | refine AWP.while (ι := Nat) (fun k => St.of [(8, .slice ⟨1, 0, 0, 1, 0⟩ (sideM (pipesOf l) u t).length), (9, .slice ⟨2, 0, 0, 1, 0⟩ (fcN l (sideM (pipesOf l) u t) k).length), (27, .slice ⟨0, 0, 0, 2, 0⟩ l.length), (28, .int .i64 l.length), (29, .int .i64 k)] [.arr true .s2 l, .arr false .int (sideM (pipesOf l) u t), .arr false .int (fcN l (sideM (pipesOf l) u t) k)]) (fun k => k ≤ l.length) (fun k => l.length - k) 0 (Nat.zero_le _)
        (Weak.of [0, 3, 4] (.s rfl ?_ rfl (.s rfl ?_ rfl (.cons rfl rfl (.cons rfl rfl (.cons rfl rfl .nil))))) (.cons (.same rfl rfl) (.cons (.arr rfl ?_) (.cons (.arr rfl ?_) (.nil _)))) rfl) (fun k hk => ?_)
    | refine roundEnd (k + 1) ?_ ?_ (Weak.of [0, 1, 5] (.cons rfl rfl (.s rfl ?_ rfl (.cons rfl rfl (.cons rfl rfl (.cons rfl rfl .nil))))) (.cons (.same rfl rfl) (.cons (.same rfl rfl) (.cons (.arr rfl ?_) (.nil _)))) rfl)
    | refine roundEnd (k + 1) ?_ ?_ (Weak.of [0, 1, 2] (.cons rfl rfl (.s rfl ?_ rfl (.cons rfl rfl (.cons rfl rfl (.cons rfl rfl .nil))))) (.cons (.same rfl rfl) (.cons (.same rfl rfl) (.cons (.arr rfl ?_) (.nil _)))) rfl)
    | refine Ret.sb [0, 2] rfl ?_ ?_ (.cons (.same rfl rfl) (.cons (.arr rfl ?_) (.nil _))) rfl
    | refine VC.mk ?_ ?_
  all_goals try simp only [decide_eq_true_eq, decide_eq_false_iff_not, Bool.not_eq_true', Bool.not_eq_false', cond_true, cond_false, eqB_true, eqB_false] at *
  all_goals try simp only [in64, idxAdd_zero_left, Int.toNat_natCast, fillTo_length, Int.ofNat_lt, Int.ofNat_le, Int.natCast_inj] at *
  all_goals try have hi : linkAsk l u t = true := by (first | assumption | (simp_all [linkAsk]; done))
  all_goals try
    have hs := linkAsk_spec hi
    have hsl := side_len (t := t) hs.2.2.2.2.1 hs.2.1
    have hpl := pipesOf_len l
    have hlr := goodLinks_len hs.1
    have hms := mcL_side hs.2.2.2.2.2
  all_goals try have hfl := fcN_len l (sideM (pipesOf l) u t) k
  all_goals first
    | omega
    | exact hl
    | exact hs.2.1
    | exact hs.2.2.1
    | exact hs.2.2.2.1
    | exact hs.2.2.2.2.1
    | exact (fcN_zero _ _).symm
    | exact fcN_zero _ _
    | (rw [fcN_zero]; rfl)
    | (rw [hms]; done)
    | exact ⟨by simp, by omega, by omega⟩
    | (have hc : acrossB l (sideM (pipesOf l) u t) k = true := by simp_all [acrossB]
       rw [fcN_succ, if_pos hc]
       first
       | (rw [sub_snoc rfl]; done)
       | (simp; done))
    | (have hc : acrossB l (sideM (pipesOf l) u t) k = false := by simp_all [acrossB]
       rw [fcN_succ, if_neg (by rw [hc]; simp)])
    | (have e : k = l.length := by omega
       subst e
       rw [fcL, if_pos hi])
    | (rw [hi]; done)
    | (have hn : linkAsk l u t = false := by (first | assumption | (simp_all [linkAsk]; done))
       first
       | (rw [fcL, if_neg (by rw [hn]; simp)]; done)
       | (rw [fcL, if_neg (by rw [hn]; simp)]; rfl)
       | (rw [hn]; done))

theorem lawFewestToCut_call (l : List S2) (u t : Int) (hl : l.length ≤ 9223372036854775807) : ACall Try.prog 8 [.slice ⟨0, 0, 0, 2, 0⟩ l.length, .int .i64 u, .int .i64 t] [.arr true .s2 l] (Is (.bool true) [.arr true .s2 l]) := by
  refine ACall.walk T Try.func8 Try.ntmps8 Try.results8 rfl rfl rfl (Is.nv _ _) ?_
  repeat' (conv => whnf); first
    | refine AWP.seq ?_
    | refine AWP.reg T rfl ?_
    | refine AWP.drw T none rfl rfl rfl ?_
    | refine AWP.dep T none rfl rfl rfl rfl ?_
    | refine AWP.block ?_
    | refine AWP.condT rfl ?_
    | refine AWP.condF rfl ?_
    | refine AWP.cond rfl (fun hb => ?_) (fun hb => ?_)
    | refine AWP.ret ?_
    | refine AWP.exit ?_
    | refine AWP.skip ?_
    | refine GuardB.t ?_
    | refine GuardB.f ?_
    | refine GuardB.mk (fun hb => ?_) (fun hb => ?_)
    | refine NilQ.mk (fun hb => ?_) ?_
    | refine VC.mk Nat.zero_lt_one ?_
    | refine VC.mk rfl ?_
    | refine ACall.useIs [0] (szLinkS_call _ _ ?_ ?_) rfl (.cons (.same rfl rfl) (.nil _)) rfl ?_
    | refine ACall.useIs [0] (toLinkS_call _ ?_) rfl (.cons (.same rfl rfl) (.nil _)) rfl ?_
    | refine ACall.useIs [1] (specFewestToCut_call _ _ _ ?_) rfl (.cons (.ro rfl rfl) (.nil _)) rfl ?_
    | refine ACall.useIs [3] (implFewestToCut_call _ _ _ ?_) rfl (.cons (.ro rfl rfl) (.nil _)) rfl ?_
    | refine ACall.useIs [6] (implFewestToCut_call _ _ _ ?_) rfl (.cons (.ro rfl rfl) (.nil _)) rfl ?_
    | refine ACall.useIs [4, 2] (eqIntS_call _ _ ?_) rfl (.cons (.ro rfl rfl) (.cons (.ro rfl rfl) (.nil _))) rfl ?_
    | refine ACall.useIs [7, 2] (eqIntS_call _ _ ?_) rfl (.cons (.ro rfl rfl) (.cons (.ro rfl rfl) (.nil _))) rfl ?_
    | refine ACall.useIs [3, 5] (eqLinkS_call _ _ ?_) rfl (.cons (.ro rfl rfl) (.cons (.ro rfl rfl) (.nil _))) rfl ?_
    | refine ACall.useIs [3] (markLinkS_call _ _ ?_ ?_) rfl (.cons (.same rfl rfl) (.nil _)) rfl ?_
    | refine ACall.useIs [4] (markIntS_call _ _ ?_ ?_) rfl (.cons (.same rfl rfl) (.nil _)) rfl ?_
    | refine ACall.useIs [4] (heldIntS_call _ _ ?_ ?_) rfl (.cons (.ro rfl rfl) (.nil _)) rfl ?_
    | refine Ret.bool [0] ?_ (.cons (.same rfl rfl) (.nil _)) rfl
    | refine VC.mk ?_ ?_
  all_goals try simp only [decide_eq_true_eq, decide_eq_false_iff_not, Bool.not_eq_true', Bool.not_eq_false', cond_true, cond_false, eqB_true, eqB_false] at *
  all_goals try simp only [in64, idxAdd_zero_left, Int.toNat_natCast, fillTo_length, Int.ofNat_lt, Int.ofNat_le, Int.natCast_inj] at *
  all_goals try simp only [marksI_length, marks2_length] at *
  all_goals try have hfact := fcL_le l u t
  all_goals first
    | rfl
    | omega
    | exact leftOf_ok (by assumption) (by omega)
    | (have := leftOf_ok (by assumption) (by omega : (1048576 : Int) ≤ 1048576); omega)
    | (simp_all [eqB]; done)
    | (simp_all [eqB]; omega)

end YtafalojjbghlhaaAM
