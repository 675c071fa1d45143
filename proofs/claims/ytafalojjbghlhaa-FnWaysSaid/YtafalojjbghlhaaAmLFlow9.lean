/- Contracts of functions of this seat. -/
import Derived.Test.YtafalojjbghlhaaAmTabLinks
import Derived.Test.YtafalojjbghlhaaAmModels
import Derived.Test.YtafalojjbghlhaaAmLFlow7
import Derived.Test.YtafalojjbghlhaaAmSortLinks
import Derived.Test.YtafalojjbghlhaaAmCutModels
set_option linter.unusedVariables false
set_option linter.unusedSimpArgs false
set_option maxRecDepth 100000
set_option maxHeartbeats 2000000
namespace YtafalojjbghlhaaAM
open Go Go.Proofs
attribute [local irreducible] srchN innerN srch byOf stp rnd foldN nodeN minN mostN upN dist augM augF augO outN outM grN grM aoL aoN aoB mfL mfN mcL mcN sideN sideM sortI sortN askB cutM

theorem side_call (l : List S3) (u t : Int) (hg : goodPipes l = true) (hu : 0 ≤ u ∧ u ≤ 7) (htt : 0 ≤ t ∧ t ≤ 7) (hut : u ≠ t) : ACall Try.prog 73 [.slice ⟨0, 0, 0, 3, 0⟩ l.length, .int .i64 u, .int .i64 t] [.arr true .s3 l] (Is (.slice ⟨1, 0, 0, 1, 0⟩ (sideM l u t).length) [.arr true .s3 l, .arr false .int (sideM l u t)]) := by
  refine ACall.walk T Try.func73 Try.ntmps73 Try.results73 rfl rfl rfl (Is.nv _ _) ?_
  repeat' (conv => whnf); first
    | refine AWP.seq ?_
    | refine AWP.reg T rfl ?_
    | refine AWP.drw T none rfl rfl rfl ?_
    | refine AWP.dep T none rfl rfl rfl rfl ?_
    | refine AWP.block ?_
    | refine AWP.condT rfl ?_
    | refine AWP.condF rfl ?_
    | refine AWP.cond rfl (fun hb => ?_) (fun hb => ?_)
    | refine AWP.ret ?_
    | refine AWP.exit ?_
    | refine AWP.skip ?_
    | refine GuardB.t ?_
    | refine GuardB.f ?_
    | refine GuardB.mk (fun hb => ?_) (fun hb => ?_)
    | refine NilQ.mk (fun hb => ?_) ?_
    | refine VC.mk Nat.zero_lt_one ?_
    | refine VC.mk rfl ?_
    | refine ACall.useIs [0] (greatest_call _ _ _ ?_ ?_ ?_ ?_) rfl (.cons (.same rfl rfl) (.nil _)) rfl ?_
    | refine ACall.useIs [0, 2] (search_call _ _ _ ?_ ?_ ?_ ?_) rfl (.cons (.same rfl rfl) (.cons (.ro rfl rfl) (.nil _))) rfl ?_
    | refine ACall.useIs [3] (sort_call _ _ ?_ ?_) rfl (.cons (.same rfl rfl) (.nil _)) rfl ?_
    | refine Ret.s [0, 3] rfl ?_ (.cons (.same rfl rfl) (.cons (.arr rfl ?_) (.nil _))) rfl
    | refine VC.mk ?_ ?_
  all_goals try simp only [decide_eq_true_eq, decide_eq_false_iff_not, Bool.not_eq_true', Bool.not_eq_false', cond_true, cond_false, eqB_true, eqB_false] at *
  all_goals try simp only [in64, idxAdd_zero_left, Int.toNat_natCast, fillTo_length, Int.ofNat_lt, Int.ofNat_le, Int.natCast_inj] at *
  all_goals try have hi := srch_inv (grM l u t) hg hu
  all_goals try have h8 := hi.hlen
  all_goals try have h9 := hi.len
  all_goals first
    | omega
    | exact hg
    | exact hu
    | exact htt
    | exact hut
    | exact grM_len l u t
    | (rw [grM]; exact (gr_spec hg hu hut 2001).1)
    | rfl
    | (show (srch l (grM l u t) u).2.length * 3 = 24 ∧ _; exact ⟨by omega, rfl⟩)
    | (rw [sideM, sortI_len]; done)
    | (rw [sideM]; done)

theorem specMinCut_call (l : List S3) (u t : Int) (hl : l.length ≤ 1048576) : ACall Try.prog 72 [.slice ⟨0, 0, 0, 3, 0⟩ l.length, .int .i64 u, .int .i64 t] [.arr true .s3 l] (Is (.tuple [.slice ⟨1, 0, 0, 1, 0⟩ (mcL l u t).length, .int .i64 (mcN l u t), .bool (askB l u t)]) [.arr true .s3 l, .arr false .int (mcL l u t)]) := by
  refine ACall.walk T Try.func72 Try.ntmps72 Try.results72 rfl rfl rfl (Is.nv _ _) ?_
  repeat' (conv => whnf); first
    | refine AWP.seq ?_
    | refine AWP.reg T rfl ?_
    | refine AWP.drw T none rfl rfl rfl ?_
    | refine AWP.dep T none rfl rfl rfl rfl ?_
    | refine AWP.block ?_
    | refine AWP.condT rfl ?_
    | refine AWP.condF rfl ?_
    | refine AWP.cond rfl (fun hb => ?_) (fun hb => ?_)
    | refine AWP.ret ?_
    | refine AWP.exit ?_
    | refine AWP.skip ?_
    | refine GuardB.t ?_
    | refine GuardB.f ?_
    | refine GuardB.mk (fun hb => ?_) (fun hb => ?_)
    | refine NilQ.mk (fun hb => ?_) ?_
    | refine VC.mk Nat.zero_lt_one ?_
    | refine VC.mk rfl ?_
    | refine ACall.useIs [0] (l8Ask_call _ _ _ ?_) rfl (.cons (.same rfl rfl) (.nil _)) rfl ?_
    | refine ACall.useIs [0] (l8Max_call _ _ _ ?_ ?_ ?_ ?_) rfl (.cons (.same rfl rfl) (.nil _)) rfl ?_
    | refine ACall.useIs [0, 3] (l8Search_call _ _ _ ?_ ?_ ?_ ?_) rfl (.cons (.same rfl rfl) (.cons (.ro rfl rfl) (.nil _))) rfl ?_
    | refine AWP.while (ι := Nat) (fun k => St.of [(0, .slice ⟨0, 0, 0, 3, 0⟩ l.length), (9, .slice ⟨1, 0, 0, 1, 0⟩ (sideN (byOf u (srch l (grM l u t) u)) k).length), (23, .slice ⟨2, 0, 0, 1, 0⟩ 8), (24, .int .i64 8), (25, .int .i64 k)] [.arr true .s3 l, .arr false .int (sideN (byOf u (srch l (grM l u t) u)) k), .arr false .int (byOf u (srch l (grM l u t) u))]) (fun k => k ≤ 8) (fun k => 8 - k) 0 (Nat.zero_le _)
        (Weak.of [0, 2, 4] (.cons rfl rfl (.s rfl ?_ rfl (.cons rfl rfl (.cons rfl rfl (.cons rfl rfl .nil))))) (.cons (.same rfl rfl) (.cons (.arr rfl ?_) (.cons (.same rfl rfl) (.nil _)))) rfl) (fun k hk => ?_)
    | refine roundEnd (k + 1) ?_ ?_ (Weak.of [0, 4, 2] (.cons rfl rfl (.s rfl ?_ rfl (.cons rfl rfl (.cons rfl rfl (.cons rfl rfl .nil))))) (.cons (.same rfl rfl) (.cons (.arr rfl ?_) (.cons (.same rfl rfl) (.nil _)))) rfl)
    | refine roundEnd (k + 1) ?_ ?_ (Weak.of [0, 1, 2] (.cons rfl rfl (.s rfl ?_ rfl (.cons rfl rfl (.cons rfl rfl (.cons rfl rfl .nil))))) (.cons (.same rfl rfl) (.cons (.arr rfl ?_) (.cons (.same rfl rfl) (.nil _)))) rfl)
    | refine ACall.useIs [0, 1] (l8Cut_call _ _ ?_ ?_) rfl (.cons (.same rfl rfl) (.cons (.ro rfl rfl) (.nil _))) rfl ?_
    | refine Ret.sib [0, 2] rfl ?_ ?_ ?_ (.cons (.same rfl rfl) (.cons (.arr rfl ?_) (.nil _))) rfl
    | refine Ret.sib [0, 1] rfl ?_ ?_ ?_ (.cons (.same rfl rfl) (.cons (.arr rfl ?_) (.nil _))) rfl
    | refine VC.mk ?_ ?_
  all_goals try simp only [decide_eq_true_eq, decide_eq_false_iff_not, Bool.not_eq_true', Bool.not_eq_false', cond_true, cond_false, eqB_true, eqB_false] at *
  all_goals try simp only [in64, idxAdd_zero_left, Int.toNat_natCast, fillTo_length, Int.ofNat_lt, Int.ofNat_le, Int.natCast_inj] at *
  all_goals try have hi : askB l u t = true := by (first | assumption | (simp_all [askB]; done))
  all_goals try
    have hs := askB_spec hi
    have hgs := gr_spec hs.1 hs.2.1 hs.2.2.2 2001
    have hlr := goodPipes_len hs.1
    have hsl := side_len (t := t) hs.1 hs.2.1
    have hse := side_eq (t := t) hs.1 hs.2.1
  all_goals try have hnl := sideN_len (byOf u (srch l (grM l u t) u)) k
  all_goals try have hbl := byOf_len u (srch l (grM l u t) u)
  all_goals first
    | omega
    | exact hl
    | exact hs.1
    | exact hs.2.1
    | exact hs.2.2.1
    | exact hs.2.2.2
    | exact grM_len l u t
    | (rw [grM]; exact hgs.1)
    | exact (sideN_zero _).symm
    | exact sideN_zero _
    | (rw [sideN_zero]; rfl)
    | exact ⟨by simp, by omega, by omega⟩
    | (rw [sideN_succ, if_neg (by assumption)]
       first
       | (rw [sub_snoc rfl]; done)
       | (simp; done))
    | (rw [sideN_succ, if_pos (by assumption)]; done)
    | (rw [sideN_succ, if_pos (by assumption)])
    | (have e : k = 8 := by omega
       subst e
       rw [hse]
       first
       | omega
       | (rw [mcL, if_pos hi]; done)
       | (rw [mcN, if_pos hi]; done))
    | (rw [mcL, if_pos hi]; done)
    | (rw [mcN, if_pos hi]; done)
    | (rw [hi]; done)
    | (have hn : askB l u t = false := by (first | assumption | (simp_all [askB]; done))
       first
       | (rw [mcL, if_neg (by rw [hn]; simp)]; done)
       | (rw [mcL, if_neg (by rw [hn]; simp)]; rfl)
       | (rw [mcN, if_neg (by rw [hn]; simp)]; done)
       | (rw [hn]; done))

end YtafalojjbghlhaaAM
