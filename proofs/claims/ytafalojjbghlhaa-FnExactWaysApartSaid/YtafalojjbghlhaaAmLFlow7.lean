/- Contracts of functions of this seat. -/
import Derived.Test.YtafalojjbghlhaaAmTabLinks
import Derived.Test.YtafalojjbghlhaaAmModels
import Derived.Test.YtafalojjbghlhaaAmLFlow6
set_option linter.unusedVariables false
set_option linter.unusedSimpArgs false
set_option maxRecDepth 100000
set_option maxHeartbeats 2000000
namespace YtafalojjbghlhaaAM
open Go Go.Proofs
attribute [local irreducible] srchN innerN srch byOf stp rnd foldN nodeN minN mostN upN dist augM augF augO outN outM grN grM aoL aoN aoB mfL mfN

theorem l8Max_call (l : List S3) (u t : Int) (hg : goodPipes l = true) (hu : 0 ≤ u ∧ u ≤ 7) (htt : 0 ≤ t ∧ t ≤ 7) (hut : u ≠ t) : ACall Try.prog 55 [.slice ⟨0, 0, 0, 3, 0⟩ l.length, .int .i64 u, .int .i64 t] [.arr true .s3 l] (Is (.slice ⟨1, 0, 0, 1, 0⟩ (grM l u t).length) [.arr true .s3 l, .arr false .int (grM l u t)]) := by
  refine ACall.walk T Try.func55 Try.ntmps55 Try.results55 rfl rfl rfl (Is.nv _ _) ?_
  repeat' (conv => whnf); first
    | refine AWP.seq ?_
    | refine AWP.reg T rfl ?_
    | refine AWP.drw T none rfl rfl rfl ?_
    | refine AWP.dep T none rfl rfl rfl rfl ?_
    | refine AWP.block ?_
    | refine AWP.condT rfl ?_
    | refine AWP.condF rfl ?_
    | refine AWP.cond rfl (fun hb => ?_) (fun hb => ?_)
    | refine AWP.ret ?_
    | refine AWP.exit ?_
    | refine AWP.skip ?_
    | refine GuardB.t ?_
    | refine GuardB.f ?_
    | refine GuardB.mk (fun hb => ?_) (fun hb => ?_)
    | refine NilQ.mk (fun hb => ?_) ?_
    | refine VC.mk Nat.zero_lt_one ?_
    | refine VC.mk rfl ?_
    | refine AWP.while (ι := Nat) (fun k => St.of [(0, .slice ⟨0, 0, 0, 3, 0⟩ l.length), (1, .int .i64 u), (2, .int .i64 t), (7, .slice ⟨1, 0, 0, 1, 0⟩ (grN l u t k).length)] [.arr true .s3 l, .arr false .int (grN l u t k)]) (fun k => ∀ j, j < k → augM l (grN l u t j) u t ≠ 0) (fun k => 2001 - k) 0 ?_
        (Weak.of [0, 2] (.cons rfl rfl (.cons rfl rfl (.cons rfl rfl (.s rfl ?_ rfl .nil)))) (.cons (.same rfl rfl) (.cons (.arr rfl ?_) (.nil _))) rfl) (fun k hk => ?_)
    | refine ACall.useIs [0, 1] (l8Augment_call _ _ _ _ ?_ ?_ ?_ ?_ ?_ ?_) rfl (.cons (.same rfl rfl) (.cons (.ro rfl rfl) (.nil _))) rfl ?_
    | refine roundEnd (k + 1) ?_ ?_ (Weak.of [0, 2] (.cons rfl rfl (.cons rfl rfl (.cons rfl rfl (.s rfl ?_ rfl .nil)))) (.cons (.same rfl rfl) (.cons (.arr rfl ?_) (.nil _))) rfl)
    | refine Ret.s [0, 1] rfl ?_ (.cons (.same rfl rfl) (.cons (.arr rfl ?_) (.nil _))) rfl
    | refine VC.mk ?_ ?_
  all_goals try simp only [decide_eq_true_eq, decide_eq_false_iff_not, Bool.not_eq_true', Bool.not_eq_false', cond_true, cond_false, eqB_true, eqB_false] at *
  all_goals try simp only [in64, idxAdd_zero_left, Int.toNat_natCast, fillTo_length, Int.ofNat_lt, Int.ofNat_le, Int.natCast_inj] at *
  all_goals try have hlr := goodPipes_len hg
  all_goals try
    have hgs := gr_spec hg hu hut k
    have hgl := grN_len l u t k
    have hb := gr_bound hg hu hut k hk
    have ha := aug_spec hg hu hut hgl hgs.1
  all_goals first
    | omega
    | exact hg
    | exact hu
    | exact htt
    | exact hut
    | exact hgl
    | exact hgs.1
    | exact grN_zero l u t
    | (rw [grN_zero]; done)
    | (rw [grN_zero]; simp; done)
    | (intro j hj; omega)
    | exact ⟨by omega, by omega⟩
    | (intro j hj
       rcases Nat.lt_or_ge j k with h | h
       · exact hk j h
       · obtain rfl : j = k := by omega
         omega)
    | (rw [grN_succ, augO_eq (by omega)]; done)
    | (rw [grN_succ]; done)
    | (rw [grN_succ, augF_len]; done)
    | (rw [gr_end hg hu hut hk (by omega)]; done)
    | (rw [ha.2.2.2.2.2 (by omega), gr_end hg hu hut hk (by omega)]; done)
    | (rw [← gr_end hg hu hut hk (by omega)]; done)
    | (rw [← gr_end hg hu hut hk (by omega)]; omega)

theorem greatest_call (l : List S3) (u t : Int) (hg : goodPipes l = true) (hu : 0 ≤ u ∧ u ≤ 7) (htt : 0 ≤ t ∧ t ≤ 7) (hut : u ≠ t) : ACall Try.prog 60 [.slice ⟨0, 0, 0, 3, 0⟩ l.length, .int .i64 u, .int .i64 t] [.arr true .s3 l] (Is (.slice ⟨1, 0, 0, 1, 0⟩ (grM l u t).length) [.arr true .s3 l, .arr false .int (grM l u t)]) := by
  refine ACall.walk T Try.func60 Try.ntmps60 Try.results60 rfl rfl rfl (Is.nv _ _) ?_
  repeat' (conv => whnf); first
    | refine AWP.seq ?_
    | refine AWP.reg T rfl ?_
    | refine AWP.drw T none rfl rfl rfl ?_
    | refine AWP.dep T none rfl rfl rfl rfl ?_
    | refine AWP.block ?_
    | refine AWP.condT rfl ?_
    | refine AWP.condF rfl ?_
    | refine AWP.cond rfl (fun hb => ?_) (fun hb => ?_)
    | refine AWP.ret ?_
    | refine AWP.exit ?_
    | refine AWP.skip ?_
    | refine GuardB.t ?_
    | refine GuardB.f ?_
    | refine GuardB.mk (fun hb => ?_) (fun hb => ?_)
    | refine NilQ.mk (fun hb => ?_) ?_
    | refine VC.mk Nat.zero_lt_one ?_
    | refine VC.mk rfl ?_
    | refine AWP.while (ι := Nat) (fun k => St.of [(0, .slice ⟨0, 0, 0, 3, 0⟩ l.length), (1, .int .i64 u), (2, .int .i64 t), (7, .slice ⟨1, 0, 0, 1, 0⟩ (grN l u t k).length)] [.arr true .s3 l, .arr false .int (grN l u t k)]) (fun k => ∀ j, j < k → augM l (grN l u t j) u t ≠ 0) (fun k => 2001 - k) 0 ?_
        (Weak.of [0, 2] (.cons rfl rfl (.cons rfl rfl (.cons rfl rfl (.s rfl ?_ rfl .nil)))) (.cons (.same rfl rfl) (.cons (.arr rfl ?_) (.nil _))) rfl) (fun k hk => ?_)
    | refine ACall.useIs [0, 1] (augment_call _ _ _ _ ?_ ?_ ?_ ?_ ?_ ?_) rfl (.cons (.same rfl rfl) (.cons (.same rfl rfl) (.nil _))) rfl ?_
    | refine roundEnd (k + 1) ?_ ?_ (Weak.of [0, 1] (.cons rfl rfl (.cons rfl rfl (.cons rfl rfl (.s rfl ?_ rfl .nil)))) (.cons (.same rfl rfl) (.cons (.arr rfl ?_) (.nil _))) rfl)
    | refine Ret.s [0, 1] rfl ?_ (.cons (.same rfl rfl) (.cons (.arr rfl ?_) (.nil _))) rfl
    | refine VC.mk ?_ ?_
  all_goals try simp only [decide_eq_true_eq, decide_eq_false_iff_not, Bool.not_eq_true', Bool.not_eq_false', cond_true, cond_false, eqB_true, eqB_false] at *
  all_goals try simp only [in64, idxAdd_zero_left, Int.toNat_natCast, fillTo_length, Int.ofNat_lt, Int.ofNat_le, Int.natCast_inj] at *
  all_goals try have hlr := goodPipes_len hg
  all_goals try
    have hgs := gr_spec hg hu hut k
    have hgl := grN_len l u t k
    have hb := gr_bound hg hu hut k hk
    have ha := aug_spec hg hu hut hgl hgs.1
  all_goals first
    | omega
    | exact hg
    | exact hu
    | exact htt
    | exact hut
    | exact hgl
    | exact hgs.1
    | exact grN_zero l u t
    | (rw [grN_zero]; done)
    | (rw [grN_zero]; simp; done)
    | (intro j hj; omega)
    | exact ⟨by omega, by omega⟩
    | (intro j hj
       rcases Nat.lt_or_ge j k with h | h
       · exact hk j h
       · obtain rfl : j = k := by omega
         omega)
    | (rw [grN_succ, augO_eq (by omega)]; done)
    | (rw [grN_succ]; done)
    | (rw [grN_succ, augF_len]; done)
    | (rw [gr_end hg hu hut hk (by omega)]; done)
    | (rw [ha.2.2.2.2.2 (by omega), gr_end hg hu hut hk (by omega)]; done)
    | (rw [← gr_end hg hu hut hk (by omega)]; done)
    | (rw [← gr_end hg hu hut hk (by omega)]; omega)

end YtafalojjbghlhaaAM
