/- Contracts of functions of this seat. -/
import Derived.Test.YtnfcnocoehkgoaaAmTabEdges
import Derived.Test.YtnfcnocoehkgoaaAmModels
import Derived.Test.YtnfcnocoehkgoaaAmEdges7
import Derived.Test.YtnfcnocoehkgoaaAmEdges3
import Derived.Test.YtnfcnocoehkgoaaAmEdges4
import Derived.Test.YtnfcnocoehkgoaaAmKruWalk
set_option linter.unusedVariables false
set_option linter.unusedSimpArgs false
set_option maxRecDepth 100000
set_option maxHeartbeats 4000000
namespace YtnfcnocoehkgoaaAM
open Go Go.Proofs
attribute [local irreducible] foldN sortNK sortIK rngI goodEdges pickN partsN ins putL sortI sortN vis visC costL pickA kruL kruC ordE

theorem implKruskal_call (l : List S3) (hl : l.length ≤ 1048576) : ACall Try.prog 27 [.slice ⟨0, 0, 0, 3, 0⟩ l.length] [.arr true .s3 l] (Is (.tuple [.slice ⟨1, 0, 0, 1, 0⟩ (kruL l).length, .int .i64 (kruC l), .bool (goodEdges l)]) [.arr true .s3 l, .arr false .int (kruL l)]) := by
  refine ACall.walk T Try.func27 Try.ntmps27 Try.results27 rfl rfl rfl (Is.nv _ _) ?_
  repeat' (conv => whnf); first
    | refine AWP.seq ?_
    | refine AWP.reg T rfl ?_
    | refine AWP.drw T none rfl rfl rfl ?_
    | refine AWP.dep T none rfl rfl rfl rfl ?_
    | refine AWP.block ?_
    | refine AWP.condT rfl ?_
    | refine AWP.condF rfl ?_
    | refine AWP.cond rfl (fun hb => ?_) (fun hb => ?_)
    | refine AWP.ret ?_
    | refine AWP.exit ?_
    | refine AWP.skip ?_
    | refine GuardB.t ?_
    | refine GuardB.f ?_
    | refine GuardB.mk (fun hb => ?_) (fun hb => ?_)
    | refine NilQ.mk (fun hb => ?_) ?_
    | refine VC.mk Nat.zero_lt_one ?_
    | refine VC.mk rfl ?_
    | refine ACall.useIs [0] (implGoodEdges_call _ ?_) rfl (.cons (.same rfl rfl) (.nil _)) rfl ?_
    | refine ACall.useIs [] (numbered_call _ ?_) rfl (.nil _) rfl ?_
    | refine ACall.useIs [3, 1, 0] (sortAll_call l ?_ (rngI l.length) l.length ?_ ?_ ?_ ?_) rfl (.cons (.arr rfl ?_) (.cons (.ro rfl rfl) (.cons (.same rfl rfl) (.nil _)))) rfl ?_
    | refine ACall.useIs [] (alone_call) rfl (.nil _) rfl ?_
    | refine AWP.while (ι := Nat) (fun k => St.of [(1, .ptr ⟨1, 0, 0, 1, 0⟩), (6, .ptr ⟨3, 0, 0, 1, 0⟩), (7, .slice ⟨4, 0, 0, 1, 0⟩ (pickN l (ordE l) k).length), (21, .slice ⟨2, 0, 0, 1, 0⟩ l.length), (22, .int .i64 l.length), (23, .int .i64 k)] [.arr true .s3 l, .arr false (.raw 1) [[.slice ⟨0, 0, 0, 3, 0⟩ l.length]], .arr false .int (ordE l), .arr false .int (partsN l (ordE l) k), .arr false .int (pickN l (ordE l) k)]) (fun k => k ≤ l.length) (fun k => l.length - k) 0 (Nat.zero_le _)
        (Weak.of [0, 1, 3, 4, 5] (.cons rfl rfl (.cons rfl rfl (.s rfl ?_ rfl (.s rfl ?_ rfl (.i rfl ?_ (.cons rfl rfl .nil)))))) (.cons (.same rfl rfl) (.cons (.same rfl rfl) (.cons (.arr rfl ?_) (.cons (.arr rfl ?_) (.cons (.arr rfl ?_) (.nil _)))))) rfl) (fun k hk => ?_)
    | refine ACall.useIs [3] (link_call _ _ _ ?_ ?_ ?_) rfl (.cons (.same rfl rfl) (.nil _)) rfl ?_
    | refine roundEnd (k + 1) ?_ ?_ (Weak.of [0, 1, 2, 3, 6] (.cons rfl rfl (.cons rfl rfl (.s rfl ?_ rfl (.cons rfl rfl (.cons rfl rfl (.cons rfl rfl .nil)))))) (.cons (.same rfl rfl) (.cons (.same rfl rfl) (.cons (.same rfl rfl) (.cons (.arr rfl ?_) (.cons (.arr rfl ?_) (.nil _)))))) rfl)
    | refine roundEnd (k + 1) ?_ ?_ (Weak.of [0, 1, 2, 3, 4] (.cons rfl rfl (.cons rfl rfl (.s rfl ?_ rfl (.cons rfl rfl (.cons rfl rfl (.cons rfl rfl .nil)))))) (.cons (.same rfl rfl) (.cons (.same rfl rfl) (.cons (.same rfl rfl) (.cons (.arr rfl ?_) (.cons (.arr rfl ?_) (.nil _)))))) rfl)
    | refine ACall.useIs [0, 4] (costs_call _ _ _ ?_ ?_ ?_ ?_) rfl (.cons (.same rfl rfl) (.cons (.same rfl rfl) (.nil _))) rfl ?_
    | refine Ret.sib [0, 4] rfl ?_ ?_ ?_ (.cons (.same rfl rfl) (.cons (.arr rfl ?_) (.nil _))) rfl
    | refine Ret.sib [0, 3] rfl ?_ ?_ ?_ (.cons (.same rfl rfl) (.cons (.arr rfl ?_) (.nil _))) rfl
    | refine Ret.sib [0, 1] rfl ?_ ?_ ?_ (.cons (.same rfl rfl) (.cons (.arr rfl ?_) (.nil _))) rfl
    | refine VC.mk ?_ ?_
  all_goals try simp only [decide_eq_true_eq, decide_eq_false_iff_not, Bool.not_eq_true', Bool.not_eq_false', cond_true, cond_false, eqB_true, eqB_false] at *
  all_goals try simp only [in64, idxAdd_zero_left, Int.toNat_natCast, fillTo_length, Int.ofNat_lt, Int.ofNat_le, Int.natCast_inj] at *
  all_goals try have hg : goodEdges l = true := by assumption
  all_goals try have hlr := goodEdges_len hg
  all_goals try
    have hk2 : k < (ordE l).length := by rw [ordE_len]; omega
    have hat := kru_at hg hk2
    have ge := goodEdges_at hg (k := ((ordE l).getD k 0).toNat) (by omega)
  all_goals try have h8 := partsN_len l (ordE l) k
  all_goals try have hpl := pickN_le (l := l) (V := ordE l) k
  all_goals have hol := ordE_len (l := l)
  all_goals try
    have hpa := pick_all (l := l) (k := k) hk (by omega)
    have hp8 := pick_le hg (ordE_in (l := l))
  all_goals first
    | exact hl
    | omega
    | rfl
    | exact hg
    | exact ⟨by omega, by omega⟩
    | exact (rngI_length _).symm
    | (rw [rngI_length]; omega)
    | exact rngI_rise _
    | (refine ⟨?_, ?_, ?_⟩ <;> first | omega | (simp; done) | (simp; omega))
    | exact fun y hy => rngI_mem.1 hy
    | (rw [ordE]; done)
    | (rw [Int.toNat_natCast]; done)
    | exact (pickN_zero _ _).symm
    | exact pickN_zero _ _
    | (rw [pickN_zero]; done)
    | (rw [pickN_zero]; rfl)
    | exact partsN_zero0 _ _
    | exact (partsN_zero0 _ _).symm
    | (rw [partsN_succ]; done)
    | exact partsN_succ _ _ _
    | exact (partsN_succ _ _ _).symm
    | exact pickN_no (by assumption)
    | (rw [pickN_no (by assumption)]; done)
    | (rw [pickN_yes (by assumption)]; first | rfl | exact (sub_snoc' _ _).symm | (simp; done))
    | (rw [hpa]; omega)
    | (rw [hpa]; rfl)
    | (rw [hpa]; done)
    | (intro d hd; rw [hpa] at hd ⊢; exact kru_in hd)
    | (rw [hpa, kruL_yes hg]; done)
    | (rw [hpa, kruC_yes hg]; done)
    | (rw [hg]; done)
    | (have hn : goodEdges l = false := by simp_all
       first
       | (rw [kruL_no hn]; done)
       | (rw [kruL_no hn]; rfl)
       | (rw [kruC_no hn]; done)
       | (rw [hn]; done))

theorem specKruskal_call (l : List S3) (hl : l.length ≤ 1048576) : ACall Try.prog 26 [.slice ⟨0, 0, 0, 3, 0⟩ l.length] [.arr true .s3 l] (Is (.tuple [.slice ⟨1, 0, 0, 1, 0⟩ (kruL l).length, .int .i64 (kruC l), .bool (goodEdges l)]) [.arr true .s3 l, .arr false .int (kruL l)]) := by
  refine ACall.walk T Try.func26 Try.ntmps26 Try.results26 rfl rfl rfl (Is.nv _ _) ?_
  repeat' (conv => whnf); first
    | refine AWP.seq ?_
    | refine AWP.reg T rfl ?_
    | refine AWP.drw T none rfl rfl rfl ?_
    | refine AWP.dep T none rfl rfl rfl rfl ?_
    | refine AWP.block ?_
    | refine AWP.condT rfl ?_
    | refine AWP.condF rfl ?_
    | refine AWP.cond rfl (fun hb => ?_) (fun hb => ?_)
    | refine AWP.ret ?_
    | refine AWP.exit ?_
    | refine AWP.skip ?_
    | refine GuardB.t ?_
    | refine GuardB.f ?_
    | refine GuardB.mk (fun hb => ?_) (fun hb => ?_)
    | refine NilQ.mk (fun hb => ?_) ?_
    | refine VC.mk Nat.zero_lt_one ?_
    | refine VC.mk rfl ?_
    | refine ACall.useIs [0] (specGoodEdges_call _ ?_) rfl (.cons (.same rfl rfl) (.nil _)) rfl ?_
    | refine AWP.while (ι := Nat) (fun k => St.of [(0, .slice ⟨0, 0, 0, 3, 0⟩ l.length), (5, .slice ⟨1, 0, 0, 1, 0⟩ (sortI (pickA l (vis l c k))).length), (6, .int .i64 c), (17, .slice ⟨0, 0, 0, 3, 0⟩ l.length), (18, .int .i64 l.length), (19, .int .i64 k)] [.arr true .s3 l, .arr false .int (sortI (pickA l (vis l c k)))]) (fun k => k ≤ l.length) (fun k => l.length - k) 0 (Nat.zero_le _)
        (Weak.of [0, 1] (.cons rfl rfl (.s rfl ?_ rfl (.cons rfl rfl (.cons rfl rfl (.cons rfl rfl (.cons rfl rfl .nil)))))) (.cons (.same rfl rfl) (.cons (.arr rfl ?_) (.nil _))) rfl) (fun k hk => ?_)
    | refine AWP.while (ι := Nat) (fun c => St.of [(0, .slice ⟨0, 0, 0, 3, 0⟩ l.length), (5, .slice ⟨1, 0, 0, 1, 0⟩ (sortI (pickA l (visC l c))).length), (6, .int .i64 c)] [.arr true .s3 l, .arr false .int (sortI (pickA l (visC l c)))]) (fun c => c ≤ 1001) (fun c => 1001 - c) 0 (Nat.zero_le _)
        (Weak.of [0, 2] (.cons rfl rfl (.s rfl ?_ rfl (.cons rfl rfl .nil))) (.cons (.same rfl rfl) (.cons (.arr rfl ?_) (.nil _))) rfl) (fun c hc => ?_)
    | refine ACall.useIs [0, 1] (l7Parts_call l _ ?_ ?_) rfl (.cons (.same rfl rfl) (.cons (.ro rfl rfl) (.nil _))) rfl ?_
    | refine ACall.useIs [1] (l7Put_call _ _ ?_ ?_) rfl (.cons (.same rfl rfl) (.nil _)) rfl ?_
    | refine roundEnd (k + 1) ?_ ?_ (Weak.of [0, 4] (.cons rfl rfl (.s rfl ?_ rfl (.cons rfl rfl (.cons rfl rfl (.cons rfl rfl (.cons rfl rfl .nil)))))) (.cons (.same rfl rfl) (.cons (.arr rfl ?_) (.nil _))) rfl)
    | refine roundEnd (k + 1) ?_ ?_ (Weak.of [0, 3] (.cons rfl rfl (.s rfl ?_ rfl (.cons rfl rfl (.cons rfl rfl (.cons rfl rfl (.cons rfl rfl .nil)))))) (.cons (.same rfl rfl) (.cons (.arr rfl ?_) (.nil _))) rfl)
    | refine roundEnd (k + 1) ?_ ?_ (Weak.of [0, 2] (.cons rfl rfl (.s rfl ?_ rfl (.cons rfl rfl (.cons rfl rfl (.cons rfl rfl (.cons rfl rfl .nil)))))) (.cons (.same rfl rfl) (.cons (.arr rfl ?_) (.nil _))) rfl)
    | refine roundEnd (k + 1) ?_ ?_ (Weak.of [0, 1] (.cons rfl rfl (.s rfl ?_ rfl (.cons rfl rfl (.cons rfl rfl (.cons rfl rfl (.cons rfl rfl .nil)))))) (.cons (.same rfl rfl) (.cons (.arr rfl ?_) (.nil _))) rfl)
    | refine roundEnd (c + 1) ?_ ?_ (Weak.of [0, 1] (.cons rfl rfl (.s rfl ?_ rfl (.cons rfl rfl .nil))) (.cons (.same rfl rfl) (.cons (.arr rfl ?_) (.nil _))) rfl)
    | refine ACall.useIs [0, 1] (l7Cost_call _ _ _ ?_ ?_ ?_ ?_) rfl (.cons (.same rfl rfl) (.cons (.ro rfl rfl) (.nil _))) rfl ?_
    | refine Ret.sib [0, 1] rfl ?_ ?_ ?_ (.cons (.same rfl rfl) (.cons (.arr rfl ?_) (.nil _))) rfl
    | refine Ret.sib [0, 2] rfl ?_ ?_ ?_ (.cons (.same rfl rfl) (.cons (.arr rfl ?_) (.nil _))) rfl
    | refine VC.mk ?_ ?_
  all_goals try simp only [decide_eq_true_eq, decide_eq_false_iff_not, Bool.not_eq_true', Bool.not_eq_false', cond_true, cond_false, eqB_true, eqB_false] at *
  all_goals try simp only [in64, idxAdd_zero_left, Int.toNat_natCast, fillTo_length, Int.ofNat_lt, Int.ofNat_le, Int.natCast_inj] at *
  all_goals try have hg : goodEdges l = true := by assumption
  all_goals try have hlr := goodEdges_len hg
  all_goals try
    have hk2 : k < l.length := by omega
    have ge := goodEdges_at hg hk2
  all_goals try
    have hvl := vis_len (c := c) hg hk
    have hvr := vis_rise (c := c) hg hk
    have hv8 := partsN_len l (sortI (pickA l (vis l c k))) (sortI (pickA l (vis l c k))).length
  all_goals try
    have hv0 := vis_len (c := c) (k := 0) hg (Nat.zero_le _)
    rw [vis_zero] at hv0
  all_goals try have hve := vis_end hg hc (by assumption)
  all_goals first
    | exact hl
    | omega
    | rfl
    | exact hg
    | exact hvr
    | exact ⟨by omega, by omega⟩
    | exact vis_some hg (by omega)
    | (rw [visC_zero, pickA_nil, sortI_nil]; done)
    | (rw [visC_zero, pickA_nil, sortI_nil]; rfl)
    | (rw [vis_zero]; done)
    | (rw [vis_skip (by assumption)]; done)
    | (rw [vis_pass hg hk2 (by assumption) (by assumption)]; done)
    | exact (vis_pick hg hk2 (by assumption) (by assumption)).symm
    | (rw [vis_pick hg hk2 (by assumption) (by assumption)]; done)
    | (have e : k = l.length := by omega
       rw [visC_succ, e]; done)
    | (have e : k = l.length := by omega
       rw [visC_succ, ← e]; done)
    | (rw [hve, kruL_yes hg]; done)
    | (rw [hve, kruC_yes hg]; done)
    | (intro j hj; rw [hve] at hj ⊢; exact kru_in hj)
    | (rw [hg]; done)
    | (have hn : goodEdges l = false := by simp_all
       first
       | (rw [kruL_no hn]; done)
       | (rw [kruL_no hn]; rfl)
       | (rw [kruC_no hn]; done)
       | (rw [hn]; done))

theorem lawKruskal_call (l : List S3) (hl : l.length ≤ 9223372036854775807) : ACall Try.prog 7 [.slice ⟨0, 0, 0, 3, 0⟩ l.length] [.arr true .s3 l] (Is (.bool true) [.arr true .s3 l]) := by
  refine ACall.walk T Try.func7 Try.ntmps7 Try.results7 rfl rfl rfl (Is.nv _ _) ?_
  repeat' (conv => whnf); first
    | refine AWP.seq ?_
    | refine AWP.reg T rfl ?_
    | refine AWP.drw T none rfl rfl rfl ?_
    | refine AWP.dep T none rfl rfl rfl rfl ?_
    | refine AWP.block ?_
    | refine AWP.condT rfl ?_
    | refine AWP.condF rfl ?_
    | refine AWP.cond rfl (fun hb => ?_) (fun hb => ?_)
    | refine AWP.ret ?_
    | refine AWP.exit ?_
    | refine AWP.skip ?_
    | refine GuardB.t ?_
    | refine GuardB.f ?_
    | refine GuardB.mk (fun hb => ?_) (fun hb => ?_)
    | refine NilQ.mk (fun hb => ?_) ?_
    | refine VC.mk Nat.zero_lt_one ?_
    | refine VC.mk rfl ?_
    | refine ACall.useIs [0] (szEdgeS_call _ _ ?_ ?_) rfl (.cons (.same rfl rfl) (.nil _)) rfl ?_
    | refine ACall.useIs [0] (toEdgeS_call _ ?_) rfl (.cons (.same rfl rfl) (.nil _)) rfl ?_
    | refine ACall.useIs [1] (specKruskal_call _ ?_) rfl (.cons (.ro rfl rfl) (.nil _)) rfl ?_
    | refine ACall.useIs [3] (implKruskal_call _ ?_) rfl (.cons (.ro rfl rfl) (.nil _)) rfl ?_
    | refine ACall.useIs [6] (implKruskal_call _ ?_) rfl (.cons (.ro rfl rfl) (.nil _)) rfl ?_
    | refine ACall.useIs [4, 2] (eqIntS_call _ _ ?_) rfl (.cons (.ro rfl rfl) (.cons (.ro rfl rfl) (.nil _))) rfl ?_
    | refine ACall.useIs [7, 2] (eqIntS_call _ _ ?_) rfl (.cons (.ro rfl rfl) (.cons (.ro rfl rfl) (.nil _))) rfl ?_
    | refine ACall.useIs [3, 5] (eqEdgeS_call _ _ ?_) rfl (.cons (.ro rfl rfl) (.cons (.ro rfl rfl) (.nil _))) rfl ?_
    | refine ACall.useIs [3] (markEdgeS_call _ _ ?_ ?_) rfl (.cons (.same rfl rfl) (.nil _)) rfl ?_
    | refine ACall.useIs [4] (markIntS_call _ _ ?_ ?_) rfl (.cons (.same rfl rfl) (.nil _)) rfl ?_
    | refine ACall.useIs [4] (heldIntS_call _ _ ?_ ?_) rfl (.cons (.ro rfl rfl) (.nil _)) rfl ?_
    | refine Ret.bool [0] ?_ (.cons (.same rfl rfl) (.nil _)) rfl
    | refine VC.mk ?_ ?_
  all_goals try simp only [decide_eq_true_eq, decide_eq_false_iff_not, Bool.not_eq_true', Bool.not_eq_false', cond_true, cond_false, eqB_true, eqB_false] at *
  all_goals try simp only [in64, idxAdd_zero_left, Int.toNat_natCast, fillTo_length, Int.ofNat_lt, Int.ofNat_le, Int.natCast_inj] at *
  all_goals try simp only [marksI_length, marks3_length] at *
  all_goals try have hfact := kruL_le l
  all_goals first
    | rfl
    | omega
    | exact leftOf_ok (by assumption) (by omega)
    | (have := leftOf_ok (by assumption) (by omega : (1048576 : Int) ≤ 1048576); omega)
    | (simp_all [eqB]; done)
    | (simp_all [eqB]; omega)

end YtnfcnocoehkgoaaAM
