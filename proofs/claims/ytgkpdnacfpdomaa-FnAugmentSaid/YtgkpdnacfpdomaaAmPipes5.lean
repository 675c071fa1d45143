/- Contracts of functions of this seat. -/
import Derived.Test.YtgkpdnacfpdomaaAmTabPipes
import Derived.Test.YtgkpdnacfpdomaaAmModels
import Derived.Test.YtgkpdnacfpdomaaAmPipes3
import Derived.Test.YtgkpdnacfpdomaaAmFlowModels
set_option linter.unusedVariables false
set_option linter.unusedSimpArgs false
set_option maxRecDepth 100000
set_option maxHeartbeats 1000000
namespace YtgkpdnacfpdomaaAM
open Go Go.Proofs
attribute [local irreducible] srchN innerN srch byOf stp rnd foldN nodeN minN mostN upN dist augM augF augO outN outM grN

theorem search_call (l : List S3) (fl : List Int) (u : Int) (hg : goodPipes l = true) (hlen : fl.length = l.length) (hc : AllTo (capB l fl) l.length l.length) (hu : 0 ≤ u ∧ u ≤ 7) : ACall Try.prog 72 [.slice ⟨0, 0, 0, 3, 0⟩ l.length, .int .i64 u, .slice ⟨1, 0, 0, 1, 0⟩ fl.length] [.arr true .s3 l, .arr true .int fl] (Is (.tuple [.slice ⟨2, 0, 0, 1, 0⟩ (srch l fl u).1.length, .vec (.hops (srch l fl u).2)]) [.arr true .s3 l, .arr true .int fl, .arr false .int (srch l fl u).1]) := by
  refine ACall.walk T Try.func72 Try.ntmps72 Try.results72 rfl rfl rfl (Is.nv _ _) ?_
  repeat' (conv => whnf); first
    | refine AWP.seq ?_
    | refine AWP.reg T rfl ?_
    | refine AWP.drw T none rfl rfl rfl ?_
    | refine AWP.dep T none rfl rfl rfl rfl ?_
    | refine AWP.block ?_
    | refine AWP.condT rfl ?_
    | refine AWP.condF rfl ?_
    | refine AWP.cond rfl (fun hb => ?_) (fun hb => ?_)
    | refine AWP.ret ?_
    | refine AWP.exit ?_
    | refine AWP.skip ?_
    | refine GuardB.t ?_
    | refine GuardB.f ?_
    | refine GuardB.mk (fun hb => ?_) (fun hb => ?_)
    | refine NilQ.mk (fun hb => ?_) ?_
    | refine VC.mk Nat.zero_lt_one ?_
    | refine VC.mk rfl ?_
    | refine AWP.while (ι := Nat) (fun i => St.of [(0, .slice ⟨0, 0, 0, 3, 0⟩ l.length), (2, .slice ⟨1, 0, 0, 1, 0⟩ fl.length), (7, .ptr ⟨2, 0, 0, 3, 0⟩), (8, .slice ⟨3, 0, 0, 1, 0⟩ (srchN l fl u i).1.length), (9, .ptr ⟨4, 0, 0, 3, 0⟩), (10, .int .i64 i)] [.arr true .s3 l, .arr true .int fl, .arr false .hop (List.replicate 8 ⟨0, false, 0⟩), .arr false .int (srchN l fl u i).1, .arr false .hop (srchN l fl u i).2]) (fun i => i ≤ (srchN l fl u i).1.length) (fun i => 8 - i) 0 (Nat.zero_le _)
        (Weak.of [0, 1, 3, 4, 5] (.cons rfl rfl (.cons rfl rfl (.cons rfl rfl (.s rfl ?_ rfl (.cons rfl rfl (.cons rfl rfl .nil)))))) (.cons (.same rfl rfl) (.cons (.same rfl rfl) (.cons (.same rfl rfl) (.cons (.arr rfl ?_) (.cons (.arr rfl ?_) (.nil _)))))) rfl) (fun i hi => ?_)
    | refine AWP.while (ι := Nat) (fun k => St.of [(0, .slice ⟨0, 0, 0, 3, 0⟩ l.length), (2, .slice ⟨1, 0, 0, 1, 0⟩ fl.length), (7, .ptr ⟨2, 0, 0, 3, 0⟩), (8, .slice ⟨3, 0, 0, 1, 0⟩ (innerN l fl u i k).1.length), (9, .ptr ⟨4, 0, 0, 3, 0⟩), (10, .int .i64 i), (11, .int .i64 ((srchN l fl u i).1.getD i 0)), (29, .slice ⟨0, 0, 0, 3, 0⟩ l.length), (30, .int .i64 l.length), (31, .int .i64 k)] [.arr true .s3 l, .arr true .int fl, .arr false .hop (List.replicate 8 ⟨0, false, 0⟩), .arr false .int (innerN l fl u i k).1, .arr false .hop (innerN l fl u i k).2]) (fun k => k ≤ l.length) (fun k => l.length - k) 0 (Nat.zero_le _)
        (Weak.of [0, 1, 2, 3, 4] (.cons rfl rfl (.cons rfl rfl (.cons rfl rfl (.s rfl ?_ rfl (.cons rfl rfl (.cons rfl rfl (.cons rfl rfl (.cons rfl rfl (.cons rfl rfl (.cons rfl rfl .nil)))))))))) (.cons (.same rfl rfl) (.cons (.same rfl rfl) (.cons (.same rfl rfl) (.cons (.arr rfl ?_) (.cons (.arr rfl ?_) (.nil _)))))) rfl) (fun k hk => ?_)
    | refine ACall.useIs [3] (slicesContains_call _ _ ?_) rfl (.cons (.ro rfl rfl) (.nil _)) rfl ?_
    | refine roundEnd (k + 1) ?_ ?_ (Weak.of [0, 1, 2, 7, 4] (.cons rfl rfl (.cons rfl rfl (.cons rfl rfl (.s rfl ?_ rfl (.cons rfl rfl (.cons rfl rfl (.cons rfl rfl (.cons rfl rfl (.cons rfl rfl (.cons rfl rfl .nil)))))))))) (.cons (.same rfl rfl) (.cons (.same rfl rfl) (.cons (.same rfl rfl) (.cons (.arr rfl ?_) (.cons (.arr rfl ?_) (.nil _)))))) rfl)
    | refine roundEnd (k + 1) ?_ ?_ (Weak.of [0, 1, 2, 3, 4] (.cons rfl rfl (.cons rfl rfl (.cons rfl rfl (.s rfl ?_ rfl (.cons rfl rfl (.cons rfl rfl (.cons rfl rfl (.cons rfl rfl (.cons rfl rfl (.cons rfl rfl .nil)))))))))) (.cons (.same rfl rfl) (.cons (.same rfl rfl) (.cons (.same rfl rfl) (.cons (.arr rfl ?_) (.cons (.arr rfl ?_) (.nil _)))))) rfl)
    | refine roundEnd (i + 1) ?_ ?_ (Weak.of [0, 1, 2, 3, 4] (.cons rfl rfl (.cons rfl rfl (.cons rfl rfl (.s rfl ?_ rfl (.cons rfl rfl (.cons rfl rfl .nil)))))) (.cons (.same rfl rfl) (.cons (.same rfl rfl) (.cons (.same rfl rfl) (.cons (.arr rfl ?_) (.cons (.arr rfl ?_) (.nil _)))))) rfl)
    | refine Ret.sv [0, 1, 3] rfl ?_ ?_ (.cons (.same rfl rfl) (.cons (.same rfl rfl) (.cons (.arr rfl ?_) (.nil _)))) rfl
    | refine VC.mk ?_ ?_
  all_goals try simp only [decide_eq_true_eq, decide_eq_false_iff_not, Bool.not_eq_true', Bool.not_eq_false', cond_true, cond_false, eqB_true, eqB_false] at *
  all_goals try simp only [in64, idxAdd_zero_left, Int.toNat_natCast, fillTo_length, Int.ofNat_lt, Int.ofNat_le, Int.natCast_inj] at *
  all_goals try have hlr := goodPipes_len hg
  all_goals try
    have hR := RInv.outer (fl := fl) hg hu i
    have hR8 := hR.len
  all_goals try
    have hi2 : i < (srchN l fl u i).1.length := by omega
    have hI := (inner_inv (fl := fl) hg hu hi2 hk).1
    have hA := inner_at (fl := fl) hg hu hi2 hk
    have hI8 := hI.len
    have hbl := byOf_len u (innerN l fl u i k)
  all_goals try
    have hk2 : k < l.length := by omega
    have gp := goodPipes_at hg hk2
    have hcap := capB_iff.1 (hc.2 k hk2)
    have hsn := step_next hg hc hk2 ((innerN l fl u i k).1.getD i 0) (innerN l fl u i k)
  all_goals try have h8 := hI.hlen
  all_goals try have h8 := hR.hlen
  all_goals first
    | omega
    | rfl
    | (show (srchN l fl u i).2.length * 3 = 24; omega)
    | exact ⟨rfl, rfl⟩
    | exact ⟨by omega, by omega⟩
    | exact ⟨by omega, rfl⟩
    | exact ⟨rfl, by omega⟩
    | exact ⟨by simp, by omega, by omega⟩
    | (rw [srchN_zero]; done)
    | (rw [srchN_zero]; rfl)
    | (rw [innerN_zero]; done)
    | (rw [srchN_zero]; exact Nat.zero_le _)
    | (have e := inner_stay1 (l := l) (fl := fl) (u := u) (i := i) (k := k) (by assumption) (by assumption) (by assumption)
       rw [e])
    | (have e := inner_stay2 (l := l) (fl := fl) (u := u) (i := i) (k := k) gp.2.2.1 (by assumption) (by assumption) (by assumption)
       rw [e])
    | (have e := inner_stay3 (l := l) (fl := fl) (u := u) (i := i) (k := k) (by grind) (by grind)
       rw [e])
    | (have e := inner_on1 (l := l) (fl := fl) (u := u) (i := i) (k := k) (by assumption) (by assumption) (by assumption)
       first
       | (rw [e]; done)
       | (rw [e, sub_snoc rfl]; done)
       | (rw [e]; simp; done))
    | (have e := inner_on2 (l := l) (fl := fl) (u := u) (i := i) (k := k) gp.2.2.1 (by assumption) (by assumption) (by assumption)
       first
       | (rw [e]; done)
       | (rw [e, sub_snoc rfl]; done)
       | (rw [e]; simp; done))
    | (have e : k = l.length := by omega
       subst e
       have e2 := innerN_all (fl := fl) hi2
       first
       | (rw [e2]; done)
       | (rw [← e2]; omega))
    | (have e := srch_end (l := l) (fl := fl) (u := u) (i := i) (by omega) (by omega)
       rw [e])

end YtgkpdnacfpdomaaAM
