import Derived.Test.YtafalojjbghlhaaAmTabLinks
import Derived.Test.YtafalojjbghlhaaAmModels
import Derived.Test.YtafalojjbghlhaaAmLFlow1
import Derived.Test.YtafalojjbghlhaaAmFlowModels
section
/- Contracts of functions of this seat. -/
set_option linter.unusedVariables false
set_option linter.unusedSimpArgs false
set_option maxRecDepth 100000
set_option maxHeartbeats 1000000
namespace YtafalojjbghlhaaAM
open Go Go.Proofs
attribute [local irreducible] srchN innerN srch byOf stp rnd foldN nodeN minN mostN upN dist augM augF augO outN outM grN

theorem l8Room_call (p : S3) (f n : Int) (hf : 0 ≤ f ∧ f ≤ 100) (hp : 0 ≤ p.c ∧ p.c ≤ 100) : ACall Try.prog 96 [s3V p, .int .i64 f, .int .i64 n] [] (Is (.tuple [.int .i64 (roomV p f n), .int .i64 (nextV p n)]) []) := by
  refine ACall.walk T Try.func96 Try.ntmps96 Try.results96 rfl rfl rfl (Is.nv _ _) ?_
  repeat' (conv => whnf); first
    | refine AWP.seq ?_
    | refine AWP.reg T rfl ?_
    | refine AWP.drw T none rfl rfl rfl ?_
    | refine AWP.dep T none rfl rfl rfl rfl ?_
    | refine AWP.block ?_
    | refine AWP.condT rfl ?_
    | refine AWP.condF rfl ?_
    | refine AWP.cond rfl (fun hb => ?_) (fun hb => ?_)
    | refine AWP.ret ?_
    | refine AWP.exit ?_
    | refine AWP.skip ?_
    | refine GuardB.t ?_
    | refine GuardB.f ?_
    | refine GuardB.mk (fun hb => ?_) (fun hb => ?_)
    | refine NilQ.mk (fun hb => ?_) ?_
    | refine VC.mk Nat.zero_lt_one ?_
    | refine VC.mk rfl ?_
    | refine Ret.ii [] rfl ?_ ?_ (.nil _) rfl
    | refine VC.mk ?_ ?_
  all_goals try simp only [decide_eq_true_eq, decide_eq_false_iff_not, Bool.not_eq_true', Bool.not_eq_false', cond_true, cond_false, eqB_true, eqB_false] at *
  all_goals try simp only [in64, idxAdd_zero_left, Int.toNat_natCast, fillTo_length, Int.ofNat_lt, Int.ofNat_le, Int.natCast_inj] at *
  all_goals first
    | omega
    | exact ⟨by omega, by omega⟩
    | (simp_all [roomV, nextV]; done)

theorem l8Search_call (l : List S3) (fl : List Int) (u : Int) (hg : goodPipes l = true) (hlen : fl.length = l.length) (hc : AllTo (capB l fl) l.length l.length) (hu : 0 ≤ u ∧ u ≤ 7) : ACall Try.prog 90 [.slice ⟨0, 0, 0, 3, 0⟩ l.length, .int .i64 u, .slice ⟨1, 0, 0, 1, 0⟩ fl.length] [.arr true .s3 l, .arr true .int fl] (Is (.slice ⟨2, 0, 0, 1, 0⟩ 8) [.arr true .s3 l, .arr true .int fl, .arr false .int (byOf u (srch l fl u))]) := by
  refine ACall.walk T Try.func90 Try.ntmps90 Try.results90 rfl rfl rfl (Is.nv _ _) ?_
  repeat' (conv => whnf); first
    | refine AWP.seq ?_
    | refine AWP.reg T rfl ?_
    | refine AWP.drw T none rfl rfl rfl ?_
    | refine AWP.dep T none rfl rfl rfl rfl ?_
    | refine AWP.block ?_
    | refine AWP.condT rfl ?_
    | refine AWP.condF rfl ?_
    | refine AWP.cond rfl (fun hb => ?_) (fun hb => ?_)
    | refine AWP.ret ?_
    | refine AWP.exit ?_
    | refine AWP.skip ?_
    | refine GuardB.t ?_
    | refine GuardB.f ?_
    | refine GuardB.mk (fun hb => ?_) (fun hb => ?_)
    | refine NilQ.mk (fun hb => ?_) ?_
    | refine VC.mk Nat.zero_lt_one ?_
    | refine VC.mk rfl ?_
    | refine AWP.while (ι := Nat) (fun j => St.of [(0, .slice ⟨0, 0, 0, 3, 0⟩ l.length), (1, .int .i64 u), (2, .slice ⟨1, 0, 0, 1, 0⟩ fl.length), (7, .slice ⟨2, 0, 0, 1, 0⟩ j), (8, .int .i64 j)] [.arr true .s3 l, .arr true .int fl, .arr false .int (List.replicate j (-1))]) (fun j => j ≤ 8) (fun j => 8 - j) 0 (Nat.zero_le _)
        (Weak.of [0, 1, 3] (.cons rfl rfl (.cons rfl rfl (.cons rfl rfl (.cons rfl rfl (.cons rfl rfl .nil))))) (.cons (.same rfl rfl) (.cons (.same rfl rfl) (.cons (.same rfl rfl) (.nil _)))) rfl) (fun j hj => ?_)
    | refine AWP.while (ι := Nat) (fun i => St.of [(0, .slice ⟨0, 0, 0, 3, 0⟩ l.length), (2, .slice ⟨1, 0, 0, 1, 0⟩ fl.length), (7, .slice ⟨2, 0, 0, 1, 0⟩ 8), (9, .slice ⟨3, 0, 0, 1, 0⟩ (srchN l fl u i).1.length), (10, .int .i64 i)] [.arr true .s3 l, .arr true .int fl, .arr false .int (byOf u (srchN l fl u i)), .arr false .int (srchN l fl u i).1]) (fun i => i ≤ (srchN l fl u i).1.length) (fun i => 8 - i) 0 (Nat.zero_le _)
        (Weak.of [0, 1, 2, 3] (.cons rfl rfl (.cons rfl rfl (.s rfl ?_ rfl (.s rfl ?_ rfl (.cons rfl rfl .nil))))) (.cons (.same rfl rfl) (.cons (.same rfl rfl) (.cons (.arr rfl ?_) (.cons (.arr rfl ?_) (.nil _))))) rfl) (fun i hi => ?_)
    | refine AWP.while (ι := Nat) (fun k => St.of [(0, .slice ⟨0, 0, 0, 3, 0⟩ l.length), (2, .slice ⟨1, 0, 0, 1, 0⟩ fl.length), (7, .slice ⟨2, 0, 0, 1, 0⟩ 8), (9, .slice ⟨3, 0, 0, 1, 0⟩ (innerN l fl u i k).1.length), (10, .int .i64 i), (33, .slice ⟨0, 0, 0, 3, 0⟩ l.length), (34, .int .i64 l.length), (35, .int .i64 k)] [.arr true .s3 l, .arr true .int fl, .arr false .int (byOf u (innerN l fl u i k)), .arr false .int (innerN l fl u i k).1]) (fun k => k ≤ l.length) (fun k => l.length - k) 0 (Nat.zero_le _)
        (Weak.of [0, 1, 2, 3] (.cons rfl rfl (.cons rfl rfl (.cons rfl rfl (.s rfl ?_ rfl (.cons rfl rfl (.cons rfl rfl (.cons rfl rfl (.cons rfl rfl .nil)))))))) (.cons (.same rfl rfl) (.cons (.same rfl rfl) (.cons (.arr rfl ?_) (.cons (.arr rfl ?_) (.nil _))))) rfl) (fun k hk => ?_)
    | refine ACall.useIs [] (l8Room_call _ _ _ ?_ ?_) rfl (.nil _) rfl ?_
    | refine roundEnd (j + 1) ?_ ?_ (Weak.of [0, 1, 4] (.cons rfl rfl (.cons rfl rfl (.cons rfl rfl (.cons rfl rfl (.cons rfl rfl .nil))))) (.cons (.same rfl rfl) (.cons (.same rfl rfl) (.cons (.arr rfl ?_) (.nil _)))) rfl)
    | refine roundEnd (k + 1) ?_ ?_ (Weak.of [0, 1, 2, 6] (.cons rfl rfl (.cons rfl rfl (.cons rfl rfl (.s rfl ?_ rfl (.cons rfl rfl (.cons rfl rfl (.cons rfl rfl (.cons rfl rfl .nil)))))))) (.cons (.same rfl rfl) (.cons (.same rfl rfl) (.cons (.arr rfl ?_) (.cons (.arr rfl ?_) (.nil _))))) rfl)
    | refine roundEnd (k + 1) ?_ ?_ (Weak.of [0, 1, 2, 3] (.cons rfl rfl (.cons rfl rfl (.cons rfl rfl (.s rfl ?_ rfl (.cons rfl rfl (.cons rfl rfl (.cons rfl rfl (.cons rfl rfl .nil)))))))) (.cons (.same rfl rfl) (.cons (.same rfl rfl) (.cons (.arr rfl ?_) (.cons (.arr rfl ?_) (.nil _))))) rfl)
    | refine roundEnd (i + 1) ?_ ?_ (Weak.of [0, 1, 2, 3] (.cons rfl rfl (.cons rfl rfl (.cons rfl rfl (.s rfl ?_ rfl (.cons rfl rfl .nil))))) (.cons (.same rfl rfl) (.cons (.same rfl rfl) (.cons (.arr rfl ?_) (.cons (.arr rfl ?_) (.nil _))))) rfl)
    | refine Ret.s [0, 1, 2] rfl ?_ (.cons (.same rfl rfl) (.cons (.same rfl rfl) (.cons (.arr rfl ?_) (.nil _)))) rfl
    | refine VC.mk ?_ ?_
  all_goals try simp only [decide_eq_true_eq, decide_eq_false_iff_not, Bool.not_eq_true', Bool.not_eq_false', cond_true, cond_false, eqB_true, eqB_false] at *
  all_goals try simp only [in64, idxAdd_zero_left, Int.toNat_natCast, fillTo_length, Int.ofNat_lt, Int.ofNat_le, Int.natCast_inj] at *
  all_goals try have hlr := goodPipes_len hg
  all_goals try
    have hR := RInv.outer (fl := fl) hg hu i
    have hR8 := hR.len
  all_goals try
    have hi2 : i < (srchN l fl u i).1.length := by omega
    have hI := (inner_inv (fl := fl) hg hu hi2 hk).1
    have hA := inner_at (fl := fl) hg hu hi2 hk
    have hI8 := hI.len
    have hbl := byOf_len u (innerN l fl u i k)
  all_goals try
    have hk2 : k < l.length := by omega
    have gp := goodPipes_at hg hk2
    have hcap := capB_iff.1 (hc.2 k hk2)
    have hsn := step_next hg hc hk2 ((innerN l fl u i k).1.getD i 0) (innerN l fl u i k)
  all_goals first
    | omega
    | (rw [srchN_zero]; done)
    | (rw [srchN_zero]; rfl)
    | (rw [innerN_zero]; done)
    | (rw [srchN_zero]; exact Nat.zero_le _)
    | (have e : j = 8 := by omega
       subst e
       first
       | exact byOf_zero l fl hu
       | exact (byOf_zero l fl hu).symm
       | omega
       | (simp; omega))
    | (simp only [List.replicate_succ', sub_snoc (List.length_replicate ..)]; done)
    | (rw [sub_snoc (List.length_replicate ..), List.replicate_succ']; done)
    | exact ⟨by simp, by simp, by omega⟩
    | exact ⟨by simp, by omega, by omega⟩
    | exact ⟨by omega, by omega⟩
    | (have e := inner_no hg hu hc hi2 hk2 (.inl (by omega))
       rw [e])
    | (have e := inner_no hg hu hc hi2 hk2 (.inr (by assumption))
       rw [e])
    | (have e := inner_yes hg hu hc hi2 hk2 (by omega) (by assumption)
       first
       | (rw [e.2]; done)
       | (rw [e.1, sub_snoc rfl]; done)
       | (rw [e.1]; simp; done))
    | (have e : k = l.length := by omega
       subst e
       have e2 := innerN_all (fl := fl) hi2
       first
       | (rw [e2]; done)
       | (rw [← e2]; omega))
    | (have e := srch_end (l := l) (fl := fl) (u := u) (i := i) (by omega) (by omega)
       rw [e])

end YtafalojjbghlhaaAM
end
section
/- Contracts of functions of this seat. -/
set_option linter.unusedVariables false
set_option linter.unusedSimpArgs false
set_option maxRecDepth 100000
set_option maxHeartbeats 1000000
namespace YtafalojjbghlhaaAM
open Go Go.Proofs
attribute [local irreducible] srchN innerN srch byOf stp rnd foldN nodeN minN mostN upN dist augM augF augO outN outM grN

theorem search_call (l : List S3) (fl : List Int) (u : Int) (hg : goodPipes l = true) (hlen : fl.length = l.length) (hc : AllTo (capB l fl) l.length l.length) (hu : 0 ≤ u ∧ u ≤ 7) : ACall Try.prog 92 [.slice ⟨0, 0, 0, 3, 0⟩ l.length, .int .i64 u, .slice ⟨1, 0, 0, 1, 0⟩ fl.length] [.arr true .s3 l, .arr true .int fl] (Is (.tuple [.slice ⟨2, 0, 0, 1, 0⟩ (srch l fl u).1.length, .vec (.hops (srch l fl u).2)]) [.arr true .s3 l, .arr true .int fl, .arr false .int (srch l fl u).1]) := by
  refine ACall.walk T Try.func92 Try.ntmps92 Try.results92 rfl rfl rfl (Is.nv _ _) ?_
  repeat' (conv => whnf); first
    | refine AWP.seq ?_
    | refine AWP.reg T rfl ?_
    | refine AWP.drw T none rfl rfl rfl ?_
    | refine AWP.dep T none rfl rfl rfl rfl ?_
    | refine AWP.block ?_
    | refine AWP.condT rfl ?_
    | refine AWP.condF rfl ?_
    | refine AWP.cond rfl (fun hb => ?_) (fun hb => ?_)
    | refine AWP.ret ?_
    | refine AWP.exit ?_
    | refine AWP.skip ?_
    | refine GuardB.t ?_
    | refine GuardB.f ?_
    | refine GuardB.mk (fun hb => ?_) (fun hb => ?_)
    | refine NilQ.mk (fun hb => ?_) ?_
    | refine VC.mk Nat.zero_lt_one ?_
    | refine VC.mk rfl ?_
    | refine AWP.while (ι := Nat) (fun i => St.of [(0, .slice ⟨0, 0, 0, 3, 0⟩ l.length), (2, .slice ⟨1, 0, 0, 1, 0⟩ fl.length), (7, .ptr ⟨2, 0, 0, 3, 0⟩), (8, .slice ⟨3, 0, 0, 1, 0⟩ (srchN l fl u i).1.length), (9, .ptr ⟨4, 0, 0, 3, 0⟩), (10, .int .i64 i)] [.arr true .s3 l, .arr true .int fl, .arr false .hop (List.replicate 8 ⟨0, false, 0⟩), .arr false .int (srchN l fl u i).1, .arr false .hop (srchN l fl u i).2]) (fun i => i ≤ (srchN l fl u i).1.length) (fun i => 8 - i) 0 (Nat.zero_le _)
        (Weak.of [0, 1, 3, 4, 5] (.cons rfl rfl (.cons rfl rfl (.cons rfl rfl (.s rfl ?_ rfl (.cons rfl rfl (.cons rfl rfl .nil)))))) (.cons (.same rfl rfl) (.cons (.same rfl rfl) (.cons (.same rfl rfl) (.cons (.arr rfl ?_) (.cons (.arr rfl ?_) (.nil _)))))) rfl) (fun i hi => ?_)
    | refine AWP.while (ι := Nat) (fun k => St.of [(0, .slice ⟨0, 0, 0, 3, 0⟩ l.length), (2, .slice ⟨1, 0, 0, 1, 0⟩ fl.length), (7, .ptr ⟨2, 0, 0, 3, 0⟩), (8, .slice ⟨3, 0, 0, 1, 0⟩ (innerN l fl u i k).1.length), (9, .ptr ⟨4, 0, 0, 3, 0⟩), (10, .int .i64 i), (11, .int .i64 ((srchN l fl u i).1.getD i 0)), (29, .slice ⟨0, 0, 0, 3, 0⟩ l.length), (30, .int .i64 l.length), (31, .int .i64 k)] [.arr true .s3 l, .arr true .int fl, .arr false .hop (List.replicate 8 ⟨0, false, 0⟩), .arr false .int (innerN l fl u i k).1, .arr false .hop (innerN l fl u i k).2]) (fun k => k ≤ l.length) (fun k => l.length - k) 0 (Nat.zero_le _)
        (Weak.of [0, 1, 2, 3, 4] (.cons rfl rfl (.cons rfl rfl (.cons rfl rfl (.s rfl ?_ rfl (.cons rfl rfl (.cons rfl rfl (.cons rfl rfl (.cons rfl rfl (.cons rfl rfl (.cons rfl rfl .nil)))))))))) (.cons (.same rfl rfl) (.cons (.same rfl rfl) (.cons (.same rfl rfl) (.cons (.arr rfl ?_) (.cons (.arr rfl ?_) (.nil _)))))) rfl) (fun k hk => ?_)
    | refine ACall.useIs [3] (slicesContains_call _ _ ?_) rfl (.cons (.ro rfl rfl) (.nil _)) rfl ?_
    | refine roundEnd (k + 1) ?_ ?_ (Weak.of [0, 1, 2, 7, 4] (.cons rfl rfl (.cons rfl rfl (.cons rfl rfl (.s rfl ?_ rfl (.cons rfl rfl (.cons rfl rfl (.cons rfl rfl (.cons rfl rfl (.cons rfl rfl (.cons rfl rfl .nil)))))))))) (.cons (.same rfl rfl) (.cons (.same rfl rfl) (.cons (.same rfl rfl) (.cons (.arr rfl ?_) (.cons (.arr rfl ?_) (.nil _)))))) rfl)
    | refine roundEnd (k + 1) ?_ ?_ (Weak.of [0, 1, 2, 3, 4] (.cons rfl rfl (.cons rfl rfl (.cons rfl rfl (.s rfl ?_ rfl (.cons rfl rfl (.cons rfl rfl (.cons rfl rfl (.cons rfl rfl (.cons rfl rfl (.cons rfl rfl .nil)))))))))) (.cons (.same rfl rfl) (.cons (.same rfl rfl) (.cons (.same rfl rfl) (.cons (.arr rfl ?_) (.cons (.arr rfl ?_) (.nil _)))))) rfl)
    | refine roundEnd (i + 1) ?_ ?_ (Weak.of [0, 1, 2, 3, 4] (.cons rfl rfl (.cons rfl rfl (.cons rfl rfl (.s rfl ?_ rfl (.cons rfl rfl (.cons rfl rfl .nil)))))) (.cons (.same rfl rfl) (.cons (.same rfl rfl) (.cons (.same rfl rfl) (.cons (.arr rfl ?_) (.cons (.arr rfl ?_) (.nil _)))))) rfl)
    | refine Ret.sv [0, 1, 3] rfl ?_ ?_ (.cons (.same rfl rfl) (.cons (.same rfl rfl) (.cons (.arr rfl ?_) (.nil _)))) rfl
    | refine VC.mk ?_ ?_
  all_goals try simp only [decide_eq_true_eq, decide_eq_false_iff_not, Bool.not_eq_true', Bool.not_eq_false', cond_true, cond_false, eqB_true, eqB_false] at *
  all_goals try simp only [in64, idxAdd_zero_left, Int.toNat_natCast, fillTo_length, Int.ofNat_lt, Int.ofNat_le, Int.natCast_inj] at *
  all_goals try have hlr := goodPipes_len hg
  all_goals try
    have hR := RInv.outer (fl := fl) hg hu i
    have hR8 := hR.len
  all_goals try
    have hi2 : i < (srchN l fl u i).1.length := by omega
    have hI := (inner_inv (fl := fl) hg hu hi2 hk).1
    have hA := inner_at (fl := fl) hg hu hi2 hk
    have hI8 := hI.len
    have hbl := byOf_len u (innerN l fl u i k)
  all_goals try
    have hk2 : k < l.length := by omega
    have gp := goodPipes_at hg hk2
    have hcap := capB_iff.1 (hc.2 k hk2)
    have hsn := step_next hg hc hk2 ((innerN l fl u i k).1.getD i 0) (innerN l fl u i k)
  all_goals try have h8 := hI.hlen
  all_goals try have h8 := hR.hlen
  all_goals first
    | omega
    | rfl
    | (show (srchN l fl u i).2.length * 3 = 24; omega)
    | exact ⟨rfl, rfl⟩
    | exact ⟨by omega, by omega⟩
    | exact ⟨by omega, rfl⟩
    | exact ⟨rfl, by omega⟩
    | exact ⟨by simp, by omega, by omega⟩
    | (rw [srchN_zero]; done)
    | (rw [srchN_zero]; rfl)
    | (rw [innerN_zero]; done)
    | (rw [srchN_zero]; exact Nat.zero_le _)
    | (have e := inner_stay1 (l := l) (fl := fl) (u := u) (i := i) (k := k) (by assumption) (by assumption) (by assumption)
       rw [e])
    | (have e := inner_stay2 (l := l) (fl := fl) (u := u) (i := i) (k := k) gp.2.2.1 (by assumption) (by assumption) (by assumption)
       rw [e])
    | (have e := inner_stay3 (l := l) (fl := fl) (u := u) (i := i) (k := k) (by grind) (by grind)
       rw [e])
    | (have e := inner_on1 (l := l) (fl := fl) (u := u) (i := i) (k := k) (by assumption) (by assumption) (by assumption)
       first
       | (rw [e]; done)
       | (rw [e, sub_snoc rfl]; done)
       | (rw [e]; simp; done))
    | (have e := inner_on2 (l := l) (fl := fl) (u := u) (i := i) (k := k) gp.2.2.1 (by assumption) (by assumption) (by assumption)
       first
       | (rw [e]; done)
       | (rw [e, sub_snoc rfl]; done)
       | (rw [e]; simp; done))
    | (have e : k = l.length := by omega
       subst e
       have e2 := innerN_all (fl := fl) hi2
       first
       | (rw [e2]; done)
       | (rw [← e2]; omega))
    | (have e := srch_end (l := l) (fl := fl) (u := u) (i := i) (by omega) (by omega)
       rw [e])

end YtafalojjbghlhaaAM
end
section
/- Contracts of functions of this seat. -/
set_option linter.unusedVariables false
set_option linter.unusedSimpArgs false
set_option maxRecDepth 100000
set_option maxHeartbeats 1000000
namespace YtafalojjbghlhaaAM
open Go Go.Proofs
attribute [local irreducible] srchN innerN srch byOf stp rnd foldN nodeN minN mostN upN dist augM augF augO outN outM grN grM

theorem augment_call (l : List S3) (fl : List Int) (u t : Int) (hg : goodPipes l = true) (hlen : fl.length = l.length) (hc : AllTo (capB l fl) l.length l.length) (hu : 0 ≤ u ∧ u ≤ 7) (htt : 0 ≤ t ∧ t ≤ 7) (hut : u ≠ t) : ACall Try.prog 84 [.slice ⟨0, 0, 0, 3, 0⟩ l.length, .int .i64 u, .int .i64 t, .slice ⟨1, 0, 0, 1, 0⟩ fl.length] [.arr true .s3 l, .arr false .int fl] (Is (.int .i64 (augM l fl u t)) [.arr true .s3 l, .arr false .int (augF l fl u t)]) := by
  refine ACall.walk T Try.func84 Try.ntmps84 Try.results84 rfl rfl rfl (Is.nv _ _) ?_
  repeat' (conv => whnf); first
    | refine AWP.seq ?_
    | refine AWP.reg T rfl ?_
    | refine AWP.drw T none rfl rfl rfl ?_
    | refine AWP.dep T none rfl rfl rfl rfl ?_
    | refine AWP.block ?_
    | refine AWP.condT rfl ?_
    | refine AWP.condF rfl ?_
    | refine AWP.cond rfl (fun hb => ?_) (fun hb => ?_)
    | refine AWP.ret ?_
    | refine AWP.exit ?_
    | refine AWP.skip ?_
    | refine GuardB.t ?_
    | refine GuardB.f ?_
    | refine GuardB.mk (fun hb => ?_) (fun hb => ?_)
    | refine NilQ.mk (fun hb => ?_) ?_
    | refine VC.mk Nat.zero_lt_one ?_
    | refine VC.mk rfl ?_
    | refine ACall.useIs [0, 1] (search_call _ _ _ ?_ ?_ ?_ ?_) rfl (.cons (.same rfl rfl) (.cons (.ro rfl rfl) (.nil _))) rfl ?_
    | refine ACall.useIs [2] (slicesContains_call _ _ ?_) rfl (.cons (.ro rfl rfl) (.nil _)) rfl ?_
    | refine AWP.while (ι := Nat) (fun k => St.of [(0, .slice ⟨0, 0, 0, 3, 0⟩ l.length), (1, .int .i64 u), (2, .int .i64 t), (3, .slice ⟨1, 0, 0, 1, 0⟩ fl.length), (10, .ptr ⟨2, 0, 0, 3, 0⟩), (11, .int .i64 (minN l fl (srch l fl u).2 t k)), (12, .int .i64 (nodeN (srch l fl u).2 t k))] [.arr true .s3 l, .arr false .int fl, .arr false .hop (srch l fl u).2]) (fun k => k ≤ (dist (srch l fl u).2 u t)) (fun k => (dist (srch l fl u).2 u t) - k) 0 (Nat.zero_le _)
        (Weak.of [0, 1, 3] (.cons rfl rfl (.cons rfl rfl (.cons rfl rfl (.cons rfl rfl (.cons rfl rfl (.i rfl ?_ (.i rfl ?_ .nil))))))) (.cons (.same rfl rfl) (.cons (.same rfl rfl) (.cons (.same rfl rfl) (.nil _)))) rfl) (fun k hk => ?_)
    | refine AWP.while (ι := Nat) (fun k => St.of [(1, .int .i64 u), (3, .slice ⟨1, 0, 0, 1, 0⟩ fl.length), (10, .ptr ⟨2, 0, 0, 3, 0⟩), (11, .int .i64 (augM l fl u t)), (15, .int .i64 (nodeN (srch l fl u).2 t k))] [.arr true .s3 l, .arr false .int (upN fl (srch l fl u).2 t (augM l fl u t) k), .arr false .hop (srch l fl u).2]) (fun k => k ≤ (dist (srch l fl u).2 u t)) (fun k => (dist (srch l fl u).2 u t) - k) 0 (Nat.zero_le _)
        (Weak.of [0, 1, 2] (.cons rfl rfl (.cons rfl rfl (.cons rfl rfl (.i rfl ?_ (.i rfl ?_ .nil))))) (.cons (.same rfl rfl) (.cons (.arr rfl ?_) (.cons (.same rfl rfl) (.nil _)))) rfl) (fun k hk => ?_)
    | refine roundEnd (k + 1) ?_ ?_ (Weak.of [0, 1, 2] (.cons rfl rfl (.cons rfl rfl (.cons rfl rfl (.cons rfl rfl (.cons rfl rfl (.i rfl ?_ (.i rfl ?_ .nil))))))) (.cons (.same rfl rfl) (.cons (.same rfl rfl) (.cons (.same rfl rfl) (.nil _)))) rfl)
    | refine roundEnd (k + 1) ?_ ?_ (Weak.of [0, 1, 2] (.cons rfl rfl (.cons rfl rfl (.cons rfl rfl (.cons rfl rfl (.i rfl ?_ .nil))))) (.cons (.same rfl rfl) (.cons (.arr rfl ?_) (.cons (.same rfl rfl) (.nil _)))) rfl)
    | refine Ret.int [0, 1] ?_ (.cons (.same rfl rfl) (.cons (.arr rfl ?_) (.nil _))) rfl
    | refine VC.mk ?_ ?_
  all_goals try simp only [decide_eq_true_eq, decide_eq_false_iff_not, Bool.not_eq_true', Bool.not_eq_false', cond_true, cond_false, eqB_true, eqB_false] at *
  all_goals try simp only [in64, idxAdd_zero_left, Int.toNat_natCast, fillTo_length, Int.ofNat_lt, Int.ofNat_le, Int.natCast_inj] at *
  all_goals try have hlr := goodPipes_len hg
  all_goals try have ht : hasB (srch l fl u).1 t = true := by assumption
  all_goals try have ht : hasB (srch l fl u).1 t = true := has_of hg hu htt (by assumption)
  all_goals try
    have hM := most_of hg hu hut hlen hc ht hk
    have hB := back_of hg hu ht hk
    obtain ⟨hm1, hm2, hm3, hm4, hm5, hm6⟩ := hM
    obtain ⟨hb1, hb2, hb3⟩ := hB
  all_goals try
    have hkD : k < dist (srch l fl u).2 u t := by
      rcases Nat.lt_or_ge k (dist (srch l fl u).2 u t) with h | h
      · exact h
      · exact absurd (hb2.2 (by omega)) (by assumption)
    have hd := mid_of hg hu hut hlen hc ht hkD
    have hrv := hd.roomV
    have hul := upN_len fl (srch l fl u).2 t (augM l fl u t) k
    obtain ⟨d1, d2, d3, d4, d5, d6, d7⟩ := hd
  all_goals try simp only [hopN, h0] at d1 d2 d4 d5 d6 d7
  all_goals try rw [room] at d4
  all_goals first
    | omega
    | exact hg
    | exact hlen
    | exact hc
    | exact hu
    | rfl
    | exact (minN_zero _ _ _ _).symm
    | exact (nodeN_zero _ _).symm
    | exact (upN_zero _ _ _ _).symm
    | exact minN_zero _ _ _ _
    | exact nodeN_zero _ _
    | exact upN_zero _ _ _ _
    | exact nodeN_succ _ _ _
    | exact (nodeN_succ _ _ _).symm
    | exact ⟨by omega, by omega⟩
    | exact ⟨rfl, by omega⟩
    | (have := (srch_inv fl hg hu).len; omega)
    | (have := (srch_inv fl hg hu).hlen; show (srch l fl u).2.length * 3 = 24 ∧ _; exact ⟨by omega, rfl⟩)
    | (rw [minN_succ, room, if_pos (by assumption)]; done)
    | (rw [minN_succ, room, if_neg (by simp_all)]; done)
    | (rw [upN_succ, if_pos (by assumption)]; done)
    | (rw [upN_succ, if_neg (by simp_all)]; rfl)
    | (have hx := hb2.1 (by assumption)
       first
       | (rw [hm5, ← hx]; done)
       | (rw [augF_at ht hx]; done)
       | (exact (augF_at ht hx).symm)
       | omega)
    | (rw [augM_no (by assumption)]; done)
    | (rw [augF_no (by assumption)]; done)

theorem l8Augment_call (l : List S3) (fl : List Int) (u t : Int) (hg : goodPipes l = true) (hlen : fl.length = l.length) (hc : AllTo (capB l fl) l.length l.length) (hu : 0 ≤ u ∧ u ≤ 7) (htt : 0 ≤ t ∧ t ≤ 7) (hut : u ≠ t) : ACall Try.prog 83 [.slice ⟨0, 0, 0, 3, 0⟩ l.length, .int .i64 u, .int .i64 t, .slice ⟨1, 0, 0, 1, 0⟩ fl.length] [.arr true .s3 l, .arr true .int fl] (Is (.tuple [.slice ⟨2, 0, 0, 1, 0⟩ (augO l fl u t).length, .int .i64 (augM l fl u t)]) [.arr true .s3 l, .arr true .int fl, .arr false .int (augO l fl u t)]) := by
  refine ACall.walk T Try.func83 Try.ntmps83 Try.results83 rfl rfl rfl (Is.nv _ _) ?_
  repeat' (conv => whnf); first
    | refine AWP.seq ?_
    | refine AWP.reg T rfl ?_
    | refine AWP.drw T none rfl rfl rfl ?_
    | refine AWP.dep T none rfl rfl rfl rfl ?_
    | refine AWP.block ?_
    | refine AWP.condT rfl ?_
    | refine AWP.condF rfl ?_
    | refine AWP.cond rfl (fun hb => ?_) (fun hb => ?_)
    | refine AWP.ret ?_
    | refine AWP.exit ?_
    | refine AWP.skip ?_
    | refine GuardB.t ?_
    | refine GuardB.f ?_
    | refine GuardB.mk (fun hb => ?_) (fun hb => ?_)
    | refine NilQ.mk (fun hb => ?_) ?_
    | refine VC.mk Nat.zero_lt_one ?_
    | refine VC.mk rfl ?_
    | refine ACall.useIs [0, 1] (l8Search_call _ _ _ ?_ ?_ ?_ ?_) rfl (.cons (.same rfl rfl) (.cons (.same rfl rfl) (.nil _))) rfl ?_
    | refine ACall.useIs [] (l8Room_call _ _ _ ?_ ?_) rfl (.nil _) rfl ?_
    | refine AWP.while (ι := Nat) (fun k => St.of [(0, .slice ⟨0, 0, 0, 3, 0⟩ l.length), (1, .int .i64 u), (2, .int .i64 t), (3, .slice ⟨1, 0, 0, 1, 0⟩ fl.length), (10, .slice ⟨2, 0, 0, 1, 0⟩ 8), (11, .int .i64 (mostN l fl (srch l fl u).2 t k)), (12, .int .i64 (nodeN (srch l fl u).2 t k))] [.arr true .s3 l, .arr true .int fl, .arr false .int (byOf u (srch l fl u))]) (fun k => k ≤ (dist (srch l fl u).2 u t)) (fun k => (dist (srch l fl u).2 u t) - k) 0 (Nat.zero_le _)
        (Weak.of [0, 1, 3] (.cons rfl rfl (.cons rfl rfl (.cons rfl rfl (.cons rfl rfl (.cons rfl rfl (.i rfl ?_ (.i rfl ?_ .nil))))))) (.cons (.same rfl rfl) (.cons (.same rfl rfl) (.cons (.same rfl rfl) (.nil _)))) rfl) (fun k hk => ?_)
    | refine AWP.while (ι := Nat) (fun k => St.of [(0, .slice ⟨0, 0, 0, 3, 0⟩ l.length), (1, .int .i64 u), (10, .slice ⟨2, 0, 0, 1, 0⟩ 8), (11, .int .i64 (augM l fl u t)), (17, .slice ⟨3, 0, 0, 1, 0⟩ fl.length), (18, .int .i64 (nodeN (srch l fl u).2 t k))] [.arr true .s3 l, .arr true .int fl, .arr false .int (byOf u (srch l fl u)), .arr false .int (upN fl (srch l fl u).2 t (augM l fl u t) k)]) (fun k => k ≤ (dist (srch l fl u).2 u t)) (fun k => (dist (srch l fl u).2 u t) - k) 0 (Nat.zero_le _)
        (Weak.of [0, 1, 2, 4] (.cons rfl rfl (.cons rfl rfl (.cons rfl rfl (.i rfl ?_ (.s rfl ?_ rfl (.i rfl ?_ .nil)))))) (.cons (.same rfl rfl) (.cons (.same rfl rfl) (.cons (.same rfl rfl) (.cons (.arr rfl ?_) (.nil _))))) rfl) (fun k hk => ?_)
    | refine roundEnd (k + 1) ?_ ?_ (Weak.of [0, 1, 2] (.cons rfl rfl (.cons rfl rfl (.cons rfl rfl (.cons rfl rfl (.cons rfl rfl (.i rfl ?_ (.i rfl ?_ .nil))))))) (.cons (.same rfl rfl) (.cons (.same rfl rfl) (.cons (.same rfl rfl) (.nil _)))) rfl)
    | refine roundEnd (k + 1) ?_ ?_ (Weak.of [0, 1, 2, 3] (.cons rfl rfl (.cons rfl rfl (.cons rfl rfl (.cons rfl rfl (.cons rfl rfl (.i rfl ?_ .nil)))))) (.cons (.same rfl rfl) (.cons (.same rfl rfl) (.cons (.same rfl rfl) (.cons (.arr rfl ?_) (.nil _))))) rfl)
    | refine Ret.si [0, 1, 3] rfl ?_ ?_ (.cons (.same rfl rfl) (.cons (.same rfl rfl) (.cons (.arr rfl ?_) (.nil _)))) rfl
    | refine Ret.si [0, 1, 4] rfl ?_ ?_ (.cons (.same rfl rfl) (.cons (.same rfl rfl) (.cons (.arr rfl ?_) (.nil _)))) rfl
    | refine VC.mk ?_ ?_
  all_goals try simp only [decide_eq_true_eq, decide_eq_false_iff_not, Bool.not_eq_true', Bool.not_eq_false', cond_true, cond_false, eqB_true, eqB_false] at *
  all_goals try simp only [in64, idxAdd_zero_left, Int.toNat_natCast, fillTo_length, Int.ofNat_lt, Int.ofNat_le, Int.natCast_inj] at *
  all_goals try have hlr := goodPipes_len hg
  all_goals try have ht : hasB (srch l fl u).1 t = true := by assumption
  all_goals try have ht : hasB (srch l fl u).1 t = true := has_of hg hu htt (by assumption)
  all_goals try
    have hM := most_of hg hu hut hlen hc ht hk
    have hB := back_of hg hu ht hk
    obtain ⟨hm1, hm2, hm3, hm4, hm5, hm6⟩ := hM
    obtain ⟨hb1, hb2, hb3⟩ := hB
  all_goals try
    have hkD : k < dist (srch l fl u).2 u t := by
      rcases Nat.lt_or_ge k (dist (srch l fl u).2 u t) with h | h
      · exact h
      · exact absurd (hb2.2 (by omega)) (by assumption)
    have hd := mid_of hg hu hut hlen hc ht hkD
    have hrv := hd.roomV
    have hul := upN_len fl (srch l fl u).2 t (augM l fl u t) k
    obtain ⟨d1, d2, d3, d4, d5, d6, d7⟩ := hd
  all_goals try simp only [d2] at *
  all_goals try have hbl := byOf_len u (srch l fl u)
  all_goals first
    | omega
    | exact hg
    | exact hlen
    | exact hc
    | exact hu
    | rfl
    | exact (mostN_zero _ _ _ _).symm
    | exact (nodeN_zero _ _).symm
    | exact nodeN_zero _ _
    | exact mostN_zero _ _ _ _
    | exact ⟨by omega, by omega⟩
    | exact ⟨by simp, by simp, by omega⟩
    | (rw [upN_zero]; simp [sub]; done)
    | (rcases d3 with ⟨e1, e2, e3⟩ | ⟨e1, e2, e3⟩ <;> first | omega | (rw [← e2]; first | rfl | omega))
    | (have eb : (l.getD (hopN (srch l fl u).2 t k).a.toNat ⟨0, 0, 0⟩).b = nodeN (srch l fl u).2 t (k + 1) := by
         rcases d3 with ⟨e1, e2, e3⟩ | ⟨e1, e2, e3⟩ <;> first | exact e2 | (exfalso; omega)
       first
       | exact most_take eb hrv (.inl (by assumption))
       | exact most_take eb hrv (.inr (by assumption))
       | exact most_keep eb hrv (by assumption) (by assumption))
    | (have eb : (l.getD (hopN (srch l fl u).2 t k).a.toNat ⟨0, 0, 0⟩).a = nodeN (srch l fl u).2 t (k + 1) := by
         rcases d3 with ⟨e1, e2, e3⟩ | ⟨e1, e2, e3⟩ <;> first | exact e2 | (exfalso; omega)
       first
       | exact most_take eb hrv (.inl (by assumption))
       | exact most_take eb hrv (.inr (by assumption))
       | exact most_keep eb hrv (by assumption) (by assumption))
    | (rcases d3 with ⟨e1, e2, e3⟩ | ⟨e1, e2, e3⟩
       · first
         | (exfalso; omega)
         | (rw [upN_succ, if_pos e1]; done)
       · first
         | (exfalso; omega)
         | (rw [upN_succ, if_neg (by rw [e1]; simp)]; rfl))
    | (have hx := hb2.1 (by assumption)
       first
       | (rw [hm5, ← hx, hm3 (by omega)]; done)
       | (rw [augO_at ht hx]; done)
       | (exact (augO_at ht hx).symm)
       | (rw [← augO_at ht hx, upN_len]; done)
       | omega)
    | (have h1 := (by_no hg hu htt).1 (by assumption)
       first
       | (rw [augM_no h1]; done)
       | (rw [augO_no h1]; done)
       | (rw [augO_no h1]; rfl))

end YtafalojjbghlhaaAM
end
section
/- Contracts of functions of this seat. -/
set_option linter.unusedVariables false
set_option linter.unusedSimpArgs false
set_option maxRecDepth 100000
set_option maxHeartbeats 2000000
namespace YtafalojjbghlhaaAM
open Go Go.Proofs
attribute [local irreducible] srchN innerN srch byOf stp rnd foldN nodeN minN mostN upN dist augM augF augO outN outM grN grM aoL aoN aoB mfL mfN

theorem l8Max_call (l : List S3) (u t : Int) (hg : goodPipes l = true) (hu : 0 ≤ u ∧ u ≤ 7) (htt : 0 ≤ t ∧ t ≤ 7) (hut : u ≠ t) : ACall Try.prog 55 [.slice ⟨0, 0, 0, 3, 0⟩ l.length, .int .i64 u, .int .i64 t] [.arr true .s3 l] (Is (.slice ⟨1, 0, 0, 1, 0⟩ (grM l u t).length) [.arr true .s3 l, .arr false .int (grM l u t)]) := by
  refine ACall.walk T Try.func55 Try.ntmps55 Try.results55 rfl rfl rfl (Is.nv _ _) ?_
  repeat' (conv => whnf); first
    | refine AWP.seq ?_
    | refine AWP.reg T rfl ?_
    | refine AWP.drw T none rfl rfl rfl ?_
    | refine AWP.dep T none rfl rfl rfl rfl ?_
    | refine AWP.block ?_
    | refine AWP.condT rfl ?_
    | refine AWP.condF rfl ?_
    | refine AWP.cond rfl (fun hb => ?_) (fun hb => ?_)
    | refine AWP.ret ?_
    | refine AWP.exit ?_
    | refine AWP.skip ?_
    | refine GuardB.t ?_
    | refine GuardB.f ?_
    | refine GuardB.mk (fun hb => ?_) (fun hb => ?_)
    | refine NilQ.mk (fun hb => ?_) ?_
    | refine VC.mk Nat.zero_lt_one ?_
    | refine VC.mk rfl ?_
    | refine AWP.while (ι := Nat) (fun k => St.of [(0, .slice ⟨0, 0, 0, 3, 0⟩ l.length), (1, .int .i64 u), (2, .int .i64 t), (7, .slice ⟨1, 0, 0, 1, 0⟩ (grN l u t k).length)] [.arr true .s3 l, .arr false .int (grN l u t k)]) (fun k => ∀ j, j < k → augM l (grN l u t j) u t ≠ 0) (fun k => 2001 - k) 0 ?_
        (Weak.of [0, 2] (.cons rfl rfl (.cons rfl rfl (.cons rfl rfl (.s rfl ?_ rfl .nil)))) (.cons (.same rfl rfl) (.cons (.arr rfl ?_) (.nil _))) rfl) (fun k hk => ?_)
    | refine ACall.useIs [0, 1] (l8Augment_call _ _ _ _ ?_ ?_ ?_ ?_ ?_ ?_) rfl (.cons (.same rfl rfl) (.cons (.ro rfl rfl) (.nil _))) rfl ?_
    | refine roundEnd (k + 1) ?_ ?_ (Weak.of [0, 2] (.cons rfl rfl (.cons rfl rfl (.cons rfl rfl (.s rfl ?_ rfl .nil)))) (.cons (.same rfl rfl) (.cons (.arr rfl ?_) (.nil _))) rfl)
    | refine Ret.s [0, 1] rfl ?_ (.cons (.same rfl rfl) (.cons (.arr rfl ?_) (.nil _))) rfl
    | refine VC.mk ?_ ?_
  all_goals try simp only [decide_eq_true_eq, decide_eq_false_iff_not, Bool.not_eq_true', Bool.not_eq_false', cond_true, cond_false, eqB_true, eqB_false] at *
  all_goals try simp only [in64, idxAdd_zero_left, Int.toNat_natCast, fillTo_length, Int.ofNat_lt, Int.ofNat_le, Int.natCast_inj] at *
  all_goals try have hlr := goodPipes_len hg
  all_goals try
    have hgs := gr_spec hg hu hut k
    have hgl := grN_len l u t k
    have hb := gr_bound hg hu hut k hk
    have ha := aug_spec hg hu hut hgl hgs.1
  all_goals first
    | omega
    | exact hg
    | exact hu
    | exact htt
    | exact hut
    | exact hgl
    | exact hgs.1
    | exact grN_zero l u t
    | (rw [grN_zero]; done)
    | (rw [grN_zero]; simp; done)
    | (intro j hj; omega)
    | exact ⟨by omega, by omega⟩
    | (intro j hj
       rcases Nat.lt_or_ge j k with h | h
       · exact hk j h
       · obtain rfl : j = k := by omega
         omega)
    | (rw [grN_succ, augO_eq (by omega)]; done)
    | (rw [grN_succ]; done)
    | (rw [grN_succ, augF_len]; done)
    | (rw [gr_end hg hu hut hk (by omega)]; done)
    | (rw [ha.2.2.2.2.2 (by omega), gr_end hg hu hut hk (by omega)]; done)
    | (rw [← gr_end hg hu hut hk (by omega)]; done)
    | (rw [← gr_end hg hu hut hk (by omega)]; omega)

theorem greatest_call (l : List S3) (u t : Int) (hg : goodPipes l = true) (hu : 0 ≤ u ∧ u ≤ 7) (htt : 0 ≤ t ∧ t ≤ 7) (hut : u ≠ t) : ACall Try.prog 60 [.slice ⟨0, 0, 0, 3, 0⟩ l.length, .int .i64 u, .int .i64 t] [.arr true .s3 l] (Is (.slice ⟨1, 0, 0, 1, 0⟩ (grM l u t).length) [.arr true .s3 l, .arr false .int (grM l u t)]) := by
  refine ACall.walk T Try.func60 Try.ntmps60 Try.results60 rfl rfl rfl (Is.nv _ _) ?_
  repeat' (conv => whnf); first
    | refine AWP.seq ?_
    | refine AWP.reg T rfl ?_
    | refine AWP.drw T none rfl rfl rfl ?_
    | refine AWP.dep T none rfl rfl rfl rfl ?_
    | refine AWP.block ?_
    | refine AWP.condT rfl ?_
    | refine AWP.condF rfl ?_
    | refine AWP.cond rfl (fun hb => ?_) (fun hb => ?_)
    | refine AWP.ret ?_
    | refine AWP.exit ?_
    | refine AWP.skip ?_
    | refine GuardB.t ?_
    | refine GuardB.f ?_
    | refine GuardB.mk (fun hb => ?_) (fun hb => ?_)
    | refine NilQ.mk (fun hb => ?_) ?_
    | refine VC.mk Nat.zero_lt_one ?_
    | refine VC.mk rfl ?_
    | refine AWP.while (ι := Nat) (fun k => St.of [(0, .slice ⟨0, 0, 0, 3, 0⟩ l.length), (1, .int .i64 u), (2, .int .i64 t), (7, .slice ⟨1, 0, 0, 1, 0⟩ (grN l u t k).length)] [.arr true .s3 l, .arr false .int (grN l u t k)]) (fun k => ∀ j, j < k → augM l (grN l u t j) u t ≠ 0) (fun k => 2001 - k) 0 ?_
        (Weak.of [0, 2] (.cons rfl rfl (.cons rfl rfl (.cons rfl rfl (.s rfl ?_ rfl .nil)))) (.cons (.same rfl rfl) (.cons (.arr rfl ?_) (.nil _))) rfl) (fun k hk => ?_)
    | refine ACall.useIs [0, 1] (augment_call _ _ _ _ ?_ ?_ ?_ ?_ ?_ ?_) rfl (.cons (.same rfl rfl) (.cons (.same rfl rfl) (.nil _))) rfl ?_
    | refine roundEnd (k + 1) ?_ ?_ (Weak.of [0, 1] (.cons rfl rfl (.cons rfl rfl (.cons rfl rfl (.s rfl ?_ rfl .nil)))) (.cons (.same rfl rfl) (.cons (.arr rfl ?_) (.nil _))) rfl)
    | refine Ret.s [0, 1] rfl ?_ (.cons (.same rfl rfl) (.cons (.arr rfl ?_) (.nil _))) rfl
    | refine VC.mk ?_ ?_
  all_goals try simp only [decide_eq_true_eq, decide_eq_false_iff_not, Bool.not_eq_true', Bool.not_eq_false', cond_true, cond_false, eqB_true, eqB_false] at *
  all_goals try simp only [in64, idxAdd_zero_left, Int.toNat_natCast, fillTo_length, Int.ofNat_lt, Int.ofNat_le, Int.natCast_inj] at *
  all_goals try have hlr := goodPipes_len hg
  all_goals try
    have hgs := gr_spec hg hu hut k
    have hgl := grN_len l u t k
    have hb := gr_bound hg hu hut k hk
    have ha := aug_spec hg hu hut hgl hgs.1
  all_goals first
    | omega
    | exact hg
    | exact hu
    | exact htt
    | exact hut
    | exact hgl
    | exact hgs.1
    | exact grN_zero l u t
    | (rw [grN_zero]; done)
    | (rw [grN_zero]; simp; done)
    | (intro j hj; omega)
    | exact ⟨by omega, by omega⟩
    | (intro j hj
       rcases Nat.lt_or_ge j k with h | h
       · exact hk j h
       · obtain rfl : j = k := by omega
         omega)
    | (rw [grN_succ, augO_eq (by omega)]; done)
    | (rw [grN_succ]; done)
    | (rw [grN_succ, augF_len]; done)
    | (rw [gr_end hg hu hut hk (by omega)]; done)
    | (rw [ha.2.2.2.2.2 (by omega), gr_end hg hu hut hk (by omega)]; done)
    | (rw [← gr_end hg hu hut hk (by omega)]; done)
    | (rw [← gr_end hg hu hut hk (by omega)]; omega)

end YtafalojjbghlhaaAM
end
