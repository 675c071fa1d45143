/- Contracts of functions of this seat. -/
import Derived.Test.YtgkpdnacfpdomaaAmTabPipes
import Derived.Test.YtgkpdnacfpdomaaAmModels
import Derived.Test.YtgkpdnacfpdomaaAmPipes3
import Derived.Test.YtgkpdnacfpdomaaAmFlowModels
set_option linter.unusedVariables false
set_option linter.unusedSimpArgs false
set_option maxRecDepth 100000
set_option maxHeartbeats 1000000
namespace YtgkpdnacfpdomaaAM
open Go Go.Proofs
attribute [local irreducible] srchN innerN srch byOf stp rnd foldN nodeN minN mostN upN dist augM augF augO outN outM grN

theorem l8Room_call (p : S3) (f n : Int) (hf : 0 ≤ f ∧ f ≤ 100) (hp : 0 ≤ p.c ∧ p.c ≤ 100) : ACall Try.prog 71 [s3V p, .int .i64 f, .int .i64 n] [] (Is (.tuple [.int .i64 (roomV p f n), .int .i64 (nextV p n)]) []) := by
  refine ACall.walk T Try.func71 Try.ntmps71 Try.results71 rfl rfl rfl (Is.nv _ _) ?_
  repeat' (conv => whnf); first
    | refine AWP.seq ?_
    | refine AWP.reg T rfl ?_
    | refine AWP.drw T none rfl rfl rfl ?_
    | refine AWP.dep T none rfl rfl rfl rfl ?_
    | refine AWP.block ?_
    | refine AWP.condT rfl ?_
    | refine AWP.condF rfl ?_
    | refine AWP.cond rfl (fun hb => ?_) (fun hb => ?_)
    | refine AWP.ret ?_
    | refine AWP.exit ?_
    | refine AWP.skip ?_
    | refine GuardB.t ?_
    | refine GuardB.f ?_
    | refine GuardB.mk (fun hb => ?_) (fun hb => ?_)
    | refine NilQ.mk (fun hb => ?_) ?_
    | refine VC.mk Nat.zero_lt_one ?_
    | refine VC.mk rfl ?_
    | refine Ret.ii [] rfl ?_ ?_ (.nil _) rfl
    | refine VC.mk ?_ ?_
  all_goals try simp only [decide_eq_true_eq, decide_eq_false_iff_not, Bool.not_eq_true', Bool.not_eq_false', cond_true, cond_false, eqB_true, eqB_false] at *
  all_goals try simp only [in64, idxAdd_zero_left, Int.toNat_natCast, fillTo_length, Int.ofNat_lt, Int.ofNat_le, Int.natCast_inj] at *
  all_goals first
    | omega
    | exact ⟨by omega, by omega⟩
    | (simp_all [roomV, nextV]; done)

theorem l8Search_call (l : List S3) (fl : List Int) (u : Int) (hg : goodPipes l = true) (hlen : fl.length = l.length) (hc : AllTo (capB l fl) l.length l.length) (hu : 0 ≤ u ∧ u ≤ 7) : ACall Try.prog 61 [.slice ⟨0, 0, 0, 3, 0⟩ l.length, .int .i64 u, .slice ⟨1, 0, 0, 1, 0⟩ fl.length] [.arr true .s3 l, .arr true .int fl] (Is (.slice ⟨2, 0, 0, 1, 0⟩ 8) [.arr true .s3 l, .arr true .int fl, .arr false .int (byOf u (srch l fl u))]) := by
  refine ACall.walk T Try.func61 Try.ntmps61 Try.results61 rfl rfl rfl (Is.nv _ _) ?_
  repeat' (conv => whnf); first
    | refine AWP.seq ?_
    | refine AWP.reg T rfl ?_
    | refine AWP.drw T none rfl rfl rfl ?_
    | refine AWP.dep T none rfl rfl rfl rfl ?_
    | refine AWP.block ?_
    | refine AWP.condT rfl ?_
    | refine AWP.condF rfl ?_
    | refine AWP.cond rfl (fun hb => ?_) (fun hb => ?_)
    | refine AWP.ret ?_
    | refine AWP.exit ?_
    | refine AWP.skip ?_
    | refine GuardB.t ?_
    | refine GuardB.f ?_
    | refine GuardB.mk (fun hb => ?_) (fun hb => ?_)
    | refine NilQ.mk (fun hb => ?_) ?_
    | refine VC.mk Nat.zero_lt_one ?_
    | refine VC.mk rfl ?_
    | refine AWP.while (ι := Nat) (fun j => St.of [(0, .slice ⟨0, 0, 0, 3, 0⟩ l.length), (1, .int .i64 u), (2, .slice ⟨1, 0, 0, 1, 0⟩ fl.length), (7, .slice ⟨2, 0, 0, 1, 0⟩ j), (8, .int .i64 j)] [.arr true .s3 l, .arr true .int fl, .arr false .int (List.replicate j (-1))]) (fun j => j ≤ 8) (fun j => 8 - j) 0 (Nat.zero_le _)
        (Weak.of [0, 1, 3] (.cons rfl rfl (.cons rfl rfl (.cons rfl rfl (.cons rfl rfl (.cons rfl rfl .nil))))) (.cons (.same rfl rfl) (.cons (.same rfl rfl) (.cons (.same rfl rfl) (.nil _)))) rfl) (fun j hj => ?_)
    | refine AWP.while (ι := Nat) (fun i => St.of [(0, .slice ⟨0, 0, 0, 3, 0⟩ l.length), (2, .slice ⟨1, 0, 0, 1, 0⟩ fl.length), (7, .slice ⟨2, 0, 0, 1, 0⟩ 8), (9, .slice ⟨3, 0, 0, 1, 0⟩ (srchN l fl u i).1.length), (10, .int .i64 i)] [.arr true .s3 l, .arr true .int fl, .arr false .int (byOf u (srchN l fl u i)), .arr false .int (srchN l fl u i).1]) (fun i => i ≤ (srchN l fl u i).1.length) (fun i => 8 - i) 0 (Nat.zero_le _)
        (Weak.of [0, 1, 2, 3] (.cons rfl rfl (.cons rfl rfl (.s rfl ?_ rfl (.s rfl ?_ rfl (.cons rfl rfl .nil))))) (.cons (.same rfl rfl) (.cons (.same rfl rfl) (.cons (.arr rfl ?_) (.cons (.arr rfl ?_) (.nil _))))) rfl) (fun i hi => ?_)
    | refine AWP.while (ι := Nat) (fun k => St.of [(0, .slice ⟨0, 0, 0, 3, 0⟩ l.length), (2, .slice ⟨1, 0, 0, 1, 0⟩ fl.length), (7, .slice ⟨2, 0, 0, 1, 0⟩ 8), (9, .slice ⟨3, 0, 0, 1, 0⟩ (innerN l fl u i k).1.length), (10, .int .i64 i), (33, .slice ⟨0, 0, 0, 3, 0⟩ l.length), (34, .int .i64 l.length), (35, .int .i64 k)] [.arr true .s3 l, .arr true .int fl, .arr false .int (byOf u (innerN l fl u i k)), .arr false .int (innerN l fl u i k).1]) (fun k => k ≤ l.length) (fun k => l.length - k) 0 (Nat.zero_le _)
        (Weak.of [0, 1, 2, 3] (.cons rfl rfl (.cons rfl rfl (.cons rfl rfl (.s rfl ?_ rfl (.cons rfl rfl (.cons rfl rfl (.cons rfl rfl (.cons rfl rfl .nil)))))))) (.cons (.same rfl rfl) (.cons (.same rfl rfl) (.cons (.arr rfl ?_) (.cons (.arr rfl ?_) (.nil _))))) rfl) (fun k hk => ?_)
    | refine ACall.useIs [] (l8Room_call _ _ _ ?_ ?_) rfl (.nil _) rfl ?_
    | refine roundEnd (j + 1) ?_ ?_ (Weak.of [0, 1, 4] (.cons rfl rfl (.cons rfl rfl (.cons rfl rfl (.cons rfl rfl (.cons rfl rfl .nil))))) (.cons (.same rfl rfl) (.cons (.same rfl rfl) (.cons (.arr rfl ?_) (.nil _)))) rfl)
    | refine roundEnd (k + 1) ?_ ?_ (Weak.of [0, 1, 2, 6] (.cons rfl rfl (.cons rfl rfl (.cons rfl rfl (.s rfl ?_ rfl (.cons rfl rfl (.cons rfl rfl (.cons rfl rfl (.cons rfl rfl .nil)))))))) (.cons (.same rfl rfl) (.cons (.same rfl rfl) (.cons (.arr rfl ?_) (.cons (.arr rfl ?_) (.nil _))))) rfl)
    | refine roundEnd (k + 1) ?_ ?_ (Weak.of [0, 1, 2, 3] (.cons rfl rfl (.cons rfl rfl (.cons rfl rfl (.s rfl ?_ rfl (.cons rfl rfl (.cons rfl rfl (.cons rfl rfl (.cons rfl rfl .nil)))))))) (.cons (.same rfl rfl) (.cons (.same rfl rfl) (.cons (.arr rfl ?_) (.cons (.arr rfl ?_) (.nil _))))) rfl)
    | refine roundEnd (i + 1) ?_ ?_ (Weak.of [0, 1, 2, 3] (.cons rfl rfl (.cons rfl rfl (.cons rfl rfl (.s rfl ?_ rfl (.cons rfl rfl .nil))))) (.cons (.same rfl rfl) (.cons (.same rfl rfl) (.cons (.arr rfl ?_) (.cons (.arr rfl ?_) (.nil _))))) rfl)
    | refine Ret.s [0, 1, 2] rfl ?_ (.cons (.same rfl rfl) (.cons (.same rfl rfl) (.cons (.arr rfl ?_) (.nil _)))) rfl
    | refine VC.mk ?_ ?_
  all_goals try simp only [decide_eq_true_eq, decide_eq_false_iff_not, Bool.not_eq_true', Bool.not_eq_false', cond_true, cond_false, eqB_true, eqB_false] at *
  all_goals try simp only [in64, idxAdd_zero_left, Int.toNat_natCast, fillTo_length, Int.ofNat_lt, Int.ofNat_le, Int.natCast_inj] at *
  all_goals try have hlr := goodPipes_len hg
  all_goals try
    have hR := RInv.outer (fl := fl) hg hu i
    have hR8 := hR.len
  all_goals try
    have hi2 : i < (srchN l fl u i).1.length := by omega
    have hI := (inner_inv (fl := fl) hg hu hi2 hk).1
    have hA := inner_at (fl := fl) hg hu hi2 hk
    have hI8 := hI.len
    have hbl := byOf_len u (innerN l fl u i k)
  all_goals try
    have hk2 : k < l.length := by omega
    have gp := goodPipes_at hg hk2
    have hcap := capB_iff.1 (hc.2 k hk2)
    have hsn := step_next hg hc hk2 ((innerN l fl u i k).1.getD i 0) (innerN l fl u i k)
  all_goals first
    | omega
    | (rw [srchN_zero]; done)
    | (rw [srchN_zero]; rfl)
    | (rw [innerN_zero]; done)
    | (rw [srchN_zero]; exact Nat.zero_le _)
    | (have e : j = 8 := by omega
       subst e
       first
       | exact byOf_zero l fl hu
       | exact (byOf_zero l fl hu).symm
       | omega
       | (simp; omega))
    | (simp only [List.replicate_succ', sub_snoc (List.length_replicate ..)]; done)
    | (rw [sub_snoc (List.length_replicate ..), List.replicate_succ']; done)
    | exact ⟨by simp, by simp, by omega⟩
    | exact ⟨by simp, by omega, by omega⟩
    | exact ⟨by omega, by omega⟩
    | (have e := inner_no hg hu hc hi2 hk2 (.inl (by omega))
       rw [e])
    | (have e := inner_no hg hu hc hi2 hk2 (.inr (by assumption))
       rw [e])
    | (have e := inner_yes hg hu hc hi2 hk2 (by omega) (by assumption)
       first
       | (rw [e.2]; done)
       | (rw [e.1, sub_snoc rfl]; done)
       | (rw [e.1]; simp; done))
    | (have e : k = l.length := by omega
       subst e
       have e2 := innerN_all (fl := fl) hi2
       first
       | (rw [e2]; done)
       | (rw [← e2]; omega))
    | (have e := srch_end (l := l) (fl := fl) (u := u) (i := i) (by omega) (by omega)
       rw [e])

end YtgkpdnacfpdomaaAM
