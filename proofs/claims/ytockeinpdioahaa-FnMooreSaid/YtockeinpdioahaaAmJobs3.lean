/- Contracts of functions of this seat. -/
import Derived.Test.YtockeinpdioahaaAmTabJobs
import Derived.Test.YtockeinpdioahaaAmModels
import Derived.Test.YtockeinpdioahaaAmJobs2
set_option linter.unusedVariables false
set_option linter.unusedSimpArgs false
set_option maxRecDepth 100000
set_option maxHeartbeats 2000000
namespace YtockeinpdioahaaAM
open Go Go.Proofs
attribute [local irreducible] foldN sortNK sortIK midLK insK rangeI goodJobs keepN midD copyL byL selN

theorem lawByDue_call (l : List S2) (hl : l.length ≤ 9223372036854775807) : ACall Try.prog 5 [.slice ⟨0, 0, 0, 2, 0⟩ l.length] [.arr true .s2 l] (Is (.bool true) [.arr true .s2 l]) := by
  refine ACall.walk T Try.func5 Try.ntmps5 Try.results5 rfl rfl rfl (Is.nv _ _) ?_
  repeat' (conv => whnf); first
    | refine AWP.seq ?_
    | refine AWP.reg T rfl ?_
    | refine AWP.drw T none rfl rfl rfl ?_
    | refine AWP.dep T none rfl rfl rfl rfl ?_
    | refine AWP.block ?_
    | refine AWP.condT rfl ?_
    | refine AWP.condF rfl ?_
    | refine AWP.cond rfl (fun hb => ?_) (fun hb => ?_)
    | refine AWP.ret ?_
    | refine AWP.exit ?_
    | refine AWP.skip ?_
    | refine GuardB.t ?_
    | refine GuardB.f ?_
    | refine GuardB.mk (fun hb => ?_) (fun hb => ?_)
    | refine NilQ.mk (fun hb => ?_) ?_
    | refine VC.mk Nat.zero_lt_one ?_
    | refine VC.mk rfl ?_
    | refine ACall.useIs [0] (szJobS_call _ _ ?_ ?_) rfl (.cons (.same rfl rfl) (.nil _)) rfl ?_
    | refine ACall.useIs [0] (toJobS_call _ ?_) rfl (.cons (.same rfl rfl) (.nil _)) rfl ?_
    | refine ACall.useIs [1] (specByDue_call _ ?_) rfl (.cons (.ro rfl rfl) (.nil _)) rfl ?_
    | refine ACall.useIs [3] (implByDue_call _ ?_) rfl (.cons (.ro rfl rfl) (.nil _)) rfl ?_
    | refine ACall.useIs [6] (implByDue_call _ ?_) rfl (.cons (.ro rfl rfl) (.nil _)) rfl ?_
    | refine ACall.useIs [4, 2] (eqIntS_call _ _ ?_) rfl (.cons (.ro rfl rfl) (.cons (.ro rfl rfl) (.nil _))) rfl ?_
    | refine ACall.useIs [7, 2] (eqIntS_call _ _ ?_) rfl (.cons (.ro rfl rfl) (.cons (.ro rfl rfl) (.nil _))) rfl ?_
    | refine ACall.useIs [3, 5] (eqJobS_call _ _ ?_) rfl (.cons (.ro rfl rfl) (.cons (.ro rfl rfl) (.nil _))) rfl ?_
    | refine ACall.useIs [3] (markJobS_call _ _ ?_ ?_) rfl (.cons (.same rfl rfl) (.nil _)) rfl ?_
    | refine ACall.useIs [4] (markIntS_call _ _ ?_ ?_) rfl (.cons (.same rfl rfl) (.nil _)) rfl ?_
    | refine ACall.useIs [4] (heldIntS_call _ _ ?_ ?_) rfl (.cons (.ro rfl rfl) (.nil _)) rfl ?_
    | refine Ret.bool [0] ?_ (.cons (.same rfl rfl) (.nil _)) rfl
    | refine VC.mk ?_ ?_
  all_goals try simp only [decide_eq_true_eq, decide_eq_false_iff_not, Bool.not_eq_true', Bool.not_eq_false', cond_true, cond_false, eqB_true, eqB_false] at *
  all_goals try simp only [in64, idxAdd_zero_left, Int.toNat_natCast, fillTo_length, Int.ofNat_lt, Int.ofNat_le, Int.natCast_inj] at *
  all_goals try simp only [marksI_length, marks2_length] at *
  all_goals try have hfact := bdL_le l
  all_goals first
    | rfl
    | omega
    | exact leftOf_ok (by assumption) (by omega)
    | (have := leftOf_ok (by assumption) (by omega : (1048576 : Int) ≤ 1048576); omega)
    | (simp_all [eqB]; done)
    | (simp_all [eqB]; omega)

theorem inLf_call (x : Int) (lf : List Int) (ht : lf.length ≤ 1048576) : ACall Try.prog 58 [.int .i64 x, .ptr ⟨0, 0, 0, 1, 0⟩] [.arr true (.raw 1) [[.slice ⟨1, 0, 0, 1, 0⟩ lf.length]], .arr true .int lf] (Is (.bool (hasB lf x)) [.arr true (.raw 1) [[.slice ⟨1, 0, 0, 1, 0⟩ lf.length]], .arr true .int lf]) := by
  refine ACall.walk T Try.func58 Try.ntmps58 Try.results58 rfl rfl rfl (Is.nv _ _) ?_
  repeat' (conv => whnf); first
    | refine AWP.seq ?_
    | refine AWP.reg T rfl ?_
    | refine AWP.drw T none rfl rfl rfl ?_
    | refine AWP.dep T none rfl rfl rfl rfl ?_
    | refine AWP.block ?_
    | refine AWP.condT rfl ?_
    | refine AWP.condF rfl ?_
    | refine AWP.cond rfl (fun hb => ?_) (fun hb => ?_)
    | refine AWP.ret ?_
    | refine AWP.exit ?_
    | refine AWP.skip ?_
    | refine GuardB.t ?_
    | refine GuardB.f ?_
    | refine GuardB.mk (fun hb => ?_) (fun hb => ?_)
    | refine NilQ.mk (fun hb => ?_) ?_
    | refine VC.mk Nat.zero_lt_one ?_
    | refine VC.mk rfl ?_
    | refine ACall.useIs [1] (slicesContains_call _ _ ?_) rfl (.cons (.same rfl rfl) (.nil _)) rfl ?_
    | refine Ret.bool [0, 1] ?_ (.cons (.same rfl rfl) (.cons (.same rfl rfl) (.nil _))) rfl
    | refine VC.mk ?_ ?_
  all_goals first
    | exact ht
    | rfl

theorem idxInLf_call (lf : List Int) (ht : lf.length ≤ 1048576) (l : List Int) (hl : l.length ≤ 1048576) : ACall Try.prog 73 [.slice ⟨0, 0, 0, 1, 0⟩ l.length, .func 58 [.ptr ⟨1, 0, 0, 1, 0⟩]] [.arr true .int l, .arr true (.raw 1) [[.slice ⟨2, 0, 0, 1, 0⟩ lf.length]], .arr true .int lf] (Is (.int .i64 (idxF (fun x => hasB lf x) l)) [.arr true .int l, .arr true (.raw 1) [[.slice ⟨2, 0, 0, 1, 0⟩ lf.length]], .arr true .int lf]) := by
  refine ACall.walk T Try.func73 Try.ntmps73 Try.results73 rfl rfl rfl (Is.nv _ _) ?_
  repeat' (conv => whnf); first
    | refine AWP.seq ?_
    | refine AWP.reg T rfl ?_
    | refine AWP.drw T none rfl rfl rfl ?_
    | refine AWP.dep T none rfl rfl rfl rfl ?_
    | refine AWP.block ?_
    | refine AWP.condT rfl ?_
    | refine AWP.condF rfl ?_
    | refine AWP.cond rfl (fun hb => ?_) (fun hb => ?_)
    | refine AWP.ret ?_
    | refine AWP.exit ?_
    | refine AWP.skip ?_
    | refine GuardB.t ?_
    | refine GuardB.f ?_
    | refine GuardB.mk (fun hb => ?_) (fun hb => ?_)
    | refine NilQ.mk (fun hb => ?_) ?_
    | refine VC.mk Nat.zero_lt_one ?_
    | refine VC.mk rfl ?_
    | refine AWP.while (ι := Nat) (fun k => St.of [(0, .slice ⟨0, 0, 0, 1, 0⟩ l.length), (1, .func 58 [.ptr ⟨1, 0, 0, 1, 0⟩]), (7, .int .i64 l.length), (8, .int .i64 k)] [.arr true .int l, .arr true (.raw 1) [[.slice ⟨2, 0, 0, 1, 0⟩ lf.length]], .arr true .int lf]) (fun k => NoneTo (fun x => hasB lf x) l k) (fun k => l.length - k) 0 (NoneTo.zero _ _)
        (Weak.of [0, 1, 2] (.cons rfl rfl (.cons rfl rfl (.cons rfl rfl (.cons rfl rfl .nil)))) (.cons (.same rfl rfl) (.cons (.same rfl rfl) (.cons (.same rfl rfl) (.nil _)))) rfl) (fun k hk => ?_)
    | refine ACall.useIs [1, 2] (inLf_call _ _ ht) rfl (.cons (.same rfl rfl) (.cons (.same rfl rfl) (.nil _))) rfl ?_
    | refine Ret.int [0, 1, 2] ?_ (.cons (.same rfl rfl) (.cons (.same rfl rfl) (.cons (.same rfl rfl) (.nil _)))) rfl
    | refine roundEnd (_ + 1) ?_ ?_ (Weak.of [0, 1, 2] (.cons rfl rfl (.cons rfl rfl (.cons rfl rfl (.cons rfl rfl .nil)))) (.cons (.same rfl rfl) (.cons (.same rfl rfl) (.cons (.same rfl rfl) (.nil _)))) rfl)
    | refine VC.mk ?_ ?_
  all_goals try simp only [decide_eq_true_eq, decide_eq_false_iff_not, Bool.not_eq_true', Bool.not_eq_false', cond_true, cond_false, eqB_true, eqB_false] at *
  all_goals try simp only [in64, idxAdd_zero_left, Int.toNat_natCast, fillTo_length, Int.ofNat_lt, Int.ofNat_le, Int.natCast_inj] at *
  all_goals first
    | omega
    | (have := hk.1; omega)
    | exact idxF_none (fun j hj => hk.2 j hj (by omega))
    | (have h2 : k < l.length := by omega
       simp only [getD_get h2] at *
       first
       | exact hk.next h2 (by simp_all)
       | exact idxF_here h2 (fun j hj => hk.2 j (by omega) hj) (by simp_all))

theorem delInLf_call (lf : List Int) (ht : lf.length ≤ 1048576) (l : List Int) (hl : l.length ≤ 1048576) : ACall Try.prog 57 [.slice ⟨0, 0, 0, 1, 0⟩ l.length, .func 58 [.ptr ⟨1, 0, 0, 1, 0⟩]] [.arr false .int (l), .arr true (.raw 1) [[.slice ⟨2, 0, 0, 1, 0⟩ lf.length]], .arr true .int lf] (Is (.slice ⟨0, 0, 0, 1, 0⟩ (l.filter fun x => !(fun x => hasB lf x) x).length) [.arr false .int (l.filter fun x => !(fun x => hasB lf x) x), .arr true (.raw 1) [[.slice ⟨2, 0, 0, 1, 0⟩ lf.length]], .arr true .int lf]) := by
  refine ACall.walk T Try.func57 Try.ntmps57 Try.results57 rfl rfl rfl (Is.nv _ _) ?_
  repeat' (conv => whnf); first
    | refine AWP.regX (id := 11) T 3 rfl ?_
    | refine AWP.retCut (id := 0) (k := (l.filter fun x => !(fun x => hasB lf x) x).length) rfl ?_
    | refine AWP.seq ?_
    | refine AWP.reg T rfl ?_
    | refine AWP.drw T none rfl rfl rfl ?_
    | refine AWP.dep T none rfl rfl rfl rfl ?_
    | refine AWP.block ?_
    | refine AWP.condT rfl ?_
    | refine AWP.condF rfl ?_
    | refine AWP.cond rfl (fun hb => ?_) (fun hb => ?_)
    | refine AWP.ret ?_
    | refine AWP.exit ?_
    | refine AWP.skip ?_
    | refine GuardB.t ?_
    | refine GuardB.f ?_
    | refine GuardB.mk (fun hb => ?_) (fun hb => ?_)
    | refine NilQ.mk (fun hb => ?_) ?_
    | refine VC.mk Nat.zero_lt_one ?_
    | refine VC.mk rfl ?_
    | refine ACall.useIs [0, 1, 2] (idxInLf_call _ ht l hl) rfl (.cons (.ro rfl rfl) (.cons (.same rfl rfl) (.cons (.same rfl rfl) (.nil _)))) rfl ?_
    | obtain ⟨k, hk0, hk1, hk2, hk3⟩ := idxF_at (p := fun x => hasB lf x) (l := l) (of_decide_eq_false (by assumption))
      have hj0 := midD_start (p := fun x => hasB lf x) hk1 hk2 hk3
      refine AWP.while (ι := Nat) (fun j => St.of [(0, .slice ⟨0, 0, 0, 1, 0⟩ l.length), (1, .func 58 [.ptr ⟨1, 0, 0, 1, 0⟩]), (5, .int .i64 (keepN (fun x => hasB lf x) l j).length), (6, .int .i64 j)] [.arr false .int (midD (fun x => hasB lf x) l j), .arr true (.raw 1) [[.slice ⟨2, 0, 0, 1, 0⟩ lf.length]], .arr true .int lf]) (fun j => j ≤ l.length) (fun j => l.length - j) (k + 1) ?_
        (Weak.of [0, 1, 2] (.cons rfl rfl (.cons rfl rfl (.i rfl ?_ (.i rfl ?_ .nil)))) (.cons (.arr rfl ?_) (.cons (.same rfl rfl) (.cons (.same rfl rfl) (.nil _)))) rfl) (fun j hj => ?_)
    | refine ACall.useIs [1, 2] (inLf_call _ _ ht) rfl (.cons (.same rfl rfl) (.cons (.same rfl rfl) (.nil _))) rfl ?_
    | refine roundEnd (j + 1) ?_ ?_ (Weak.of [0, 1, 2] (.cons rfl rfl (.cons rfl rfl (.i rfl ?_ (.cons rfl rfl .nil)))) (.cons (.arr rfl ?_) (.cons (.same rfl rfl) (.cons (.same rfl rfl) (.nil _)))) rfl)
    | refine XGoal.clr rfl ?_
    | refine Ret.s [0, 1, 2] rfl ?_ (.cons (.arr rfl ?_) (.cons (.same rfl rfl) (.cons (.same rfl rfl) (.nil _)))) rfl
    | refine VC.mk ?_ ?_
  all_goals try simp only [decide_eq_true_eq, decide_eq_false_iff_not, Bool.not_eq_true', Bool.not_eq_false', cond_true, cond_false, eqB_true, eqB_false] at *
  all_goals try simp only [in64, idxAdd_zero_left, Int.toNat_natCast, fillTo_length, Int.ofNat_lt, Int.ofNat_le, Int.natCast_inj] at *
  all_goals try have hkl := keepN_le (p := fun x => hasB lf x) (l := l) (j := j)
  all_goals try have hkl2 := keepN_le2 (p := fun x => hasB lf x) (l := l) (j := j)
  all_goals try simp only [midD_length, copyL_length] at *
  all_goals try
    have hj2 : j < l.length := by omega
    have hat := midD_at (p := fun x => hasB lf x) hj2
    simp only [hat] at *
  all_goals try
    have hix := idxF_lt (fun x => hasB lf x) l
  all_goals first
    | omega
    | exact ⟨by omega, by omega⟩
    | exact ⟨by omega, by omega, by omega⟩
    | exact ⟨by omega, rfl, rfl⟩
    | (rw [idxF_no (by assumption), List.take_of_length_le (Nat.le_refl _)]; done)
    | exact hj0.2
    | exact hj0.2.symm
    | (rw [hj0.1]; omega)
    | (rw [hk0, hj0.1])
    | exact (idxF_no (by assumption)).symm
    | exact idxF_no (by assumption)
    | (rw [idxF_no (by assumption)]; done)
    | (rw [midD_yes hj2 (by assumption)]; done)
    | (rw [keepN_yes hj2 (by assumption)]; done)
    | exact midD_no hj2 (by assumption)
    | (rw [keepN_no hj2 (by assumption)]; simp; done)
    | exact ⟨by omega, trivial, trivial⟩
    | (have e := keepN_all (p := fun x => hasB lf x) (l := l) (j := j) (by omega)
       try dsimp only at e
       first
       | (rw [← e]; done)
       | exact congrArg List.length e
       | (rw [← e]; exact (midD_cut (by simp; omega)).symm)
       | (rw [← e]; exact midD_cut (by simp; omega)))

theorem delInLf2_call (lf : List Int) (ht : lf.length ≤ 1048576) (l : List Int) (c : Nat) (hl : l.length ≤ 1048576) (hc : l.length = c) : ACall Try.prog 57 [.slice ⟨0, 0, 0, 1, 0⟩ c, .func 58 [.ptr ⟨1, 0, 0, 1, 0⟩]] [.arr false .int (l), .arr true (.raw 1) [[.slice ⟨2, 0, 0, 1, 0⟩ lf.length]], .arr true .int lf] (Is (.slice ⟨0, 0, 0, 1, 0⟩ (l.filter fun x => !hasB lf x).length) [.arr false .int (l.filter fun x => !hasB lf x), .arr true (.raw 1) [[.slice ⟨2, 0, 0, 1, 0⟩ lf.length]], .arr true .int lf]) := by
  subst hc
  exact delInLf_call lf ht l hl

theorem specOrderFor_call (l : List S2) (s : List Int) (hl : l.length ≤ 1048576) (hs : s.length ≤ 1048576) : ACall Try.prog 27 [.slice ⟨0, 0, 0, 2, 0⟩ l.length, .slice ⟨1, 0, 0, 1, 0⟩ s.length] [.arr true .s2 l, .arr true .int s] (Is (.tuple [.slice ⟨2, 0, 0, 1, 0⟩ (ofL l s).length, .bool (ofOk l s)]) [.arr true .s2 l, .arr true .int s, .arr false .int (ofL l s)]) := by
  refine ACall.walk T Try.func27 Try.ntmps27 Try.results27 rfl rfl rfl (Is.nv _ _) ?_
  repeat' (conv => whnf); first
    | refine AWP.seq ?_
    | refine AWP.reg T rfl ?_
    | refine AWP.drw T none rfl rfl rfl ?_
    | refine AWP.dep T none rfl rfl rfl rfl ?_
    | refine AWP.block ?_
    | refine AWP.condT rfl ?_
    | refine AWP.condF rfl ?_
    | refine AWP.cond rfl (fun hb => ?_) (fun hb => ?_)
    | refine AWP.ret ?_
    | refine AWP.exit ?_
    | refine AWP.skip ?_
    | refine GuardB.t ?_
    | refine GuardB.f ?_
    | refine GuardB.mk (fun hb => ?_) (fun hb => ?_)
    | refine NilQ.mk (fun hb => ?_) ?_
    | refine VC.mk Nat.zero_lt_one ?_
    | refine VC.mk rfl ?_
    | refine ACall.useIs [0] (specGoodJobs_call _ ?_) rfl (.cons (.same rfl rfl) (.nil _)) rfl ?_
    | refine ACall.useIs [1] (l1Some_call _ _ ?_) rfl (.cons (.same rfl rfl) (.nil _)) rfl ?_
    | refine ACall.useIs [1] (l1Has_call _ _ ?_) rfl (.cons (.same rfl rfl) (.nil _)) rfl ?_
    | refine AWP.while (ι := Nat) (fun k => St.of [(0, .slice ⟨0, 0, 0, 2, 0⟩ l.length), (1, .slice ⟨1, 0, 0, 1, 0⟩ s.length), (6, .slice ⟨2, 0, 0, 1, 0⟩ (selN (fun x => !hasB s x) k).length), (18, .slice ⟨0, 0, 0, 2, 0⟩ l.length), (19, .int .i64 l.length), (20, .int .i64 k)] [.arr true .s2 l, .arr true .int s, .arr false .int (selN (fun x => !hasB s x) k)]) (fun k => k ≤ l.length) (fun k => l.length - k) 0 (Nat.zero_le _)
        (Weak.of [0, 1, 3] (.cons rfl rfl (.cons rfl rfl (.s rfl ?_ rfl (.cons rfl rfl (.cons rfl rfl (.cons rfl rfl .nil)))))) (.cons (.same rfl rfl) (.cons (.same rfl rfl) (.cons (.arr rfl ?_) (.nil _)))) rfl) (fun k hk => ?_)
    | refine roundEnd (k + 1) ?_ ?_ (Weak.of [0, 1, 4] (.cons rfl rfl (.cons rfl rfl (.s rfl ?_ rfl (.cons rfl rfl (.cons rfl rfl (.cons rfl rfl .nil)))))) (.cons (.same rfl rfl) (.cons (.same rfl rfl) (.cons (.arr rfl ?_) (.nil _)))) rfl)
    | refine roundEnd (k + 1) ?_ ?_ (Weak.of [0, 1, 2] (.cons rfl rfl (.cons rfl rfl (.s rfl ?_ rfl (.cons rfl rfl (.cons rfl rfl (.cons rfl rfl .nil)))))) (.cons (.same rfl rfl) (.cons (.same rfl rfl) (.cons (.arr rfl ?_) (.nil _)))) rfl)
    | refine ACall.useIs [0, 1] (l12By_call l s ?_ ?_ ?_) rfl (.cons (.same rfl rfl) (.cons (.same rfl rfl) (.nil _))) rfl ?_
    | refine ACall.useIs [0, 2] (l12By_call l (selN (fun x => !hasB s x) k) ?_ ?_ ?_) rfl (.cons (.same rfl rfl) (.cons (.ro rfl rfl) (.nil _))) rfl ?_
    | refine Ret.sb [0, 1, 5] rfl ?_ ?_ (.cons (.same rfl rfl) (.cons (.same rfl rfl) (.cons (.arr rfl ?_) (.nil _)))) rfl
    | refine Ret.sb [0, 1, 3] rfl ?_ ?_ (.cons (.same rfl rfl) (.cons (.same rfl rfl) (.cons (.arr rfl ?_) (.nil _)))) rfl
    | refine VC.mk ?_ ?_
  all_goals try simp only [decide_eq_true_eq, decide_eq_false_iff_not, Bool.not_eq_true', Bool.not_eq_false', cond_true, cond_false, eqB_true, eqB_false] at *
  all_goals try simp only [in64, idxAdd_zero_left, Int.toNat_natCast, fillTo_length, Int.ofNat_lt, Int.ofNat_le, Int.natCast_inj] at *
  all_goals try
    have hg : goodJobs l = true := by assumption
    have hgl := goodJobs_len hg
  all_goals try
    have hsm : someB s l.length = true := by assumption
    have hsl := someB_len hsm
    have hrl := rest_le l s
    have hb1 := byL_len l s
    have hb2 := byL_len l ((rangeI l.length).filter fun x => !hasB s x)
    have hok : ofOk l s = true := by rw [ofOk, hg, hsm]; rfl
    have hol : ofL l s = byL l s ++ byL l ((rangeI l.length).filter fun x => !hasB s x) := by rw [ofL, if_pos (by rw [hg, hsm]; rfl)]
  all_goals try have hkk := selN_le (fun x => !hasB s x) k
  all_goals try have hb3 := byL_len l (selN (fun x => !hasB s x) k)
  all_goals first
    | exact hl
    | exact hs
    | exact hg
    | assumption
    | omega
    | exact ⟨by omega, by omega⟩
    | (refine ⟨?_, ?_, ?_⟩ <;> first | omega | (simp; done) | (simp [sub]; done) | (simp; omega) | (simp [sub]; omega))
    | (rw [Int.toNat_natCast, rangeI_length]; omega)
    | (rw [rangeI_length]; omega)
    | exact rangeI_length _
    | (intro y hy; exact someB_mem hsm hy)
    | (intro y hy; have := rangeI_mem.1 (List.mem_filter.1 hy).1; omega)
    | (intro y hy; rw [selN] at hy; have := rangeI_mem.1 (List.mem_filter.1 hy).1; omega)
    | exact selN_zero _
    | (rw [selN_zero]; done)
    | (rw [selN_zero]; rfl)
    | (have e := selN_yes (q := fun x => !hasB s x) (k := k) (by simp_all)
       first
       | (rw [e, sub_snoc' rfl]; done)
       | (rw [e]; simp; done))
    | (have e := selN_no (q := fun x => !hasB s x) (k := k) (by simp_all)
       first
       | (rw [e]; done))
    | (have e : k = l.length := by omega
       subst e
       first
       | (rw [hol, selN, sub_all' hb1.symm, sub_all' hb2.symm]; done)
       | (rw [hol, List.length_append, hb1, hb2, selN]; done)
       | (rw [hol, List.length_append]; omega))
    | (rw [hol, sub_all' hb1.symm, sub_all' hb2.symm]; done)
    | (rw [hol, List.length_append, hb1, hb2]; done)
    | (rw [hok]; done)
    | rfl
    | (have hn : ofOk l s = false := by (rw [ofOk]; simp_all; done)
       first
       | (rw [ofL, if_neg (by rw [ofOk] at hn; rw [hn]; simp)]; done)
       | (rw [ofL, if_neg (by rw [ofOk] at hn; rw [hn]; simp)]; rfl)
       | (rw [hn]; done))

theorem implOrderFor_call (l : List S2) (s : List Int) (hl : l.length ≤ 1048576) (hs : s.length ≤ 1048576) : ACall Try.prog 29 [.slice ⟨0, 0, 0, 2, 0⟩ l.length, .slice ⟨1, 0, 0, 1, 0⟩ s.length] [.arr true .s2 l, .arr true .int s] (Is (.tuple [.slice ⟨2, 0, 0, 1, 0⟩ (ofL l s).length, .bool (ofOk l s)]) [.arr true .s2 l, .arr true .int s, .arr false .int (ofL l s)]) := by
  refine ACall.walk T Try.func29 Try.ntmps29 Try.results29 rfl rfl rfl (Is.nv _ _) ?_
  repeat' (conv => whnf); first
    | refine AWP.seq ?_
    | refine AWP.reg T rfl ?_
    | refine AWP.drw T none rfl rfl rfl ?_
    | refine AWP.dep T none rfl rfl rfl rfl ?_
    | refine AWP.block ?_
    | refine AWP.condT rfl ?_
    | refine AWP.condF rfl ?_
    | refine AWP.cond rfl (fun hb => ?_) (fun hb => ?_)
    | refine AWP.ret ?_
    | refine AWP.exit ?_
    | refine AWP.skip ?_
    | refine GuardB.t ?_
    | refine GuardB.f ?_
    | refine GuardB.mk (fun hb => ?_) (fun hb => ?_)
    | refine NilQ.mk (fun hb => ?_) ?_
    | refine VC.mk Nat.zero_lt_one ?_
    | refine VC.mk rfl ?_
    | refine ACall.useIs [0] (implGoodJobs_call _ ?_) rfl (.cons (.same rfl rfl) (.nil _)) rfl ?_
    | refine ACall.useIs [1] (rise_call _ _ ?_) rfl (.cons (.same rfl rfl) (.nil _)) rfl ?_
    | refine ACall.useIs [] (numbered_call _ ?_) rfl (.nil _) rfl ?_
    | refine ACall.useIs [4, 2, 1] (delInLf2_call s ?_ (rangeI l.length) l.length ?_ ?_) rfl (.cons (.same rfl rfl) (.cons (.ro rfl rfl) (.cons (.same rfl rfl) (.nil _)))) rfl ?_
    | refine ACall.useIs [0, 1] (implByDueS_call l s ?_ ?_ ?_) rfl (.cons (.same rfl rfl) (.cons (.same rfl rfl) (.nil _))) rfl ?_
    | refine ACall.useIs [0, 4] (implByDueS_call l ((rangeI l.length).filter fun x => !hasB s x) ?_ ?_ ?_) rfl (.cons (.same rfl rfl) (.cons (.ro rfl rfl) (.nil _))) rfl ?_
    | refine Ret.sb [0, 1, 7] rfl ?_ ?_ (.cons (.same rfl rfl) (.cons (.same rfl rfl) (.cons (.arr rfl ?_) (.nil _)))) rfl
    | refine Ret.sb [0, 1, 4] rfl ?_ ?_ (.cons (.same rfl rfl) (.cons (.same rfl rfl) (.cons (.arr rfl ?_) (.nil _)))) rfl
    | refine VC.mk ?_ ?_
  all_goals try simp only [decide_eq_true_eq, decide_eq_false_iff_not, Bool.not_eq_true', Bool.not_eq_false', cond_true, cond_false, eqB_true, eqB_false] at *
  all_goals try simp only [in64, idxAdd_zero_left, Int.toNat_natCast, fillTo_length, Int.ofNat_lt, Int.ofNat_le, Int.natCast_inj] at *
  all_goals try
    have hg : goodJobs l = true := by assumption
    have hgl := goodJobs_len hg
  all_goals try
    have hsm : someB s l.length = true := by assumption
    have hsl := someB_len hsm
    have hrl := rest_le l s
    have hb1 := byL_len l s
    have hb2 := byL_len l ((rangeI l.length).filter fun x => !hasB s x)
    have hok : ofOk l s = true := by rw [ofOk, hg, hsm]; rfl
    have hol : ofL l s = byL l s ++ byL l ((rangeI l.length).filter fun x => !hasB s x) := by rw [ofL, if_pos (by rw [hg, hsm]; rfl)]
  all_goals try have hkk := selN_le (fun x => !hasB s x) k
  all_goals try have hb3 := byL_len l (selN (fun x => !hasB s x) k)
  all_goals first
    | exact hl
    | exact hs
    | exact hg
    | assumption
    | omega
    | exact ⟨by omega, by omega⟩
    | (refine ⟨?_, ?_, ?_⟩ <;> first | omega | (simp; done) | (simp [sub]; done) | (simp; omega) | (simp [sub]; omega))
    | (rw [Int.toNat_natCast, rangeI_length]; omega)
    | (rw [rangeI_length]; omega)
    | exact rangeI_length _
    | (intro y hy; exact someB_mem hsm hy)
    | (intro y hy; have := rangeI_mem.1 (List.mem_filter.1 hy).1; omega)
    | (intro y hy; rw [selN] at hy; have := rangeI_mem.1 (List.mem_filter.1 hy).1; omega)
    | exact selN_zero _
    | (rw [selN_zero]; done)
    | (rw [selN_zero]; rfl)
    | (have e := selN_yes (q := fun x => !hasB s x) (k := k) (by simp_all)
       first
       | (rw [e, sub_snoc' rfl]; done)
       | (rw [e]; simp; done))
    | (have e := selN_no (q := fun x => !hasB s x) (k := k) (by simp_all)
       first
       | (rw [e]; done))
    | (have e : k = l.length := by omega
       subst e
       first
       | (rw [hol, selN, sub_all' hb1.symm, sub_all' hb2.symm]; done)
       | (rw [hol, List.length_append, hb1, hb2, selN]; done)
       | (rw [hol, List.length_append]; omega))
    | (rw [hol, sub_all' hb1.symm, sub_all' hb2.symm]; done)
    | (rw [hol, List.length_append, hb1, hb2]; done)
    | (rw [hok]; done)
    | rfl
    | (have hn : ofOk l s = false := by (rw [ofOk]; simp_all; done)
       first
       | (rw [ofL, if_neg (by rw [ofOk] at hn; rw [hn]; simp)]; done)
       | (rw [ofL, if_neg (by rw [ofOk] at hn; rw [hn]; simp)]; rfl)
       | (rw [hn]; done))

theorem lawOrderFor_call (l : List S2) (s : List Int) (hl : l.length ≤ 9223372036854775807) (hs : s.length ≤ 9223372036854775807) : ACall Try.prog 6 [.slice ⟨0, 0, 0, 2, 0⟩ l.length, .slice ⟨1, 0, 0, 1, 0⟩ s.length] [.arr true .s2 l, .arr true .int s] (Is (.bool true) [.arr true .s2 l, .arr true .int s]) := by
  refine ACall.walk T Try.func6 Try.ntmps6 Try.results6 rfl rfl rfl (Is.nv _ _) ?_
  repeat' (conv => whnf); first
    | refine AWP.seq ?_
    | refine AWP.reg T rfl ?_
    | refine AWP.drw T none rfl rfl rfl ?_
    | refine AWP.dep T none rfl rfl rfl rfl ?_
    | refine AWP.block ?_
    | refine AWP.condT rfl ?_
    | refine AWP.condF rfl ?_
    | refine AWP.cond rfl (fun hb => ?_) (fun hb => ?_)
    | refine AWP.ret ?_
    | refine AWP.exit ?_
    | refine AWP.skip ?_
    | refine GuardB.t ?_
    | refine GuardB.f ?_
    | refine GuardB.mk (fun hb => ?_) (fun hb => ?_)
    | refine NilQ.mk (fun hb => ?_) ?_
    | refine VC.mk Nat.zero_lt_one ?_
    | refine VC.mk rfl ?_
    | refine ACall.useIs [0] (szJobS_call _ _ ?_ ?_) rfl (.cons (.same rfl rfl) (.nil _)) rfl ?_
    | refine ACall.useIs [0] (toJobS_call _ ?_) rfl (.cons (.same rfl rfl) (.nil _)) rfl ?_
    | refine ACall.useIs [1] (toIntS_call _ ?_) rfl (.cons (.same rfl rfl) (.nil _)) rfl ?_
    | refine ACall.useIs [2, 3] (specOrderFor_call _ _ ?_ ?_) rfl (.cons (.ro rfl rfl) (.cons (.ro rfl rfl) (.nil _))) rfl ?_
    | refine ACall.useIs [5, 6] (implOrderFor_call _ _ ?_ ?_) rfl (.cons (.ro rfl rfl) (.cons (.ro rfl rfl) (.nil _))) rfl ?_
    | refine ACall.useIs [10, 11] (implOrderFor_call _ _ ?_ ?_) rfl (.cons (.ro rfl rfl) (.cons (.ro rfl rfl) (.nil _))) rfl ?_
    | refine ACall.useIs [7, 4] (eqIntS_call _ _ ?_) rfl (.cons (.ro rfl rfl) (.cons (.ro rfl rfl) (.nil _))) rfl ?_
    | refine ACall.useIs [5, 8] (eqJobS_call _ _ ?_) rfl (.cons (.ro rfl rfl) (.cons (.ro rfl rfl) (.nil _))) rfl ?_
    | refine ACall.useIs [6, 9] (eqIntS_call _ _ ?_) rfl (.cons (.ro rfl rfl) (.cons (.ro rfl rfl) (.nil _))) rfl ?_
    | refine ACall.useIs [12, 4] (eqIntS_call _ _ ?_) rfl (.cons (.ro rfl rfl) (.cons (.ro rfl rfl) (.nil _))) rfl ?_
    | refine ACall.useIs [5] (markJobS_call _ _ ?_ ?_) rfl (.cons (.same rfl rfl) (.nil _)) rfl ?_
    | refine ACall.useIs [6] (markIntS_call _ _ ?_ ?_) rfl (.cons (.same rfl rfl) (.nil _)) rfl ?_
    | refine ACall.useIs [7] (markIntS_call _ _ ?_ ?_) rfl (.cons (.same rfl rfl) (.nil _)) rfl ?_
    | refine ACall.useIs [7] (heldIntS_call _ _ ?_ ?_) rfl (.cons (.ro rfl rfl) (.nil _)) rfl ?_
    | refine Ret.bool [0, 1] ?_ (.cons (.same rfl rfl) (.cons (.same rfl rfl) (.nil _))) rfl
    | refine VC.mk ?_ ?_
  all_goals try simp only [decide_eq_true_eq, decide_eq_false_iff_not, Bool.not_eq_true', Bool.not_eq_false', cond_true, cond_false, eqB_true, eqB_false] at *
  all_goals try simp only [in64, idxAdd_zero_left, Int.toNat_natCast, fillTo_length, Int.ofNat_lt, Int.ofNat_le, Int.natCast_inj] at *
  all_goals try simp only [marksI_length, marks2_length] at *
  all_goals try have hfact := ofL_le l s
  all_goals first
    | rfl
    | omega
    | exact leftOf_ok (by assumption) (by omega)
    | (have := leftOf_ok (by assumption) (by omega : (1048576 : Int) ≤ 1048576); omega)
    | (simp_all [eqB]; done)
    | (simp_all [eqB]; omega)

end YtockeinpdioahaaAM
