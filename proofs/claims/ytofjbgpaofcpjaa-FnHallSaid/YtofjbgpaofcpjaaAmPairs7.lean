/- Contracts of functions of this seat. -/
import Derived.Test.YtofjbgpaofcpjaaAmTabPairs
import Derived.Test.YtofjbgpaofcpjaaAmModels
import Derived.Test.YtofjbgpaofcpjaaAmPairs6
set_option linter.unusedVariables false
set_option linter.unusedSimpArgs false
set_option maxRecDepth 100000
set_option maxHeartbeats 2000000
namespace YtofjbgpaofcpjaaAM
open Go Go.Proofs
attribute [local irreducible] foldN askR askN maskL impB impO bestN freeN stQ rowQ qN inQ sortI sortN goodP isMatch matchB tryA

theorem isMatchNo_call (n m : Int) (ll : List (List Int)) (mt : List Int) (hr : SmallR ll) (hm : mt.length ≤ 1048576) (hn : ¬ (mt.length : Int) = n) : ACall Try.prog 53 [.agg [.int .i64 n, .int .i64 m, .slice ⟨0, 0, 0, 1, 0⟩ ll.length], .slice ⟨1, 0, 0, 1, 0⟩ mt.length] [.rows true ll, .arr true .int mt] (Is (.bool false) [.rows true ll, .arr true .int mt]) := by
  refine ACall.walk T Try.func53 Try.ntmps53 Try.results53 rfl rfl rfl (Is.nv _ _) ?_
  repeat' (conv => whnf); first
    | refine AWP.cond rfl (fun hb => ?_) (fun hb => absurd (of_decide_eq_true (by simpa using hb)) hn)
    | refine AWP.seq ?_
    | refine AWP.reg T rfl ?_
    | refine AWP.drw T none rfl rfl rfl ?_
    | refine AWP.dep T none rfl rfl rfl rfl ?_
    | refine AWP.block ?_
    | refine AWP.condT rfl ?_
    | refine AWP.condF rfl ?_
    | refine AWP.cond rfl (fun hb => ?_) (fun hb => ?_)
    | refine AWP.ret ?_
    | refine AWP.exit ?_
    | refine AWP.skip ?_
    | refine GuardB.t ?_
    | refine GuardB.f ?_
    | refine GuardB.mk (fun hb => ?_) (fun hb => ?_)
    | refine NilQ.mk (fun hb => ?_) ?_
    | refine VC.mk Nat.zero_lt_one ?_
    | refine VC.mk rfl ?_
    | refine Ret.bool [0, 1] ?_ (.cons (.same rfl rfl) (.cons (.same rfl rfl) (.nil _))) rfl
    | refine VC.mk ?_ ?_
  all_goals rfl

theorem isMatchAny_call (n m : Int) (ll : List (List Int)) (mt : List Int) (hr : SmallR ll) (hm : mt.length ≤ 1048576) (hg : goodP n m ll = true) : ACall Try.prog 53 [.agg [.int .i64 n, .int .i64 m, .slice ⟨0, 0, 0, 1, 0⟩ ll.length], .slice ⟨1, 0, 0, 1, 0⟩ mt.length] [.rows true ll, .arr true .int mt] (Is (.bool (isMatch n m ll mt)) [.rows true ll, .arr true .int mt]) := by
  have hgl := goodP_len hg
  by_cases hn : (mt.length : Int) = n
  · have e : isMatch n m ll mt = matchB ll mt := by rw [isMatch, matchOk, hg]; simp [hn]
    rw [e]
    exact isMatch_call n m ll mt hr hm (by omega) hn
  · have e : isMatch n m ll mt = false := by rw [isMatch, matchOk, hg]; simp [hn]
    rw [e]
    exact isMatchNo_call n m ll mt hr hm hn
theorem isMatch_len {n m : Int} {ll : List (List Int)} {mt : List Int} (h : isMatch n m ll mt = true) : goodP n m ll = true ∧ (mt.length : Int) = n := by
  simp only [isMatch, matchOk, Bool.and_eq_true, decide_eq_true_eq] at h
  exact h.1
theorem isMatch_ok (n m : Int) (ll : List (List Int)) (mt : List Int) : (isMatch n m ll mt && matchOk n m ll mt) = isMatch n m ll mt := by
  rw [isMatch]; cases matchOk n m ll mt <;> simp
theorem isMatch_no {n m : Int} {ll : List (List Int)} {mt : List Int} (h : goodP n m ll = false) : isMatch n m ll mt = false := by
  rw [isMatch, matchOk, h]; simp
theorem matchOk_of {n m : Int} {ll : List (List Int)} {mt : List Int} (h : isMatch n m ll mt = true) : matchOk n m ll mt = true := by
  simp only [isMatch, Bool.and_eq_true] at h
  exact h.1

theorem specImproveMatch_call (n m : Int) (ll : List (List Int)) (mt : List Int) (hr : SmallR ll) (hm : mt.length ≤ 1048576) : ACall Try.prog 23 [.agg [.int .i64 n, .int .i64 m, .slice ⟨0, 0, 0, 1, 0⟩ ll.length], .slice ⟨1, 0, 0, 1, 0⟩ mt.length] [.rows true ll, .arr true .int mt] (Is (.tuple [.slice ⟨2, 0, 0, 1, 0⟩ (imL n m ll mt).length, .bool (imOk n m ll mt)]) [.rows true ll, .arr true .int mt, .arr false .int (imL n m ll mt)]) := by
  refine ACall.walk T Try.func23 Try.ntmps23 Try.results23 rfl rfl rfl (Is.nv _ _) ?_
  repeat' (conv => whnf); first
    | refine AWP.seq ?_
    | refine AWP.reg T rfl ?_
    | refine AWP.drw T none rfl rfl rfl ?_
    | refine AWP.dep T none rfl rfl rfl rfl ?_
    | refine AWP.block ?_
    | refine AWP.condT rfl ?_
    | refine AWP.condF rfl ?_
    | refine AWP.cond rfl (fun hb => ?_) (fun hb => ?_)
    | refine AWP.ret ?_
    | refine AWP.exit ?_
    | refine AWP.skip ?_
    | refine GuardB.t ?_
    | refine GuardB.f ?_
    | refine GuardB.mk (fun hb => ?_) (fun hb => ?_)
    | refine NilQ.mk (fun hb => ?_) ?_
    | refine VC.mk Nat.zero_lt_one ?_
    | refine VC.mk rfl ?_
    | refine ACall.useIs [0, 1] (specIsMatch_call _ _ _ _ ?_ ?_) rfl (.cons (.same rfl rfl) (.cons (.same rfl rfl) (.nil _))) rfl ?_
    | refine ACall.useIs [0, 1] (l10Improve_call n m ll hr ?_ mt mt.length ?_ rfl) rfl (.cons (.same rfl rfl) (.cons (.same rfl rfl) (.nil _))) rfl ?_
    | refine Ret.sb [0, 1, 4] rfl ?_ ?_ (.cons (.same rfl rfl) (.cons (.same rfl rfl) (.cons (.arr rfl ?_) (.nil _)))) rfl
    | refine Ret.sb [0, 1, 3] rfl ?_ ?_ (.cons (.same rfl rfl) (.cons (.same rfl rfl) (.cons (.arr rfl ?_) (.nil _)))) rfl
    | refine VC.mk ?_ ?_
  all_goals try simp only [decide_eq_true_eq, decide_eq_false_iff_not, Bool.not_eq_true', Bool.not_eq_false', cond_true, cond_false, eqB_true, eqB_false] at *
  all_goals try simp only [in64, idxAdd_zero_left, Int.toNat_natCast, fillTo_length, Int.ofNat_lt, Int.ofNat_le, Int.natCast_inj] at *
  all_goals try
    have hi : isMatch n m ll mt = true := by assumption
    have hg := (isMatch_len hi).1
    have hgl := goodP_len hg
    have hil := (isMatch_len hi).2
    have hw := goodP_wish hg
    have hol := impO_len hw mt
  all_goals first
    | omega
    | exact hr
    | exact hm
    | assumption
    | rfl
    | (rw [imOk, hi]; simp; done)
    | (rw [imOk, hi]; simp_all; done)
    | (have hf : isMatch n m ll mt = false := by first | assumption | exact isMatch_no (by assumption)
       first
       | (rw [imOk, hf]; rfl)
       | (rw [imL, if_neg (by rw [imOk, hf]; simp)]; done)
       | (rw [imL, if_neg (by rw [imOk, hf]; simp)]; rfl))
    | (have hok : matchOk n m ll mt = false := by assumption
       have hf : isMatch n m ll mt = false := by rw [isMatch, hok]; rfl
       first
       | (rw [imOk, hf]; rfl)
       | (rw [imL, if_neg (by rw [imOk, hf]; simp)]; done)
       | (rw [imL, if_neg (by rw [imOk, hf]; simp)]; rfl))
    | (cases hb2 : impB ll mt
       · first
         | (rw [imOk, hi, hb2]; rfl)
         | (rw [imL, if_neg (by rw [imOk, hb2]; simp), impR, if_neg (by rw [hb2]; simp)]; done)
         | (rw [imL, if_neg (by rw [imOk, hb2]; simp)]; done)
         | (rw [imL, if_neg (by rw [imOk, hb2]; simp)]; rfl)
         | simp_all
       · first
         | (rw [imOk, hi, hb2]; rfl)
         | (rw [imL, if_pos (by rw [imOk, hi, hb2]; rfl), impR, if_pos hb2]; done)
         | (rw [imL, if_pos (by rw [imOk, hi, hb2]; rfl)]; done)
         | (rw [imL, if_pos (by rw [imOk, hi, hb2]; rfl), hol]; done)
         | (rw [imL, if_pos (by rw [imOk, hi, hb2]; rfl), hol]; omega)
         | simp_all)

theorem implImproveMatch_call (n m : Int) (ll : List (List Int)) (mt : List Int) (hr : SmallR ll) (hm : mt.length ≤ 1048576) : ACall Try.prog 24 [.agg [.int .i64 n, .int .i64 m, .slice ⟨0, 0, 0, 1, 0⟩ ll.length], .slice ⟨1, 0, 0, 1, 0⟩ mt.length] [.rows true ll, .arr true .int mt] (Is (.tuple [.slice ⟨2, 0, 0, 1, 0⟩ (imL n m ll mt).length, .bool (imOk n m ll mt)]) [.rows true ll, .arr true .int mt, .arr false .int (imL n m ll mt)]) := by
  refine ACall.walk T Try.func24 Try.ntmps24 Try.results24 rfl rfl rfl (Is.nv _ _) ?_
  repeat' (conv => whnf); first
    | refine AWP.seq ?_
    | refine AWP.reg T rfl ?_
    | refine AWP.drw T none rfl rfl rfl ?_
    | refine AWP.dep T none rfl rfl rfl rfl ?_
    | refine AWP.block ?_
    | refine AWP.condT rfl ?_
    | refine AWP.condF rfl ?_
    | refine AWP.cond rfl (fun hb => ?_) (fun hb => ?_)
    | refine AWP.ret ?_
    | refine AWP.exit ?_
    | refine AWP.skip ?_
    | refine GuardB.t ?_
    | refine GuardB.f ?_
    | refine GuardB.mk (fun hb => ?_) (fun hb => ?_)
    | refine NilQ.mk (fun hb => ?_) ?_
    | refine VC.mk Nat.zero_lt_one ?_
    | refine VC.mk rfl ?_
    | refine ACall.useIs [0] (implGoodPairing_call _ _ _ ?_) rfl (.cons (.same rfl rfl) (.nil _)) rfl ?_
    | refine ACall.useIs [0, 1] (isMatchAny_call _ _ _ _ ?_ ?_ ?_) rfl (.cons (.same rfl rfl) (.cons (.same rfl rfl) (.nil _))) rfl ?_
    | refine ACall.useIs [1] (slicesClone_call _ _ ?_ ?_) rfl (.cons (.same rfl rfl) (.nil _)) rfl ?_
    | refine ACall.useIs [0, 4] (improve_call n m ll hr ?_ mt mt.length ?_ rfl) rfl (.cons (.same rfl rfl) (.cons (.same rfl rfl) (.nil _))) rfl ?_
    | refine Ret.sb [0, 1, 4] rfl ?_ ?_ (.cons (.same rfl rfl) (.cons (.same rfl rfl) (.cons (.arr rfl ?_) (.nil _)))) rfl
    | refine Ret.sb [0, 1, 5] rfl ?_ ?_ (.cons (.same rfl rfl) (.cons (.same rfl rfl) (.cons (.arr rfl ?_) (.nil _)))) rfl
    | refine Ret.sb [0, 1, 3] rfl ?_ ?_ (.cons (.same rfl rfl) (.cons (.same rfl rfl) (.cons (.arr rfl ?_) (.nil _)))) rfl
    | refine VC.mk ?_ ?_
  all_goals try simp only [decide_eq_true_eq, decide_eq_false_iff_not, Bool.not_eq_true', Bool.not_eq_false', cond_true, cond_false, eqB_true, eqB_false] at *
  all_goals try simp only [in64, idxAdd_zero_left, Int.toNat_natCast, fillTo_length, Int.ofNat_lt, Int.ofNat_le, Int.natCast_inj] at *
  all_goals try
    have hi : isMatch n m ll mt = true := by assumption
    have hg := (isMatch_len hi).1
    have hgl := goodP_len hg
    have hil := (isMatch_len hi).2
    have hw := goodP_wish hg
    have hol := impO_len hw mt
  all_goals first
    | omega
    | exact hr
    | exact hm
    | assumption
    | rfl
    | (rw [imOk, hi]; simp; done)
    | (rw [imOk, hi]; simp_all; done)
    | (have hf : isMatch n m ll mt = false := by first | assumption | exact isMatch_no (by assumption)
       first
       | (rw [imOk, hf]; rfl)
       | (rw [imL, if_neg (by rw [imOk, hf]; simp)]; done)
       | (rw [imL, if_neg (by rw [imOk, hf]; simp)]; rfl))
    | (have hok : matchOk n m ll mt = false := by assumption
       have hf : isMatch n m ll mt = false := by rw [isMatch, hok]; rfl
       first
       | (rw [imOk, hf]; rfl)
       | (rw [imL, if_neg (by rw [imOk, hf]; simp)]; done)
       | (rw [imL, if_neg (by rw [imOk, hf]; simp)]; rfl))
    | (cases hb2 : impB ll mt
       · first
         | (rw [imOk, hi, hb2]; rfl)
         | (rw [imL, if_neg (by rw [imOk, hb2]; simp), impR, if_neg (by rw [hb2]; simp)]; done)
         | (rw [imL, if_neg (by rw [imOk, hb2]; simp)]; done)
         | (rw [imL, if_neg (by rw [imOk, hb2]; simp)]; rfl)
         | simp_all
       · first
         | (rw [imOk, hi, hb2]; rfl)
         | (rw [imL, if_pos (by rw [imOk, hi, hb2]; rfl), impR, if_pos hb2]; done)
         | (rw [imL, if_pos (by rw [imOk, hi, hb2]; rfl)]; done)
         | (rw [imL, if_pos (by rw [imOk, hi, hb2]; rfl), hol]; done)
         | (rw [imL, if_pos (by rw [imOk, hi, hb2]; rfl), hol]; omega)
         | simp_all)

theorem best_call (n m : Int) (ll : List (List Int)) (hr : SmallR ll) (hg : goodP n m ll = true) : ACall Try.prog 59 [.agg [.int .i64 n, .int .i64 m, .slice ⟨0, 0, 0, 1, 0⟩ ll.length]] [.rows true ll] (Is (.slice ⟨1, 0, 0, 1, 0⟩ n.toNat) [.rows true ll, .arr false .int (bestM' ll n.toNat)]) := by
  refine ACall.walk T Try.func59 Try.ntmps59 Try.results59 rfl rfl rfl (Is.nv _ _) ?_
  repeat' (conv => whnf); first
    | refine AWP.seq ?_
    | refine AWP.reg T rfl ?_
    | refine AWP.drw T none rfl rfl rfl ?_
    | refine AWP.dep T none rfl rfl rfl rfl ?_
    | refine AWP.block ?_
    | refine AWP.condT rfl ?_
    | refine AWP.condF rfl ?_
    | refine AWP.cond rfl (fun hb => ?_) (fun hb => ?_)
    | refine AWP.ret ?_
    | refine AWP.exit ?_
    | refine AWP.skip ?_
    | refine GuardB.t ?_
    | refine GuardB.f ?_
    | refine GuardB.mk (fun hb => ?_) (fun hb => ?_)
    | refine NilQ.mk (fun hb => ?_) ?_
    | refine VC.mk Nat.zero_lt_one ?_
    | refine VC.mk rfl ?_
    | refine ACall.useIs [3] (repeat_call _ ?_) rfl (.cons (.ro rfl rfl) (.nil _)) rfl ?_
    | refine AWP.while (ι := Nat) (fun j => St.of [(1, .ptr ⟨1, 0, 0, 3, 0⟩), (3, .slice ⟨2, 0, 0, 1, 0⟩ n.toNat)] [.rows true ll, .arr false (.raw 3) [[.int .i64 n, .int .i64 m, .slice ⟨0, 0, 0, 1, 0⟩ ll.length]], .arr false .int (bestN ll n.toNat j)]) (fun j => ∀ d, d < j → impB ll (bestN ll n.toNat d) = true) (fun j => 9 - j) 0 ?_
        (Weak.of [0, 1, 4] (.cons rfl rfl (.cons rfl rfl .nil)) (.cons (.same rfl rfl) (.cons (.same rfl rfl) (.cons (.arr rfl ?_) (.nil _)))) rfl) (fun j hj => ?_)
    | refine ACall.useIs [0, 2] (improve_call n m ll hr hg _ n.toNat ?_ ?_) rfl (.cons (.same rfl rfl) (.cons (.same rfl rfl) (.nil _))) rfl ?_
    | refine roundEnd (j + 1) ?_ ?_ (Weak.of [0, 1, 2] (.cons rfl rfl (.cons rfl rfl .nil)) (.cons (.same rfl rfl) (.cons (.same rfl rfl) (.cons (.arr rfl ?_) (.nil _)))) rfl)
    | refine Ret.is [0, 2] rfl (.cons (.same rfl rfl) (.cons (.arr rfl ?_) (.nil _))) rfl
    | refine VC.mk ?_ ?_
  all_goals try simp only [decide_eq_true_eq, decide_eq_false_iff_not, Bool.not_eq_true', Bool.not_eq_false', cond_true, cond_false, eqB_true, eqB_false] at *
  all_goals try simp only [in64, idxAdd_zero_left, Int.toNat_natCast, fillTo_length, Int.ofNat_lt, Int.ofNat_le, Int.natCast_inj] at *
  all_goals try have hw := goodP_wish hg
  all_goals try have hgl := goodP_len hg
  all_goals try
    have hbl := bestN_len' hw n.toNat j
    have hbb := best_bound hw (n := n.toNat) j hj
  all_goals first
    | omega
    | rfl
    | (intro d hd; omega)
    | (intro d hd
       rcases Nat.lt_or_ge d j with h | h
       · exact hj d h
       · have ed : d = j := by omega
         rw [ed]; assumption)
    | (rw [bestN_zero']; done)
    | (rw [bestN_succ']; done)
    | (rw [bestN_succ', impR, if_pos (by assumption)]; done)
    | (rw [impR, if_pos (by assumption), impO_len hw, hbl]; done)
    | (have e := best_end hw (by omega) hj (by assumption)
       have e2 := imp_stay (ll := ll) (mt := bestN ll n.toNat j) (by assumption)
       first
       | (rw [e]; done)
       | (rw [e2, e]; done)
       | (rw [e2]; exact e.symm))
    | exact ⟨by omega, by omega⟩
    | exact ⟨by simp, by simp, by omega⟩
    | (rw [List.replicate_succ']; simp [sub]; done)
    | (have e : k = n.toNat := by omega
       subst e
       first | rfl | done)
    | (have e : k = n.toNat := by omega
       rw [e, bestN_zero'])

theorem l10All_call (n m : Int) (ll : List (List Int)) (hr : SmallR ll) (hg : goodP n m ll = true) : ACall Try.prog 58 [.agg [.int .i64 n, .int .i64 m, .slice ⟨0, 0, 0, 1, 0⟩ ll.length]] [.rows true ll] (Is (.slice ⟨1, 0, 0, 1, 0⟩ n.toNat) [.rows true ll, .arr false .int (bestM' ll n.toNat)]) := by
  refine ACall.walk T Try.func58 Try.ntmps58 Try.results58 rfl rfl rfl (Is.nv _ _) ?_
  repeat' (conv => whnf); first
    | refine AWP.seq ?_
    | refine AWP.reg T rfl ?_
    | refine AWP.drw T none rfl rfl rfl ?_
    | refine AWP.dep T none rfl rfl rfl rfl ?_
    | refine AWP.block ?_
    | refine AWP.condT rfl ?_
    | refine AWP.condF rfl ?_
    | refine AWP.cond rfl (fun hb => ?_) (fun hb => ?_)
    | refine AWP.ret ?_
    | refine AWP.exit ?_
    | refine AWP.skip ?_
    | refine GuardB.t ?_
    | refine GuardB.f ?_
    | refine GuardB.mk (fun hb => ?_) (fun hb => ?_)
    | refine NilQ.mk (fun hb => ?_) ?_
    | refine VC.mk Nat.zero_lt_one ?_
    | refine VC.mk rfl ?_
    | refine AWP.while (ι := Nat) (fun k => St.of [(1, .ptr ⟨1, 0, 0, 3, 0⟩), (3, .slice ⟨2, 0, 0, 1, 0⟩ k), (4, .int .i64 k)] [.rows true ll, .arr false (.raw 3) [[.int .i64 n, .int .i64 m, .slice ⟨0, 0, 0, 1, 0⟩ ll.length]], .arr false .int (List.replicate k (-1))]) (fun k => k ≤ n.toNat) (fun k => n.toNat - k) 0 (Nat.zero_le _)
        (Weak.of [0, 1, 3] (.cons rfl rfl (.cons rfl rfl (.cons rfl rfl .nil))) (.cons (.same rfl rfl) (.cons (.same rfl rfl) (.cons (.same rfl rfl) (.nil _)))) rfl) (fun k hk => ?_)
    | refine AWP.while (ι := Nat) (fun j => St.of [(1, .ptr ⟨1, 0, 0, 3, 0⟩), (3, .slice ⟨2, 0, 0, 1, 0⟩ n.toNat)] [.rows true ll, .arr false (.raw 3) [[.int .i64 n, .int .i64 m, .slice ⟨0, 0, 0, 1, 0⟩ ll.length]], .arr false .int (bestN ll n.toNat j)]) (fun j => ∀ d, d < j → impB ll (bestN ll n.toNat d) = true) (fun j => 9 - j) 0 ?_
        (Weak.of [0, 1, 2] (.cons rfl rfl (.s rfl ?_ rfl .nil)) (.cons (.same rfl rfl) (.cons (.same rfl rfl) (.cons (.arr rfl ?_) (.nil _)))) rfl) (fun j hj => ?_)
    | refine roundEnd (k + 1) ?_ ?_ (Weak.of [0, 1, 4] (.cons rfl rfl (.cons rfl rfl (.cons rfl rfl .nil))) (.cons (.same rfl rfl) (.cons (.same rfl rfl) (.cons (.arr rfl ?_) (.nil _)))) rfl)
    | refine ACall.useIs [0, 2] (l10Improve_call n m ll hr hg _ n.toNat ?_ ?_) rfl (.cons (.same rfl rfl) (.cons (.ro rfl rfl) (.nil _))) rfl ?_
    | refine roundEnd (j + 1) ?_ ?_ (Weak.of [0, 1, 3] (.cons rfl rfl (.s rfl ?_ rfl .nil)) (.cons (.same rfl rfl) (.cons (.same rfl rfl) (.cons (.arr rfl ?_) (.nil _)))) rfl)
    | refine Ret.is [0, 2] rfl (.cons (.same rfl rfl) (.cons (.arr rfl ?_) (.nil _))) rfl
    | refine VC.mk ?_ ?_
  all_goals try simp only [decide_eq_true_eq, decide_eq_false_iff_not, Bool.not_eq_true', Bool.not_eq_false', cond_true, cond_false, eqB_true, eqB_false] at *
  all_goals try simp only [in64, idxAdd_zero_left, Int.toNat_natCast, fillTo_length, Int.ofNat_lt, Int.ofNat_le, Int.natCast_inj] at *
  all_goals try have hw := goodP_wish hg
  all_goals try have hgl := goodP_len hg
  all_goals try
    have hbl := bestN_len' hw n.toNat j
    have hbb := best_bound hw (n := n.toNat) j hj
  all_goals first
    | omega
    | rfl
    | (intro d hd; omega)
    | (intro d hd
       rcases Nat.lt_or_ge d j with h | h
       · exact hj d h
       · have ed : d = j := by omega
         rw [ed]; assumption)
    | (rw [bestN_zero']; done)
    | (rw [bestN_succ']; done)
    | (rw [bestN_succ', impR, if_pos (by assumption)]; done)
    | (rw [impR, if_pos (by assumption), impO_len hw, hbl]; done)
    | (have e := best_end hw (by omega) hj (by assumption)
       have e2 := imp_stay (ll := ll) (mt := bestN ll n.toNat j) (by assumption)
       first
       | (rw [e]; done)
       | (rw [e2, e]; done)
       | (rw [e2]; exact e.symm))
    | exact ⟨by omega, by omega⟩
    | exact ⟨by simp, by simp, by omega⟩
    | (rw [List.replicate_succ']; simp [sub]; done)
    | (have e : k = n.toNat := by omega
       subst e
       first | rfl | done)
    | (have e : k = n.toNat := by omega
       rw [e, bestN_zero'])

theorem specMatchAll_call (n m : Int) (ll : List (List Int)) (hr : SmallR ll) : ACall Try.prog 28 [.agg [.int .i64 n, .int .i64 m, .slice ⟨0, 0, 0, 1, 0⟩ ll.length]] [.rows true ll] (Is (.tuple [.slice ⟨1, 0, 0, 1, 0⟩ (maL n m ll).length, .bool (goodP n m ll)]) [.rows true ll, .arr false .int (maL n m ll)]) := by
  refine ACall.walk T Try.func28 Try.ntmps28 Try.results28 rfl rfl rfl (Is.nv _ _) ?_
  repeat' (conv => whnf); first
    | refine AWP.seq ?_
    | refine AWP.reg T rfl ?_
    | refine AWP.drw T none rfl rfl rfl ?_
    | refine AWP.dep T none rfl rfl rfl rfl ?_
    | refine AWP.block ?_
    | refine AWP.condT rfl ?_
    | refine AWP.condF rfl ?_
    | refine AWP.cond rfl (fun hb => ?_) (fun hb => ?_)
    | refine AWP.ret ?_
    | refine AWP.exit ?_
    | refine AWP.skip ?_
    | refine GuardB.t ?_
    | refine GuardB.f ?_
    | refine GuardB.mk (fun hb => ?_) (fun hb => ?_)
    | refine NilQ.mk (fun hb => ?_) ?_
    | refine VC.mk Nat.zero_lt_one ?_
    | refine VC.mk rfl ?_
    | refine ACall.useIs [0] (specGoodPairing_call _ _ _ ?_) rfl (.cons (.same rfl rfl) (.nil _)) rfl ?_
    | refine ACall.useIs [0] (l10All_call n m ll hr ?_) rfl (.cons (.same rfl rfl) (.nil _)) rfl ?_
    | refine Ret.sb [0, 3] rfl ?_ ?_ (.cons (.same rfl rfl) (.cons (.arr rfl ?_) (.nil _))) rfl
    | refine Ret.sb [0, 2] rfl ?_ ?_ (.cons (.same rfl rfl) (.cons (.arr rfl ?_) (.nil _))) rfl
    | refine VC.mk ?_ ?_
  all_goals try simp only [decide_eq_true_eq, decide_eq_false_iff_not, Bool.not_eq_true', Bool.not_eq_false', cond_true, cond_false, eqB_true, eqB_false] at *
  all_goals try simp only [in64, idxAdd_zero_left, Int.toNat_natCast, fillTo_length, Int.ofNat_lt, Int.ofNat_le, Int.natCast_inj] at *
  all_goals try
    have hg : goodP n m ll = true := by assumption
    have hw := goodP_wish hg
    have hbl : (bestM' ll n.toNat).length = n.toNat := bestN_len' hw n.toNat 8
  all_goals first
    | exact hr
    | assumption
    | rfl
    | (rw [maL, if_pos hg]; done)
    | (rw [maL, if_pos hg, hbl]; done)
    | (rw [hg]; done)
    | (have hn : goodP n m ll = false := by assumption
       first
       | (rw [maL, if_neg (by rw [hn]; simp)]; done)
       | (rw [maL, if_neg (by rw [hn]; simp)]; rfl)
       | (rw [hn]; done))

theorem implMatchAll_call (n m : Int) (ll : List (List Int)) (hr : SmallR ll) : ACall Try.prog 29 [.agg [.int .i64 n, .int .i64 m, .slice ⟨0, 0, 0, 1, 0⟩ ll.length]] [.rows true ll] (Is (.tuple [.slice ⟨1, 0, 0, 1, 0⟩ (maL n m ll).length, .bool (goodP n m ll)]) [.rows true ll, .arr false .int (maL n m ll)]) := by
  refine ACall.walk T Try.func29 Try.ntmps29 Try.results29 rfl rfl rfl (Is.nv _ _) ?_
  repeat' (conv => whnf); first
    | refine AWP.seq ?_
    | refine AWP.reg T rfl ?_
    | refine AWP.drw T none rfl rfl rfl ?_
    | refine AWP.dep T none rfl rfl rfl rfl ?_
    | refine AWP.block ?_
    | refine AWP.condT rfl ?_
    | refine AWP.condF rfl ?_
    | refine AWP.cond rfl (fun hb => ?_) (fun hb => ?_)
    | refine AWP.ret ?_
    | refine AWP.exit ?_
    | refine AWP.skip ?_
    | refine GuardB.t ?_
    | refine GuardB.f ?_
    | refine GuardB.mk (fun hb => ?_) (fun hb => ?_)
    | refine NilQ.mk (fun hb => ?_) ?_
    | refine VC.mk Nat.zero_lt_one ?_
    | refine VC.mk rfl ?_
    | refine ACall.useIs [0] (implGoodPairing_call _ _ _ ?_) rfl (.cons (.same rfl rfl) (.nil _)) rfl ?_
    | refine ACall.useIs [0] (best_call n m ll hr ?_) rfl (.cons (.same rfl rfl) (.nil _)) rfl ?_
    | refine Ret.sb [0, 3] rfl ?_ ?_ (.cons (.same rfl rfl) (.cons (.arr rfl ?_) (.nil _))) rfl
    | refine Ret.sb [0, 2] rfl ?_ ?_ (.cons (.same rfl rfl) (.cons (.arr rfl ?_) (.nil _))) rfl
    | refine VC.mk ?_ ?_
  all_goals try simp only [decide_eq_true_eq, decide_eq_false_iff_not, Bool.not_eq_true', Bool.not_eq_false', cond_true, cond_false, eqB_true, eqB_false] at *
  all_goals try simp only [in64, idxAdd_zero_left, Int.toNat_natCast, fillTo_length, Int.ofNat_lt, Int.ofNat_le, Int.natCast_inj] at *
  all_goals try
    have hg : goodP n m ll = true := by assumption
    have hw := goodP_wish hg
    have hbl : (bestM' ll n.toNat).length = n.toNat := bestN_len' hw n.toNat 8
  all_goals first
    | exact hr
    | assumption
    | rfl
    | (rw [maL, if_pos hg]; done)
    | (rw [maL, if_pos hg, hbl]; done)
    | (rw [hg]; done)
    | (have hn : goodP n m ll = false := by assumption
       first
       | (rw [maL, if_neg (by rw [hn]; simp)]; done)
       | (rw [maL, if_neg (by rw [hn]; simp)]; rfl)
       | (rw [hn]; done))

end YtofjbgpaofcpjaaAM
