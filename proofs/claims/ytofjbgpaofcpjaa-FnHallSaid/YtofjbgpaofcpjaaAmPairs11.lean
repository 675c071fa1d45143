/- Contracts of functions of this seat. -/
import Derived.Test.YtofjbgpaofcpjaaAmTabPairs
import Derived.Test.YtofjbgpaofcpjaaAmModels
import Derived.Test.YtofjbgpaofcpjaaAmPairs10
set_option linter.unusedVariables false
set_option linter.unusedSimpArgs false
set_option maxRecDepth 100000
set_option maxHeartbeats 2000000
namespace YtofjbgpaofcpjaaAM
open Go Go.Proofs
attribute [local irreducible] foldN askR askN maskL impB impO bestN freeN stQ rowQ qN inQ sortI sortN goodP isMatch matchB tryA reachQ bestM' selN rangeI keepN midD copyL putL shB shL coA coR

theorem specCoverOf_call (n m : Int) (ll : List (List Int)) (hr : SmallR ll) : ACall Try.prog 32 [.agg [.int .i64 n, .int .i64 m, .slice ⟨0, 0, 0, 1, 0⟩ ll.length]] [.rows true ll] (Is (.tuple [.slice ⟨1, 0, 0, 1, 0⟩ (coA n m ll).length, .slice ⟨2, 0, 0, 1, 0⟩ (coR n m ll).length, .bool (goodP n m ll)]) [.rows true ll, .arr false .int (coA n m ll), .arr false .int (coR n m ll)]) := by
  refine ACall.walk T Try.func32 Try.ntmps32 Try.results32 rfl rfl rfl (Is.nv _ _) ?_
  repeat' (conv => whnf); first
    | refine AWP.seq ?_
    | refine AWP.reg T rfl ?_
    | refine AWP.drw T none rfl rfl rfl ?_
    | refine AWP.dep T none rfl rfl rfl rfl ?_
    | refine AWP.block ?_
    | refine AWP.condT rfl ?_
    | refine AWP.condF rfl ?_
    | refine AWP.cond rfl (fun hb => ?_) (fun hb => ?_)
    | refine AWP.ret ?_
    | refine AWP.exit ?_
    | refine AWP.skip ?_
    | refine GuardB.t ?_
    | refine GuardB.f ?_
    | refine GuardB.mk (fun hb => ?_) (fun hb => ?_)
    | refine NilQ.mk (fun hb => ?_) ?_
    | refine VC.mk Nat.zero_lt_one ?_
    | refine VC.mk rfl ?_
    | refine ACall.useIs [0] (specGoodPairing_call _ _ _ ?_) rfl (.cons (.same rfl rfl) (.nil _)) rfl ?_
    | refine AWP.dep T (some [1]) rfl rfl rfl rfl ?_
    | refine ACall.useIs [0] (l10All_call n m ll hr ?_) rfl (.cons (.same rfl rfl) (.nil _)) rfl ?_
    | refine ACall.useIs [0, 4] (l10Reach_call n m ll hr ?_ (bestM' ll n.toNat) n.toNat ?_ ?_) rfl (.cons (.same rfl rfl) (.cons (.ro rfl rfl) (.nil _))) rfl ?_
    | refine AWP.while (ι := Nat) (fun k => St.of [(1, .ptr ⟨1, 0, 0, 3, 0⟩), (5, .slice ⟨2, 0, 0, 1, 0⟩ ((rcQ n m ll).1).length), (6, .slice ⟨3, 0, 0, 1, 0⟩ ((rcQ n m ll).2).length), (7, .slice ⟨4, 0, 0, 1, 0⟩ (selN (fun x => !hasB (rcQ n m ll).1 x) n.toNat).length), (8, .slice ⟨5, 0, 0, 1, 0⟩ (selN (fun x => hasB (rcQ n m ll).2 x) k).length), (10, .int .i64 k)] [.rows true ll, .arr false (.raw 3) [[.int .i64 n, .int .i64 m, .slice ⟨0, 0, 0, 1, 0⟩ ll.length]], .arr false .int ((rcQ n m ll).1), .arr false .int ((rcQ n m ll).2), .arr false .int (selN (fun x => !hasB (rcQ n m ll).1 x) n.toNat), .arr false .int (selN (fun x => hasB (rcQ n m ll).2 x) k)]) (fun k => k ≤ m.toNat) (fun k => m.toNat - k) 0 (Nat.zero_le _)
        (Weak.of [0, 1, 2, 3, 4, 5] (.cons rfl rfl (.cons rfl rfl (.cons rfl rfl (.s rfl ?_ rfl (.s rfl ?_ rfl (.cons rfl rfl .nil)))))) (.cons (.same rfl rfl) (.cons (.same rfl rfl) (.cons (.same rfl rfl) (.cons (.same rfl rfl) (.cons (.arr rfl ?_) (.cons (.arr rfl ?_) (.nil _))))))) rfl) (fun k hk => ?_)
    | refine AWP.while (ι := Nat) (fun k => St.of [(1, .ptr ⟨1, 0, 0, 3, 0⟩), (5, .slice ⟨2, 0, 0, 1, 0⟩ ((rcQ n m ll).1).length), (6, .slice ⟨3, 0, 0, 1, 0⟩ ((rcQ n m ll).2).length), (7, .slice ⟨4, 0, 0, 1, 0⟩ (selN (fun x => !hasB (rcQ n m ll).1 x) k).length), (8, .slice ⟨5, 0, 0, 1, 0⟩ 0), (9, .int .i64 k)] [.rows true ll, .arr false (.raw 3) [[.int .i64 n, .int .i64 m, .slice ⟨0, 0, 0, 1, 0⟩ ll.length]], .arr false .int ((rcQ n m ll).1), .arr false .int ((rcQ n m ll).2), .arr false .int (selN (fun x => !hasB (rcQ n m ll).1 x) k), .arr false .int ([])]) (fun k => k ≤ n.toNat) (fun k => n.toNat - k) 0 (Nat.zero_le _)
        (Weak.of [0, 1, 5, 6, 7, 8] (.cons rfl rfl (.cons rfl rfl (.cons rfl rfl (.s rfl ?_ rfl (.cons rfl rfl (.cons rfl rfl .nil)))))) (.cons (.same rfl rfl) (.cons (.same rfl rfl) (.cons (.same rfl rfl) (.cons (.same rfl rfl) (.cons (.arr rfl ?_) (.cons (.same rfl rfl) (.nil _))))))) rfl) (fun k hk => ?_)
    | refine ACall.useIs [2] (l1Has_call _ _ ?_) rfl (.cons (.ro rfl rfl) (.nil _)) rfl ?_
    | refine ACall.useIs [3] (l1Has_call _ _ ?_) rfl (.cons (.ro rfl rfl) (.nil _)) rfl ?_
    | refine roundEnd (k + 1) ?_ ?_ (Weak.of [0, 1, 2, 3, 7, 5] (.cons rfl rfl (.cons rfl rfl (.cons rfl rfl (.s rfl ?_ rfl (.cons rfl rfl (.cons rfl rfl .nil)))))) (.cons (.same rfl rfl) (.cons (.same rfl rfl) (.cons (.same rfl rfl) (.cons (.same rfl rfl) (.cons (.arr rfl ?_) (.cons (.same rfl rfl) (.nil _))))))) rfl)
    | refine roundEnd (k + 1) ?_ ?_ (Weak.of [0, 1, 2, 3, 4, 5] (.cons rfl rfl (.cons rfl rfl (.cons rfl rfl (.s rfl ?_ rfl (.cons rfl rfl (.cons rfl rfl .nil)))))) (.cons (.same rfl rfl) (.cons (.same rfl rfl) (.cons (.same rfl rfl) (.cons (.same rfl rfl) (.cons (.arr rfl ?_) (.cons (.same rfl rfl) (.nil _))))))) rfl)
    | refine roundEnd (k + 1) ?_ ?_ (Weak.of [0, 1, 2, 3, 4, 7] (.cons rfl rfl (.cons rfl rfl (.cons rfl rfl (.cons rfl rfl (.s rfl ?_ rfl (.cons rfl rfl .nil)))))) (.cons (.same rfl rfl) (.cons (.same rfl rfl) (.cons (.same rfl rfl) (.cons (.same rfl rfl) (.cons (.same rfl rfl) (.cons (.arr rfl ?_) (.nil _))))))) rfl)
    | refine roundEnd (k + 1) ?_ ?_ (Weak.of [0, 1, 2, 3, 4, 5] (.cons rfl rfl (.cons rfl rfl (.cons rfl rfl (.cons rfl rfl (.s rfl ?_ rfl (.cons rfl rfl .nil)))))) (.cons (.same rfl rfl) (.cons (.same rfl rfl) (.cons (.same rfl rfl) (.cons (.same rfl rfl) (.cons (.same rfl rfl) (.cons (.arr rfl ?_) (.nil _))))))) rfl)
    | refine Ret.ssb [0, 4, 5] rfl ?_ ?_ ?_ (.cons (.same rfl rfl) (.cons (.arr rfl ?_) (.cons (.arr rfl ?_) (.nil _)))) rfl
    | refine VC.mk ?_ ?_
  all_goals try simp only [decide_eq_true_eq, decide_eq_false_iff_not, Bool.not_eq_true', Bool.not_eq_false', cond_true, cond_false, eqB_true, eqB_false] at *
  all_goals try simp only [in64, idxAdd_zero_left, Int.toNat_natCast, fillTo_length, Int.ofNat_lt, Int.ofNat_le, Int.natCast_inj] at *
  all_goals try
    have hg : goodP n m ll = true := by assumption
    have hw := goodP_wish hg
    have hgl := goodP_len hg
    have hQ := rcQ_inv hg
    have hQ8 := rcQ_len hg
    have hml : (bestM' ll n.toNat).length = n.toNat := bestM_len hw _
  all_goals try
    have hrq : reachQ ll (bestM' ll n.toNat) = rcQ n m ll := rfl
    simp only [hrq] at *
  all_goals try have hsa := selN_le (fun x => !hasB (rcQ n m ll).1 x) k
  all_goals try have hsb := selN_le (fun x => hasB (rcQ n m ll).2 x) k
  all_goals try have hsc := selN_le (fun x => !hasB (rcQ n m ll).1 x) n.toNat
  all_goals first
    | omega
    | rfl
    | exact ⟨rfl, trivial⟩
    | exact hr
    | exact hg
    | assumption
    | exact hml
    | exact ⟨by omega, by omega⟩
    | exact ⟨by simp, by simp, by omega⟩
    | exact ⟨by omega, by simp, by omega⟩
    | exact selN_zero _
    | (rw [selN_zero]; done)
    | (rw [selN_zero]; rfl)
    | (have e := selN_yes (q := (fun x => !hasB (rcQ n m ll).1 x)) (k := k) (by simp_all)
       first
       | (rw [e, sub_snoc' rfl]; done)
       | (rw [e]; simp; done))
    | (have e := selN_no (q := (fun x => !hasB (rcQ n m ll).1 x)) (k := k) (by simp_all)
       first
       | (rw [e]; done))
    | (have e := selN_yes (q := (fun x => hasB (rcQ n m ll).2 x)) (k := k) (by simp_all)
       first
       | (rw [e, sub_snoc' rfl]; done)
       | (rw [e]; simp; done))
    | (have e := selN_no (q := (fun x => hasB (rcQ n m ll).2 x)) (k := k) (by simp_all)
       first
       | (rw [e]; done))
    | (have e : k = n.toNat := by omega
       subst e
       first | rfl | (rw [selN_zero]; done) | (rw [selN_zero]; rfl))
    | (have e : k = m.toNat := by omega
       subst e
       first
       | (rw [coA, if_pos hg, selN]; done)
       | (rw [coA, if_pos hg]; rfl)
       | (rw [coR, if_pos hg, coR_eq hg, selN]; done)
       | (rw [coR, if_pos hg, coR_eq hg]; rfl)
       | (rw [hg]; done))
    | (rw [coA, if_pos hg, selN]; done)
    | (rw [hg]; done)
    | (have hn : goodP n m ll = false := by assumption
       first
       | (rw [coA, if_neg (by rw [hn]; simp)]; done)
       | (rw [coA, if_neg (by rw [hn]; simp)]; rfl)
       | (rw [coR, if_neg (by rw [hn]; simp)]; done)
       | (rw [coR, if_neg (by rw [hn]; simp)]; rfl)
       | (rw [shL, if_neg (by rw [hn]; simp)]; done)
       | (rw [shL, if_neg (by rw [hn]; simp)]; rfl)
       | (rw [shB, hn]; rfl)
       | (rw [hn]; done))

theorem delInLf2_call (lf : List Int) (ht : lf.length ≤ 1048576) (l : List Int) (c : Nat) (hl : l.length ≤ 1048576) (hc : l.length = c) : ACall Try.prog 63 [.slice ⟨0, 0, 0, 1, 0⟩ c, .func 65 [.ptr ⟨1, 0, 0, 1, 0⟩]] [.arr false .int (l), .arr true (.raw 1) [[.slice ⟨2, 0, 0, 1, 0⟩ lf.length]], .arr true .int lf] (Is (.slice ⟨0, 0, 0, 1, 0⟩ (l.filter fun x => !hasB lf x).length) [.arr false .int (l.filter fun x => !hasB lf x), .arr true (.raw 1) [[.slice ⟨2, 0, 0, 1, 0⟩ lf.length]], .arr true .int lf]) := by
  subst hc
  exact delInLf_call lf ht l hl

theorem coA_eq {n m : Int} {ll : List (List Int)} (hg : goodP n m ll = true) : ((rangeI n.toNat).filter fun x => !hasB (sortI (rcQ n m ll).1) x) = coA n m ll := by
  rw [coA, if_pos hg]
  congr 1
  funext x
  rw [hasB_sortI]

theorem implCoverOf_call (n m : Int) (ll : List (List Int)) (hr : SmallR ll) : ACall Try.prog 33 [.agg [.int .i64 n, .int .i64 m, .slice ⟨0, 0, 0, 1, 0⟩ ll.length]] [.rows true ll] (Is (.tuple [.slice ⟨1, 0, 0, 1, 0⟩ (coA n m ll).length, .slice ⟨2, 0, 0, 1, 0⟩ (coR n m ll).length, .bool (goodP n m ll)]) [.rows true ll, .arr false .int (coA n m ll), .arr false .int (coR n m ll)]) := by
  refine ACall.walk T Try.func33 Try.ntmps33 Try.results33 rfl rfl rfl (Is.nv _ _) ?_
  repeat' (conv => whnf); first
    | refine AWP.seq ?_
    | refine AWP.reg T rfl ?_
    | refine AWP.drw T none rfl rfl rfl ?_
    | refine AWP.dep T none rfl rfl rfl rfl ?_
    | refine AWP.block ?_
    | refine AWP.condT rfl ?_
    | refine AWP.condF rfl ?_
    | refine AWP.cond rfl (fun hb => ?_) (fun hb => ?_)
    | refine AWP.ret ?_
    | refine AWP.exit ?_
    | refine AWP.skip ?_
    | refine GuardB.t ?_
    | refine GuardB.f ?_
    | refine GuardB.mk (fun hb => ?_) (fun hb => ?_)
    | refine NilQ.mk (fun hb => ?_) ?_
    | refine VC.mk Nat.zero_lt_one ?_
    | refine VC.mk rfl ?_
    | refine ACall.useIs [0] (implGoodPairing_call _ _ _ ?_) rfl (.cons (.same rfl rfl) (.nil _)) rfl ?_
    | refine ACall.useIs [0] (reached_call n m ll hr ?_) rfl (.cons (.same rfl rfl) (.nil _)) rfl ?_
    | refine ACall.useIs [] (numbered_call _ ?_) rfl (.nil _) rfl ?_
    | refine ACall.useIs [7, 6, 4] (delInLf2_call (sortI (rcQ n m ll).1) ?_ (rangeI n.toNat) n.toNat ?_ ?_) rfl (.cons (.same rfl rfl) (.cons (.ro rfl rfl) (.cons (.ro rfl rfl) (.nil _)))) rfl ?_
    | refine Ret.ssb [0, 7, 5] rfl ?_ ?_ ?_ (.cons (.same rfl rfl) (.cons (.arr rfl ?_) (.cons (.arr rfl ?_) (.nil _)))) rfl
    | refine Ret.ssb [0, 4, 5] rfl ?_ ?_ ?_ (.cons (.same rfl rfl) (.cons (.arr rfl ?_) (.cons (.arr rfl ?_) (.nil _)))) rfl
    | refine VC.mk ?_ ?_
  all_goals try simp only [decide_eq_true_eq, decide_eq_false_iff_not, Bool.not_eq_true', Bool.not_eq_false', cond_true, cond_false, eqB_true, eqB_false] at *
  all_goals try simp only [in64, idxAdd_zero_left, Int.toNat_natCast, fillTo_length, Int.ofNat_lt, Int.ofNat_le, Int.natCast_inj] at *
  all_goals try
    have hg : goodP n m ll = true := by assumption
    have hw := goodP_wish hg
    have hgl := goodP_len hg
    have hQ := rcQ_inv hg
    have hQ8 := rcQ_len hg
    have hml : (bestM' ll n.toNat).length = n.toNat := bestM_len hw _
  all_goals try
    have hrq : reachQ ll (bestM' ll n.toNat) = rcQ n m ll := rfl
    simp only [hrq] at *
  all_goals first
    | exact hr
    | exact hg
    | assumption
    | (rw [sortI_len]; omega)
    | (rw [rangeI_length]; omega)
    | exact rangeI_length _
    | omega
    | exact ⟨by omega, by omega⟩
    | exact coA_eq hg
    | (rw [coA_eq hg]; done)
    | (rw [← coA_eq hg]; done)
    | (rw [coR, if_pos hg]; done)
    | (rw [shL, if_pos hg]; done)
    | (rw [hg]; done)
    | rfl
    | (have hn : goodP n m ll = false := by assumption
       first
       | (rw [coA, if_neg (by rw [hn]; simp)]; done)
       | (rw [coA, if_neg (by rw [hn]; simp)]; rfl)
       | (rw [coR, if_neg (by rw [hn]; simp)]; done)
       | (rw [coR, if_neg (by rw [hn]; simp)]; rfl)
       | (rw [shL, if_neg (by rw [hn]; simp)]; done)
       | (rw [shL, if_neg (by rw [hn]; simp)]; rfl)
       | (rw [shB, hn]; rfl)
       | (rw [hn]; done))

theorem implShortOf_call (n m : Int) (ll : List (List Int)) (hr : SmallR ll) : ACall Try.prog 31 [.agg [.int .i64 n, .int .i64 m, .slice ⟨0, 0, 0, 1, 0⟩ ll.length]] [.rows true ll] (Is (.tuple [.slice ⟨1, 0, 0, 1, 0⟩ (shL n m ll).length, .bool (shB n m ll)]) [.rows true ll, .arr false .int (shL n m ll)]) := by
  refine ACall.walk T Try.func31 Try.ntmps31 Try.results31 rfl rfl rfl (Is.nv _ _) ?_
  repeat' (conv => whnf); first
    | refine AWP.seq ?_
    | refine AWP.reg T rfl ?_
    | refine AWP.drw T none rfl rfl rfl ?_
    | refine AWP.dep T none rfl rfl rfl rfl ?_
    | refine AWP.block ?_
    | refine AWP.condT rfl ?_
    | refine AWP.condF rfl ?_
    | refine AWP.cond rfl (fun hb => ?_) (fun hb => ?_)
    | refine AWP.ret ?_
    | refine AWP.exit ?_
    | refine AWP.skip ?_
    | refine GuardB.t ?_
    | refine GuardB.f ?_
    | refine GuardB.mk (fun hb => ?_) (fun hb => ?_)
    | refine NilQ.mk (fun hb => ?_) ?_
    | refine VC.mk Nat.zero_lt_one ?_
    | refine VC.mk rfl ?_
    | refine ACall.useIs [0] (implGoodPairing_call _ _ _ ?_) rfl (.cons (.same rfl rfl) (.nil _)) rfl ?_
    | refine ACall.useIs [0] (reached_call n m ll hr ?_) rfl (.cons (.same rfl rfl) (.nil _)) rfl ?_
    | refine Ret.sb [0, 3] rfl ?_ ?_ (.cons (.same rfl rfl) (.cons (.arr rfl ?_) (.nil _))) rfl
    | refine VC.mk ?_ ?_
  all_goals try simp only [decide_eq_true_eq, decide_eq_false_iff_not, Bool.not_eq_true', Bool.not_eq_false', cond_true, cond_false, eqB_true, eqB_false] at *
  all_goals try simp only [in64, idxAdd_zero_left, Int.toNat_natCast, fillTo_length, Int.ofNat_lt, Int.ofNat_le, Int.natCast_inj] at *
  all_goals try
    have hg : goodP n m ll = true := by assumption
    have hw := goodP_wish hg
    have hgl := goodP_len hg
    have hQ := rcQ_inv hg
    have hQ8 := rcQ_len hg
    have hml : (bestM' ll n.toNat).length = n.toNat := bestM_len hw _
  all_goals try
    have hrq : reachQ ll (bestM' ll n.toNat) = rcQ n m ll := rfl
    simp only [hrq] at *
  all_goals first
    | exact hr
    | exact hg
    | assumption
    | (rw [sortI_len]; omega)
    | (rw [rangeI_length]; omega)
    | exact rangeI_length _
    | omega
    | exact ⟨by omega, by omega⟩
    | exact coA_eq hg
    | (rw [coA_eq hg]; done)
    | (rw [← coA_eq hg]; done)
    | (rw [coR, if_pos hg]; done)
    | (rw [shL, if_pos hg]; done)
    | (rw [hg]; done)
    | rfl
    | (have hn : goodP n m ll = false := by assumption
       first
       | (rw [coA, if_neg (by rw [hn]; simp)]; done)
       | (rw [coA, if_neg (by rw [hn]; simp)]; rfl)
       | (rw [coR, if_neg (by rw [hn]; simp)]; done)
       | (rw [coR, if_neg (by rw [hn]; simp)]; rfl)
       | (rw [shL, if_neg (by rw [hn]; simp)]; done)
       | (rw [shL, if_neg (by rw [hn]; simp)]; rfl)
       | (rw [shB, hn]; rfl)
       | (rw [hn]; done))

theorem specShortOf_call (n m : Int) (ll : List (List Int)) (hr : SmallR ll) : ACall Try.prog 30 [.agg [.int .i64 n, .int .i64 m, .slice ⟨0, 0, 0, 1, 0⟩ ll.length]] [.rows true ll] (Is (.tuple [.slice ⟨1, 0, 0, 1, 0⟩ (shL n m ll).length, .bool (shB n m ll)]) [.rows true ll, .arr false .int (shL n m ll)]) := by
  refine ACall.walk T Try.func30 Try.ntmps30 Try.results30 rfl rfl rfl (Is.nv _ _) ?_
  repeat' (conv => whnf); first
    | refine AWP.seq ?_
    | refine AWP.reg T rfl ?_
    | refine AWP.drw T none rfl rfl rfl ?_
    | refine AWP.dep T none rfl rfl rfl rfl ?_
    | refine AWP.block ?_
    | refine AWP.condT rfl ?_
    | refine AWP.condF rfl ?_
    | refine AWP.cond rfl (fun hb => ?_) (fun hb => ?_)
    | refine AWP.ret ?_
    | refine AWP.exit ?_
    | refine AWP.skip ?_
    | refine GuardB.t ?_
    | refine GuardB.f ?_
    | refine GuardB.mk (fun hb => ?_) (fun hb => ?_)
    | refine NilQ.mk (fun hb => ?_) ?_
    | refine VC.mk Nat.zero_lt_one ?_
    | refine VC.mk rfl ?_
    | refine ACall.useIs [0] (specGoodPairing_call _ _ _ ?_) rfl (.cons (.same rfl rfl) (.nil _)) rfl ?_
    | refine AWP.dep T (some [1]) rfl rfl rfl rfl ?_
    | refine ACall.useIs [0] (l10All_call n m ll hr ?_) rfl (.cons (.same rfl rfl) (.nil _)) rfl ?_
    | refine ACall.useIs [0, 3] (l10Reach_call n m ll hr ?_ (bestM' ll n.toNat) n.toNat ?_ ?_) rfl (.cons (.same rfl rfl) (.cons (.ro rfl rfl) (.nil _))) rfl ?_
    | refine AWP.while (ι := Nat) (fun k => St.of [(6, .slice ⟨2, 0, 0, 1, 0⟩ (sortI ((rcQ n m ll).1.take k)).length), (22, .slice ⟨1, 0, 0, 1, 0⟩ ((rcQ n m ll).1).length), (23, .int .i64 (rcQ n m ll).1.length), (24, .int .i64 k)] [.rows true ll, .arr false .int ((rcQ n m ll).1), .arr false .int (sortI ((rcQ n m ll).1.take k))]) (fun k => k ≤ (rcQ n m ll).1.length) (fun k => (rcQ n m ll).1.length - k) 0 (Nat.zero_le _)
        (Weak.of [0, 4, 6] (.s rfl ?_ rfl (.cons rfl rfl (.cons rfl rfl (.cons rfl rfl .nil)))) (.cons (.same rfl rfl) (.cons (.same rfl rfl) (.cons (.arr rfl ?_) (.nil _)))) rfl) (fun k hk => ?_)
    | refine ACall.useIs [2] (l7Put_call _ _ ?_ ?_) rfl (.cons (.same rfl rfl) (.nil _)) rfl ?_
    | refine roundEnd (k + 1) ?_ ?_ (Weak.of [0, 1, 3] (.s rfl ?_ rfl (.cons rfl rfl (.cons rfl rfl (.cons rfl rfl .nil)))) (.cons (.same rfl rfl) (.cons (.same rfl rfl) (.cons (.arr rfl ?_) (.nil _)))) rfl)
    | refine Ret.sb [0, 6] rfl ?_ ?_ (.cons (.same rfl rfl) (.cons (.arr rfl ?_) (.nil _))) rfl
    | refine Ret.sb [0, 2] rfl ?_ ?_ (.cons (.same rfl rfl) (.cons (.arr rfl ?_) (.nil _))) rfl
    | refine Ret.sb [0, 3] rfl ?_ ?_ (.cons (.same rfl rfl) (.cons (.arr rfl ?_) (.nil _))) rfl
    | refine VC.mk ?_ ?_
  all_goals try simp only [decide_eq_true_eq, decide_eq_false_iff_not, Bool.not_eq_true', Bool.not_eq_false', cond_true, cond_false, eqB_true, eqB_false] at *
  all_goals try simp only [in64, idxAdd_zero_left, Int.toNat_natCast, fillTo_length, Int.ofNat_lt, Int.ofNat_le, Int.natCast_inj] at *
  all_goals try
    have hg : goodP n m ll = true := by assumption
    have hw := goodP_wish hg
    have hgl := goodP_len hg
    have hQ := rcQ_inv hg
    have hQ8 := rcQ_len hg
    have hml : (bestM' ll n.toNat).length = n.toNat := bestM_len hw _
  all_goals try
    have hrq : reachQ ll (bestM' ll n.toNat) = rcQ n m ll := rfl
    simp only [hrq] at *
  all_goals try
    have hk2 : k < (rcQ n m ll).1.length := by omega
    have hst := sort_take hQ.n1 hk2
  all_goals try
    have hlk : (sortI ((rcQ n m ll).1.take k)).length ≤ 8 := by rw [sortI_len, List.length_take]; omega
  all_goals first
    | omega
    | exact ⟨rfl, trivial⟩
    | exact hr
    | exact hg
    | assumption
    | exact ⟨by omega, by omega⟩
    | exact hst.2
    | (rw [hst.1]; done)
    | exact hst.1
    | (rw [List.take_zero, sortI_nil']; done)
    | (rw [List.take_zero, sortI_nil']; rfl)
    | (have e : k = (rcQ n m ll).1.length := by omega
       subst e
       rw [List.take_length, shL, if_pos hg])
    | (have e : (rcQ n m ll).1 = [] := List.eq_nil_of_length_eq_zero (by omega)
       first
       | (rw [shL, if_pos hg, e, sortI_nil']; done)
       | (rw [shL, if_pos hg, e, sortI_nil']; rfl)
       | (rw [shB, hg, e]; rfl))
    | (rw [shB, hg, Bool.true_and]; symm; exact decide_eq_true (by omega))
    | rfl
    | (have hn : goodP n m ll = false := by assumption
       first
       | (rw [coA, if_neg (by rw [hn]; simp)]; done)
       | (rw [coA, if_neg (by rw [hn]; simp)]; rfl)
       | (rw [coR, if_neg (by rw [hn]; simp)]; done)
       | (rw [coR, if_neg (by rw [hn]; simp)]; rfl)
       | (rw [shL, if_neg (by rw [hn]; simp)]; done)
       | (rw [shL, if_neg (by rw [hn]; simp)]; rfl)
       | (rw [shB, hn]; rfl)
       | (rw [hn]; done))

theorem lawShortOf_call (n m : Int) (ll : List (List Int)) (h1 : ll.length ≤ 9223372036854775807) (h3 : ∀ l ∈ ll, l.length ≤ 9223372036854775807) : ACall Try.prog 8 [.agg [.int .i64 n, .int .i64 m, .slice ⟨0, 0, 0, 1, 0⟩ ll.length]] [.rows true ll] (Is (.bool true) [.rows true ll]) := by
  refine ACall.walk T Try.func8 Try.ntmps8 Try.results8 rfl rfl rfl (Is.nv _ _) ?_
  repeat' (conv => whnf); first
    | refine AWP.seq ?_
    | refine AWP.reg T rfl ?_
    | refine AWP.drw T none rfl rfl rfl ?_
    | refine AWP.dep T none rfl rfl rfl rfl ?_
    | refine AWP.block ?_
    | refine AWP.condT rfl ?_
    | refine AWP.condF rfl ?_
    | refine AWP.cond rfl (fun hb => ?_) (fun hb => ?_)
    | refine AWP.ret ?_
    | refine AWP.exit ?_
    | refine AWP.skip ?_
    | refine GuardB.t ?_
    | refine GuardB.f ?_
    | refine GuardB.mk (fun hb => ?_) (fun hb => ?_)
    | refine NilQ.mk (fun hb => ?_) ?_
    | refine VC.mk Nat.zero_lt_one ?_
    | refine VC.mk rfl ?_
    | refine AWP.drw T (some [1, 5]) rfl rfl rfl ?_
    | refine ACall.useIs [0] (szPairing_call _ _ _ _ ?_ ?_ ?_) rfl (.cons (.same rfl rfl) (.nil _)) rfl ?_
    | refine ACall.useIs [0] (toPairing_call _ _ _ ?_) rfl (.cons (.same rfl rfl) (.nil _)) rfl ?_
    | refine ACall.useIs [2] (specShortOf_call _ _ _ ?_) rfl (.cons (.ro rfl rfl) (.nil _)) rfl ?_
    | refine ACall.useIs [4] (implShortOf_call _ _ _ ?_) rfl (.cons (.ro rfl rfl) (.nil _)) rfl ?_
    | refine ACall.useIs [8] (implShortOf_call _ _ _ ?_) rfl (.cons (.ro rfl rfl) (.nil _)) rfl ?_
    | refine ACall.useIs [6, 3] (eqIntS_call _ _ ?_) rfl (.cons (.ro rfl rfl) (.cons (.ro rfl rfl) (.nil _))) rfl ?_
    | refine ACall.useIs [9, 3] (eqIntS_call _ _ ?_) rfl (.cons (.ro rfl rfl) (.cons (.ro rfl rfl) (.nil _))) rfl ?_
    | refine ACall.useIs [4, 7] (eqPairing_call _ _ _ _ _ _ ?_) rfl (.cons (.ro rfl rfl) (.cons (.ro rfl rfl) (.nil _))) rfl ?_
    | refine ACall.useIs [4] (markPairing_call _ _ _ _ ?_ ?_) rfl (.cons (.same rfl rfl) (.nil _)) rfl ?_
    | refine ACall.useIs [6] (markIntS_call _ _ ?_ ?_) rfl (.cons (.same rfl rfl) (.nil _)) rfl ?_
    | refine ACall.useIs [6] (heldIntS_call _ _ ?_ ?_) rfl (.cons (.ro rfl rfl) (.nil _)) rfl ?_
    | refine Ret.bool [0] ?_ (.cons (.same rfl rfl) (.nil _)) rfl
    | refine VC.mk ?_ ?_
  all_goals try simp only [decide_eq_true_eq, decide_eq_false_iff_not, Bool.not_eq_true', Bool.not_eq_false', cond_true, cond_false, eqB_true, eqB_false] at *
  all_goals try simp only [in64, idxAdd_zero_left, Int.toNat_natCast, fillTo_length, Int.ofNat_lt, Int.ofNat_le, Int.natCast_inj] at *
  all_goals try simp only [marksI_length] at *
  all_goals try
    have hsm : SmallR ll := SmallR.of (n := 1048576) (by omega) (by assumption)
    have htot := hsm.tot
  all_goals try have hfact := shL_le n m ll
  all_goals try have hfact2 := trivial
  all_goals first
    | rfl
    | omega
    | exact h3
    | exact hsm
    | exact ⟨rfl, rfl, trivial⟩
    | exact ⟨by omega, by omega⟩
    | (simp_all [eqB]; done)
    | (simp_all [eqB]; omega)

theorem lawCoverOf_call (n m : Int) (ll : List (List Int)) (h1 : ll.length ≤ 9223372036854775807) (h3 : ∀ l ∈ ll, l.length ≤ 9223372036854775807) : ACall Try.prog 9 [.agg [.int .i64 n, .int .i64 m, .slice ⟨0, 0, 0, 1, 0⟩ ll.length]] [.rows true ll] (Is (.bool true) [.rows true ll]) := by
  refine ACall.walk T Try.func9 Try.ntmps9 Try.results9 rfl rfl rfl (Is.nv _ _) ?_
  repeat' (conv => whnf); first
    | refine AWP.seq ?_
    | refine AWP.reg T rfl ?_
    | refine AWP.drw T none rfl rfl rfl ?_
    | refine AWP.dep T none rfl rfl rfl rfl ?_
    | refine AWP.block ?_
    | refine AWP.condT rfl ?_
    | refine AWP.condF rfl ?_
    | refine AWP.cond rfl (fun hb => ?_) (fun hb => ?_)
    | refine AWP.ret ?_
    | refine AWP.exit ?_
    | refine AWP.skip ?_
    | refine GuardB.t ?_
    | refine GuardB.f ?_
    | refine GuardB.mk (fun hb => ?_) (fun hb => ?_)
    | refine NilQ.mk (fun hb => ?_) ?_
    | refine VC.mk Nat.zero_lt_one ?_
    | refine VC.mk rfl ?_
    | refine AWP.drw T (some [1, 6]) rfl rfl rfl ?_
    | refine ACall.useIs [0] (szPairing_call _ _ _ _ ?_ ?_ ?_) rfl (.cons (.same rfl rfl) (.nil _)) rfl ?_
    | refine ACall.useIs [0] (toPairing_call _ _ _ ?_) rfl (.cons (.same rfl rfl) (.nil _)) rfl ?_
    | refine ACall.useIs [2] (specCoverOf_call _ _ _ ?_) rfl (.cons (.ro rfl rfl) (.nil _)) rfl ?_
    | refine ACall.useIs [5] (implCoverOf_call _ _ _ ?_) rfl (.cons (.ro rfl rfl) (.nil _)) rfl ?_
    | refine ACall.useIs [10] (implCoverOf_call _ _ _ ?_) rfl (.cons (.ro rfl rfl) (.nil _)) rfl ?_
    | refine ACall.useIs [7, 3] (eqIntS_call _ _ ?_) rfl (.cons (.ro rfl rfl) (.cons (.ro rfl rfl) (.nil _))) rfl ?_
    | refine ACall.useIs [8, 4] (eqIntS_call _ _ ?_) rfl (.cons (.ro rfl rfl) (.cons (.ro rfl rfl) (.nil _))) rfl ?_
    | refine ACall.useIs [11, 3] (eqIntS_call _ _ ?_) rfl (.cons (.ro rfl rfl) (.cons (.ro rfl rfl) (.nil _))) rfl ?_
    | refine ACall.useIs [12, 4] (eqIntS_call _ _ ?_) rfl (.cons (.ro rfl rfl) (.cons (.ro rfl rfl) (.nil _))) rfl ?_
    | refine ACall.useIs [5, 9] (eqPairing_call _ _ _ _ _ _ ?_) rfl (.cons (.ro rfl rfl) (.cons (.ro rfl rfl) (.nil _))) rfl ?_
    | refine ACall.useIs [5] (markPairing_call _ _ _ _ ?_ ?_) rfl (.cons (.same rfl rfl) (.nil _)) rfl ?_
    | refine ACall.useIs [7] (markIntS_call _ _ ?_ ?_) rfl (.cons (.same rfl rfl) (.nil _)) rfl ?_
    | refine ACall.useIs [8] (markIntS_call _ _ ?_ ?_) rfl (.cons (.same rfl rfl) (.nil _)) rfl ?_
    | refine ACall.useIs [7] (heldIntS_call _ _ ?_ ?_) rfl (.cons (.ro rfl rfl) (.nil _)) rfl ?_
    | refine ACall.useIs [8] (heldIntS_call _ _ ?_ ?_) rfl (.cons (.ro rfl rfl) (.nil _)) rfl ?_
    | refine Ret.bool [0] ?_ (.cons (.same rfl rfl) (.nil _)) rfl
    | refine VC.mk ?_ ?_
  all_goals try simp only [decide_eq_true_eq, decide_eq_false_iff_not, Bool.not_eq_true', Bool.not_eq_false', cond_true, cond_false, eqB_true, eqB_false] at *
  all_goals try simp only [in64, idxAdd_zero_left, Int.toNat_natCast, fillTo_length, Int.ofNat_lt, Int.ofNat_le, Int.natCast_inj] at *
  all_goals try simp only [marksI_length] at *
  all_goals try
    have hsm : SmallR ll := SmallR.of (n := 1048576) (by omega) (by assumption)
    have htot := hsm.tot
  all_goals try have hfact := coA_le n m ll
  all_goals try have hfact2 := coR_le n m ll
  all_goals first
    | rfl
    | omega
    | exact h3
    | exact hsm
    | exact ⟨rfl, rfl, trivial⟩
    | exact ⟨by omega, by omega⟩
    | (simp_all [eqB]; done)
    | (simp_all [eqB]; omega)

end YtofjbgpaofcpjaaAM
