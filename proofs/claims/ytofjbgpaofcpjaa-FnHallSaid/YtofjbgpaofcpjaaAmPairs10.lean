/- Contracts of functions of this seat. -/
import Derived.Test.YtofjbgpaofcpjaaAmTabPairs
import Derived.Test.YtofjbgpaofcpjaaAmModels
import Derived.Test.YtofjbgpaofcpjaaAmPairs9
set_option linter.unusedVariables false
set_option linter.unusedSimpArgs false
set_option maxRecDepth 100000
set_option maxHeartbeats 2000000
namespace YtofjbgpaofcpjaaAM
open Go Go.Proofs
attribute [local irreducible] foldN askR askN maskL impB impO bestN freeN stQ rowQ qN inQ sortI sortN goodP isMatch matchB tryA rcQ reachQ bestM' selN rangeI keepN midD copyL putL shB shL coA coR

theorem l10Reach_call (n m : Int) (ll : List (List Int)) (hr : SmallR ll) (hg : goodP n m ll = true) (mt : List Int) (c : Nat) (hc : c = ll.length) (hlen : mt.length = c) : ACall Try.prog 60 [.agg [.int .i64 n, .int .i64 m, .slice ⟨0, 0, 0, 1, 0⟩ ll.length], .slice ⟨1, 0, 0, 1, 0⟩ c] [.rows true ll, .arr true .int mt] (Is (.tuple [.slice ⟨2, 0, 0, 1, 0⟩ ((reachQ ll mt).1).length, .slice ⟨3, 0, 0, 1, 0⟩ ((reachQ ll mt).2).length]) [.rows true ll, .arr true .int mt, .arr false .int ((reachQ ll mt).1), .arr false .int ((reachQ ll mt).2)]) := by
  refine ACall.walk T Try.func60 Try.ntmps60 Try.results60 rfl rfl rfl (Is.nv _ _) ?_
  repeat' (conv => whnf); first
    | refine AWP.seq ?_
    | refine AWP.reg T rfl ?_
    | refine AWP.drw T none rfl rfl rfl ?_
    | refine AWP.dep T none rfl rfl rfl rfl ?_
    | refine AWP.block ?_
    | refine AWP.condT rfl ?_
    | refine AWP.condF rfl ?_
    | refine AWP.cond rfl (fun hb => ?_) (fun hb => ?_)
    | refine AWP.ret ?_
    | refine AWP.exit ?_
    | refine AWP.skip ?_
    | refine GuardB.t ?_
    | refine GuardB.f ?_
    | refine GuardB.mk (fun hb => ?_) (fun hb => ?_)
    | refine NilQ.mk (fun hb => ?_) ?_
    | refine VC.mk Nat.zero_lt_one ?_
    | refine VC.mk rfl ?_
    | refine AWP.while (ι := Nat) (fun j => St.of [(1, .slice ⟨1, 0, 0, 1, 0⟩ c), (2, .ptr ⟨2, 0, 0, 3, 0⟩), (6, .slice ⟨3, 0, 0, 1, 0⟩ ((inQ ll mt k j).1).length), (7, .slice ⟨4, 0, 0, 1, 0⟩ ((inQ ll mt k j).2).length), (10, .int .i64 k), (41, .slice ⟨0, ((qN ll mt k).1.getD k 0).toNat + 1, 0, 1, 0⟩ (ll.getD ((qN ll mt k).1.getD k 0).toNat []).length), (42, .int .i64 (ll.getD ((qN ll mt k).1.getD k 0).toNat []).length), (43, .int .i64 j)] [.rows true ll, .arr true .int mt, .arr false (.raw 3) [[.int .i64 n, .int .i64 m, .slice ⟨0, 0, 0, 1, 0⟩ ll.length]], .arr false .int ((inQ ll mt k j).1), .arr false .int ((inQ ll mt k j).2)]) (fun j => j ≤ (ll.getD ((qN ll mt k).1.getD k 0).toNat []).length) (fun j => (ll.getD ((qN ll mt k).1.getD k 0).toNat []).length - j) 0 (Nat.zero_le _)
        (Weak.of [0, 1, 2, 3, 4] (.cons rfl rfl (.cons rfl rfl (.s rfl ?_ rfl (.s rfl ?_ rfl (.cons rfl rfl (.cons rfl rfl (.cons rfl rfl (.cons rfl rfl .nil)))))))) (.cons (.same rfl rfl) (.cons (.same rfl rfl) (.cons (.same rfl rfl) (.cons (.arr rfl ?_) (.cons (.arr rfl ?_) (.nil _)))))) rfl) (fun j hj => ?_)
    | refine AWP.while (ι := Nat) (fun k => St.of [(1, .slice ⟨1, 0, 0, 1, 0⟩ c), (2, .ptr ⟨2, 0, 0, 3, 0⟩), (6, .slice ⟨3, 0, 0, 1, 0⟩ ((qN ll mt k).1).length), (7, .slice ⟨4, 0, 0, 1, 0⟩ ((qN ll mt k).2).length), (10, .int .i64 k)] [.rows true ll, .arr true .int mt, .arr false (.raw 3) [[.int .i64 n, .int .i64 m, .slice ⟨0, 0, 0, 1, 0⟩ ll.length]], .arr false .int ((qN ll mt k).1), .arr false .int ((qN ll mt k).2)]) (fun k => k ≤ (qN ll mt k).1.length) (fun k => 8 - k) 0 (Nat.zero_le _)
        (Weak.of [0, 1, 2, 3, 4] (.cons rfl rfl (.cons rfl rfl (.s rfl ?_ rfl (.s rfl ?_ rfl (.cons rfl rfl .nil))))) (.cons (.same rfl rfl) (.cons (.same rfl rfl) (.cons (.same rfl rfl) (.cons (.arr rfl ?_) (.cons (.arr rfl ?_) (.nil _)))))) rfl) (fun k hk => ?_)
    | refine AWP.while (ι := Nat) (fun k => St.of [(1, .slice ⟨1, 0, 0, 1, 0⟩ c), (2, .ptr ⟨2, 0, 0, 3, 0⟩), (6, .slice ⟨3, 0, 0, 1, 0⟩ (freeN mt k).length), (7, .slice ⟨4, 0, 0, 1, 0⟩ 0), (14, .slice ⟨1, 0, 0, 1, 0⟩ c), (15, .int .i64 c), (16, .int .i64 k)] [.rows true ll, .arr true .int mt, .arr false (.raw 3) [[.int .i64 n, .int .i64 m, .slice ⟨0, 0, 0, 1, 0⟩ ll.length]], .arr false .int (freeN mt k), .arr false .int ([])]) (fun k => k ≤ c) (fun k => c - k) 0 (Nat.zero_le _)
        (Weak.of [0, 1, 2, 5, 6] (.cons rfl rfl (.cons rfl rfl (.s rfl ?_ rfl (.cons rfl rfl (.cons rfl rfl (.cons rfl rfl (.cons rfl rfl .nil))))))) (.cons (.same rfl rfl) (.cons (.same rfl rfl) (.cons (.same rfl rfl) (.cons (.arr rfl ?_) (.cons (.same rfl rfl) (.nil _)))))) rfl) (fun k hk => ?_)
    | refine ACall.useIs [4] (l1Has_call _ _ ?_) rfl (.cons (.ro rfl rfl) (.nil _)) rfl ?_
    | refine ACall.useIs [1] (owner2_call _ _ _ ?_ ?_) rfl (.cons (.ro rfl rfl) (.nil _)) rfl ?_
    | refine ACall.useIs [3] (l1Has_call _ _ ?_) rfl (.cons (.ro rfl rfl) (.nil _)) rfl ?_
    | refine roundEnd (k + 1) ?_ ?_ (Weak.of [0, 1, 2, 6, 4] (.cons rfl rfl (.cons rfl rfl (.s rfl ?_ rfl (.cons rfl rfl (.cons rfl rfl (.cons rfl rfl (.cons rfl rfl .nil))))))) (.cons (.same rfl rfl) (.cons (.same rfl rfl) (.cons (.same rfl rfl) (.cons (.arr rfl ?_) (.cons (.same rfl rfl) (.nil _)))))) rfl)
    | refine roundEnd (k + 1) ?_ ?_ (Weak.of [0, 1, 2, 3, 4] (.cons rfl rfl (.cons rfl rfl (.s rfl ?_ rfl (.cons rfl rfl (.cons rfl rfl (.cons rfl rfl (.cons rfl rfl .nil))))))) (.cons (.same rfl rfl) (.cons (.same rfl rfl) (.cons (.same rfl rfl) (.cons (.arr rfl ?_) (.cons (.same rfl rfl) (.nil _)))))) rfl)
    | refine roundEnd (j + 1) ?_ ?_ (Weak.of [0, 1, 2, 8, 6] (.cons rfl rfl (.cons rfl rfl (.s rfl ?_ rfl (.s rfl ?_ rfl (.cons rfl rfl (.cons rfl rfl (.cons rfl rfl (.cons rfl rfl .nil)))))))) (.cons (.same rfl rfl) (.cons (.same rfl rfl) (.cons (.same rfl rfl) (.cons (.arr rfl ?_) (.cons (.arr rfl ?_) (.nil _)))))) rfl)
    | refine roundEnd (j + 1) ?_ ?_ (Weak.of [0, 1, 2, 3, 6] (.cons rfl rfl (.cons rfl rfl (.s rfl ?_ rfl (.s rfl ?_ rfl (.cons rfl rfl (.cons rfl rfl (.cons rfl rfl (.cons rfl rfl .nil)))))))) (.cons (.same rfl rfl) (.cons (.same rfl rfl) (.cons (.same rfl rfl) (.cons (.arr rfl ?_) (.cons (.arr rfl ?_) (.nil _)))))) rfl)
    | refine roundEnd (j + 1) ?_ ?_ (Weak.of [0, 1, 2, 3, 4] (.cons rfl rfl (.cons rfl rfl (.s rfl ?_ rfl (.s rfl ?_ rfl (.cons rfl rfl (.cons rfl rfl (.cons rfl rfl (.cons rfl rfl .nil)))))))) (.cons (.same rfl rfl) (.cons (.same rfl rfl) (.cons (.same rfl rfl) (.cons (.arr rfl ?_) (.cons (.arr rfl ?_) (.nil _)))))) rfl)
    | refine roundEnd (k + 1) ?_ ?_ (Weak.of [0, 1, 2, 3, 4] (.cons rfl rfl (.cons rfl rfl (.s rfl ?_ rfl (.s rfl ?_ rfl (.cons rfl rfl .nil))))) (.cons (.same rfl rfl) (.cons (.same rfl rfl) (.cons (.same rfl rfl) (.cons (.arr rfl ?_) (.cons (.arr rfl ?_) (.nil _)))))) rfl)
    | refine Ret.ss [0, 1, 3, 4] rfl ?_ ?_ (.cons (.same rfl rfl) (.cons (.same rfl rfl) (.cons (.arr rfl ?_) (.cons (.arr rfl ?_) (.nil _))))) rfl
    | refine VC.mk ?_ ?_
  all_goals try simp only [decide_eq_true_eq, decide_eq_false_iff_not, Bool.not_eq_true', Bool.not_eq_false', cond_true, cond_false, eqB_true, eqB_false] at *
  all_goals try simp only [in64, idxAdd_zero_left, Int.toNat_natCast, fillTo_length, Int.ofNat_lt, Int.ofNat_le, Int.natCast_inj] at *
  all_goals try have hw := goodP_wish hg
  all_goals try have hgl := goodP_len hg
  all_goals try have hml : (mt).length = c := by first | assumption | exact bestM_len hw _
  all_goals try have hfk := (freeN_inv (mt := mt) k)
  all_goals try have hfl : (freeN mt k).length ≤ 8 := nod_len 8 _ hfk.1 (fun x hx => by have := hfk.2.1 x hx; omega)
  all_goals try
    have hQ := qN_inv (n := ll.length) (mt := mt) (by omega) hw k
    have hQ8 := hQ.len (by omega) (by omega)
  all_goals try
    have hk2 : k < (qN ll mt k).1.length := by omega
    have hkm := hQ.r1 ((qN ll mt k).1.getD k 0) (by rw [getD_get hk2]; exact List.getElem_mem _)
    have hrow := hr.row ((qN ll mt k).1.getD k 0).toNat
  all_goals try
    have hI := inQ_inv (n := ll.length) (mt := mt) (by omega) hw hj
    have hI8 := hI.len (by omega) (by omega)
  all_goals try
    have hol := idxF_lt (fun x => decide (x = (ll.getD ((qN ll mt k).1.getD k 0).toNat []).getD j 0)) mt
  all_goals first
    | omega
    | rfl
    | exact hrow
    | exact ⟨by omega, by omega⟩
    | exact ⟨by simp, by simp, by omega⟩
    | exact ⟨by omega, by simp, by omega⟩
    | exact freeN_zero _
    | (rw [freeN_zero]; done)
    | (rw [freeN_zero]; rfl)
    | (rw [freeN_succ, if_pos (by assumption), sub_snoc' rfl]; done)
    | (rw [freeN_succ, if_pos (by assumption)]; simp; done)
    | (rw [freeN_succ, if_neg (by assumption)]; done)
    | (have e : k = c := by omega
       subst e
       first
       | (rw [qN_zero, hml]; done)
       | (rw [qN_zero, hml]; rfl))
    | (have e : k = (mt).length := by omega
       rw [qN_zero, ← e]; first | done | rfl)
    | exact shB_of hg k (by omega)
    | (rw [inQ_zero]; done)
    | (rw [qN_zero]; simp; done)
    | (have e := inQ_skip (by assumption)
       first
       | (rw [e]; done)
       | exact e)
    | (have e := inQ_both (mt := mt) (ll := ll) (k := k) (j := j) (by assumption) (by assumption) (by assumption)
       first
       | (rw [e, sub_snoc' rfl]; done)
       | (rw [e]; simp; done))
    | (have e := inQ_right (mt := mt) (ll := ll) (k := k) (j := j) (by assumption) (by first | exact .inl (by assumption) | exact .inl (by omega) | exact .inr (by assumption))
       first
       | (rw [e, sub_snoc' rfl]; done)
       | (rw [e]; simp; done)
       | (rw [e]; done))
    | (have hjl : j = (ll.getD ((qN ll mt k).1.getD k 0).toNat []).length := by omega
       have hat := inQ_at (ll := ll) (mt := mt) (j := j) hk2
       have e := inQ_all (ll := ll) (mt := mt) hk2
       rw [← hjl] at e
       first
       | (rw [e]; done)
       | (rw [← e]; omega))
    | (have e := q_end (ll := ll) (mt := mt) (k := k) (by omega) (by omega)
       first
       | (rw [e]; done)
       | (rw [e]; rfl)
       | (rw [rcQ, ← e]; done)
       | (rw [rcQ, ← e, sortI_len]; done))
    | (rw [sortI_len]; omega)

theorem reached_call (n m : Int) (ll : List (List Int)) (hr : SmallR ll) (hg : goodP n m ll = true) : ACall Try.prog 62 [.agg [.int .i64 n, .int .i64 m, .slice ⟨0, 0, 0, 1, 0⟩ ll.length]] [.rows true ll] (Is (.tuple [.slice ⟨1, 0, 0, 1, 0⟩ (sortI (rcQ n m ll).1).length, .slice ⟨2, 0, 0, 1, 0⟩ (sortI (rcQ n m ll).2).length, .bool (shB n m ll)]) [.rows true ll, .arr false .int (sortI (rcQ n m ll).1), .arr false .int (sortI (rcQ n m ll).2)]) := by
  refine ACall.walk T Try.func62 Try.ntmps62 Try.results62 rfl rfl rfl (Is.nv _ _) ?_
  repeat' (conv => whnf); first
    | refine AWP.seq ?_
    | refine AWP.reg T rfl ?_
    | refine AWP.drw T none rfl rfl rfl ?_
    | refine AWP.dep T none rfl rfl rfl rfl ?_
    | refine AWP.block ?_
    | refine AWP.condT rfl ?_
    | refine AWP.condF rfl ?_
    | refine AWP.cond rfl (fun hb => ?_) (fun hb => ?_)
    | refine AWP.ret ?_
    | refine AWP.exit ?_
    | refine AWP.skip ?_
    | refine GuardB.t ?_
    | refine GuardB.f ?_
    | refine GuardB.mk (fun hb => ?_) (fun hb => ?_)
    | refine NilQ.mk (fun hb => ?_) ?_
    | refine VC.mk Nat.zero_lt_one ?_
    | refine VC.mk rfl ?_
    | refine AWP.while (ι := Nat) (fun j => St.of [(1, .ptr ⟨1, 0, 0, 3, 0⟩), (5, .slice ⟨2, 0, 0, 1, 0⟩ n.toNat), (10, .bool (shB n m ll)), (6, .slice ⟨3, 0, 0, 1, 0⟩ ((inQ ll (bestM' ll n.toNat) k j).1).length), (7, .slice ⟨4, 0, 0, 1, 0⟩ ((inQ ll (bestM' ll n.toNat) k j).2).length), (11, .int .i64 k), (49, .slice ⟨0, ((qN ll (bestM' ll n.toNat) k).1.getD k 0).toNat + 1, 0, 1, 0⟩ (ll.getD ((qN ll (bestM' ll n.toNat) k).1.getD k 0).toNat []).length), (50, .int .i64 (ll.getD ((qN ll (bestM' ll n.toNat) k).1.getD k 0).toNat []).length), (51, .int .i64 j)] [.rows true ll, .arr false (.raw 3) [[.int .i64 n, .int .i64 m, .slice ⟨0, 0, 0, 1, 0⟩ ll.length]], .arr false .int ((bestM' ll n.toNat)), .arr false .int ((inQ ll (bestM' ll n.toNat) k j).1), .arr false .int ((inQ ll (bestM' ll n.toNat) k j).2)]) (fun j => j ≤ (ll.getD ((qN ll (bestM' ll n.toNat) k).1.getD k 0).toNat []).length) (fun j => (ll.getD ((qN ll (bestM' ll n.toNat) k).1.getD k 0).toNat []).length - j) 0 (Nat.zero_le _)
        (Weak.of [0, 1, 2, 3, 4] (.cons rfl rfl (.cons rfl rfl (.cons rfl rfl (.s rfl ?_ rfl (.s rfl ?_ rfl (.cons rfl rfl (.cons rfl rfl (.cons rfl rfl (.cons rfl rfl .nil))))))))) (.cons (.same rfl rfl) (.cons (.same rfl rfl) (.cons (.same rfl rfl) (.cons (.arr rfl ?_) (.cons (.arr rfl ?_) (.nil _)))))) rfl) (fun j hj => ?_)
    | refine AWP.while (ι := Nat) (fun k => St.of [(1, .ptr ⟨1, 0, 0, 3, 0⟩), (5, .slice ⟨2, 0, 0, 1, 0⟩ n.toNat), (10, .bool (shB n m ll)), (6, .slice ⟨3, 0, 0, 1, 0⟩ ((qN ll (bestM' ll n.toNat) k).1).length), (7, .slice ⟨4, 0, 0, 1, 0⟩ ((qN ll (bestM' ll n.toNat) k).2).length), (11, .int .i64 k)] [.rows true ll, .arr false (.raw 3) [[.int .i64 n, .int .i64 m, .slice ⟨0, 0, 0, 1, 0⟩ ll.length]], .arr false .int ((bestM' ll n.toNat)), .arr false .int ((qN ll (bestM' ll n.toNat) k).1), .arr false .int ((qN ll (bestM' ll n.toNat) k).2)]) (fun k => k ≤ (qN ll (bestM' ll n.toNat) k).1.length) (fun k => 8 - k) 0 (Nat.zero_le _)
        (Weak.of [0, 1, 2, 3, 4] (.cons rfl rfl (.cons rfl rfl (.b rfl ?_ (.s rfl ?_ rfl (.s rfl ?_ rfl (.cons rfl rfl .nil)))))) (.cons (.same rfl rfl) (.cons (.same rfl rfl) (.cons (.same rfl rfl) (.cons (.arr rfl ?_) (.cons (.arr rfl ?_) (.nil _)))))) rfl) (fun k hk => ?_)
    | refine AWP.while (ι := Nat) (fun k => St.of [(1, .ptr ⟨1, 0, 0, 3, 0⟩), (5, .slice ⟨2, 0, 0, 1, 0⟩ n.toNat), (6, .slice ⟨3, 0, 0, 1, 0⟩ (freeN (bestM' ll n.toNat) k).length), (7, .slice ⟨4, 0, 0, 1, 0⟩ 0), (19, .slice ⟨2, 0, 0, 1, 0⟩ n.toNat), (20, .int .i64 n.toNat), (21, .int .i64 k)] [.rows true ll, .arr false (.raw 3) [[.int .i64 n, .int .i64 m, .slice ⟨0, 0, 0, 1, 0⟩ ll.length]], .arr false .int ((bestM' ll n.toNat)), .arr false .int (freeN (bestM' ll n.toNat) k), .arr false .int ([])]) (fun k => k ≤ n.toNat) (fun k => n.toNat - k) 0 (Nat.zero_le _)
        (Weak.of [0, 1, 4, 5, 6] (.cons rfl rfl (.cons rfl rfl (.s rfl ?_ rfl (.cons rfl rfl (.cons rfl rfl (.cons rfl rfl (.cons rfl rfl .nil))))))) (.cons (.same rfl rfl) (.cons (.same rfl rfl) (.cons (.same rfl rfl) (.cons (.arr rfl ?_) (.cons (.same rfl rfl) (.nil _)))))) rfl) (fun k hk => ?_)
    | refine ACall.useIs [4] (slicesContains_call _ _ ?_) rfl (.cons (.ro rfl rfl) (.nil _)) rfl ?_
    | refine ACall.useIs [2] (slicesIndex2_call _ _ _ ?_ ?_) rfl (.cons (.ro rfl rfl) (.nil _)) rfl ?_
    | refine ACall.useIs [3] (slicesContains_call _ _ ?_) rfl (.cons (.ro rfl rfl) (.nil _)) rfl ?_
    | refine roundEnd (k + 1) ?_ ?_ (Weak.of [0, 1, 2, 6, 4] (.cons rfl rfl (.cons rfl rfl (.s rfl ?_ rfl (.cons rfl rfl (.cons rfl rfl (.cons rfl rfl (.cons rfl rfl .nil))))))) (.cons (.same rfl rfl) (.cons (.same rfl rfl) (.cons (.same rfl rfl) (.cons (.arr rfl ?_) (.cons (.same rfl rfl) (.nil _)))))) rfl)
    | refine roundEnd (k + 1) ?_ ?_ (Weak.of [0, 1, 2, 3, 4] (.cons rfl rfl (.cons rfl rfl (.s rfl ?_ rfl (.cons rfl rfl (.cons rfl rfl (.cons rfl rfl (.cons rfl rfl .nil))))))) (.cons (.same rfl rfl) (.cons (.same rfl rfl) (.cons (.same rfl rfl) (.cons (.arr rfl ?_) (.cons (.same rfl rfl) (.nil _)))))) rfl)
    | refine roundEnd (j + 1) ?_ ?_ (Weak.of [0, 1, 2, 8, 6] (.cons rfl rfl (.cons rfl rfl (.cons rfl rfl (.s rfl ?_ rfl (.s rfl ?_ rfl (.cons rfl rfl (.cons rfl rfl (.cons rfl rfl (.cons rfl rfl .nil))))))))) (.cons (.same rfl rfl) (.cons (.same rfl rfl) (.cons (.same rfl rfl) (.cons (.arr rfl ?_) (.cons (.arr rfl ?_) (.nil _)))))) rfl)
    | refine roundEnd (j + 1) ?_ ?_ (Weak.of [0, 1, 2, 3, 6] (.cons rfl rfl (.cons rfl rfl (.cons rfl rfl (.s rfl ?_ rfl (.s rfl ?_ rfl (.cons rfl rfl (.cons rfl rfl (.cons rfl rfl (.cons rfl rfl .nil))))))))) (.cons (.same rfl rfl) (.cons (.same rfl rfl) (.cons (.same rfl rfl) (.cons (.arr rfl ?_) (.cons (.arr rfl ?_) (.nil _)))))) rfl)
    | refine roundEnd (j + 1) ?_ ?_ (Weak.of [0, 1, 2, 3, 4] (.cons rfl rfl (.cons rfl rfl (.cons rfl rfl (.s rfl ?_ rfl (.s rfl ?_ rfl (.cons rfl rfl (.cons rfl rfl (.cons rfl rfl (.cons rfl rfl .nil))))))))) (.cons (.same rfl rfl) (.cons (.same rfl rfl) (.cons (.same rfl rfl) (.cons (.arr rfl ?_) (.cons (.arr rfl ?_) (.nil _)))))) rfl)
    | refine roundEnd (k + 1) ?_ ?_ (Weak.of [0, 1, 2, 3, 4] (.cons rfl rfl (.cons rfl rfl (.cons rfl rfl (.s rfl ?_ rfl (.s rfl ?_ rfl (.cons rfl rfl .nil)))))) (.cons (.same rfl rfl) (.cons (.same rfl rfl) (.cons (.same rfl rfl) (.cons (.arr rfl ?_) (.cons (.arr rfl ?_) (.nil _)))))) rfl)
    | refine ACall.useIs [0] (best_call n m ll hr hg) rfl (.cons (.same rfl rfl) (.nil _)) rfl ?_
    | refine ACall.useIs [3] (sort_call _ _ ?_ ?_) rfl (.cons (.same rfl rfl) (.nil _)) rfl ?_
    | refine ACall.useIs [4] (sort_call _ _ ?_ ?_) rfl (.cons (.same rfl rfl) (.nil _)) rfl ?_
    | refine Ret.ssb [0, 3, 4] rfl ?_ ?_ ?_ (.cons (.same rfl rfl) (.cons (.arr rfl ?_) (.cons (.arr rfl ?_) (.nil _)))) rfl
    | refine VC.mk ?_ ?_
  all_goals try simp only [decide_eq_true_eq, decide_eq_false_iff_not, Bool.not_eq_true', Bool.not_eq_false', cond_true, cond_false, eqB_true, eqB_false] at *
  all_goals try simp only [in64, idxAdd_zero_left, Int.toNat_natCast, fillTo_length, Int.ofNat_lt, Int.ofNat_le, Int.natCast_inj] at *
  all_goals try have hw := goodP_wish hg
  all_goals try have hgl := goodP_len hg
  all_goals try have hml : ((bestM' ll n.toNat)).length = n.toNat := by first | assumption | exact bestM_len hw _
  all_goals try have hfk := (freeN_inv (mt := (bestM' ll n.toNat)) k)
  all_goals try have hfl : (freeN (bestM' ll n.toNat) k).length ≤ 8 := nod_len 8 _ hfk.1 (fun x hx => by have := hfk.2.1 x hx; omega)
  all_goals try
    have hQ := qN_inv (n := ll.length) (mt := (bestM' ll n.toNat)) (by omega) hw k
    have hQ8 := hQ.len (by omega) (by omega)
  all_goals try
    have hk2 : k < (qN ll (bestM' ll n.toNat) k).1.length := by omega
    have hkm := hQ.r1 ((qN ll (bestM' ll n.toNat) k).1.getD k 0) (by rw [getD_get hk2]; exact List.getElem_mem _)
    have hrow := hr.row ((qN ll (bestM' ll n.toNat) k).1.getD k 0).toNat
  all_goals try
    have hI := inQ_inv (n := ll.length) (mt := (bestM' ll n.toNat)) (by omega) hw hj
    have hI8 := hI.len (by omega) (by omega)
  all_goals try
    have hol := idxF_lt (fun x => decide (x = (ll.getD ((qN ll (bestM' ll n.toNat) k).1.getD k 0).toNat []).getD j 0)) (bestM' ll n.toNat)
  all_goals first
    | omega
    | rfl
    | exact hrow
    | exact ⟨by omega, by omega⟩
    | exact ⟨by simp, by simp, by omega⟩
    | exact ⟨by omega, by simp, by omega⟩
    | exact freeN_zero _
    | (rw [freeN_zero]; done)
    | (rw [freeN_zero]; rfl)
    | (rw [freeN_succ, if_pos (by assumption), sub_snoc' rfl]; done)
    | (rw [freeN_succ, if_pos (by assumption)]; simp; done)
    | (rw [freeN_succ, if_neg (by assumption)]; done)
    | (have e : k = n.toNat := by omega
       subst e
       first
       | (rw [qN_zero, hml]; done)
       | (rw [qN_zero, hml]; rfl))
    | (have e : k = ((bestM' ll n.toNat)).length := by omega
       rw [qN_zero, ← e]; first | done | rfl)
    | exact shB_of hg k (by omega)
    | (rw [inQ_zero]; done)
    | (rw [qN_zero]; simp; done)
    | (have e := inQ_skip (by assumption)
       first
       | (rw [e]; done)
       | exact e)
    | (have e := inQ_both (mt := (bestM' ll n.toNat)) (ll := ll) (k := k) (j := j) (by assumption) (by assumption) (by assumption)
       first
       | (rw [e, sub_snoc' rfl]; done)
       | (rw [e]; simp; done))
    | (have e := inQ_right (mt := (bestM' ll n.toNat)) (ll := ll) (k := k) (j := j) (by assumption) (by first | exact .inl (by assumption) | exact .inl (by omega) | exact .inr (by assumption))
       first
       | (rw [e, sub_snoc' rfl]; done)
       | (rw [e]; simp; done)
       | (rw [e]; done))
    | (have hjl : j = (ll.getD ((qN ll (bestM' ll n.toNat) k).1.getD k 0).toNat []).length := by omega
       have hat := inQ_at (ll := ll) (mt := (bestM' ll n.toNat)) (j := j) hk2
       have e := inQ_all (ll := ll) (mt := (bestM' ll n.toNat)) hk2
       rw [← hjl] at e
       first
       | (rw [e]; done)
       | (rw [← e]; omega))
    | (have e := q_end (ll := ll) (mt := (bestM' ll n.toNat)) (k := k) (by omega) (by omega)
       first
       | (rw [e]; done)
       | (rw [e]; rfl)
       | (rw [rcQ, ← e]; done)
       | (rw [rcQ, ← e, sortI_len]; done))
    | (rw [sortI_len]; omega)

end YtofjbgpaofcpjaaAM
