/- Contracts of functions of this seat. -/
import Derived.Test.YtofjbgpaofcpjaaAmTabPairs
import Derived.Test.YtofjbgpaofcpjaaAmModels
import Derived.Test.YtofjbgpaofcpjaaAmPairs2
set_option linter.unusedVariables false
set_option linter.unusedSimpArgs false
set_option maxRecDepth 100000
namespace YtofjbgpaofcpjaaAM
open Go Go.Proofs

theorem specIsCover_call (n m : Int) (ll : List (List Int)) (lf rt : List Int) (hr : SmallR ll)(hl : lf.length ≤ 1048576) (ht : rt.length ≤ 1048576) : ACall Try.prog 17 [.agg [.int .i64 n, .int .i64 m, .slice ⟨0, 0, 0, 1, 0⟩ ll.length], .slice ⟨1, 0, 0, 1, 0⟩ lf.length, .slice ⟨2, 0, 0, 1, 0⟩ rt.length] [.rows true ll, .arr true .int lf, .arr true .int rt] (Is (.tuple [.bool (isCover n m ll lf rt), .bool (coverOk n m ll lf rt)]) [.rows true ll, .arr true .int lf, .arr true .int rt]) := by
  refine ACall.walk T Try.func17 Try.ntmps17 Try.results17 rfl rfl rfl (Is.nv _ _) ?_
  repeat' (conv => whnf); first
    | refine AWP.seq ?_
    | refine AWP.reg T rfl ?_
    | refine AWP.drw T none rfl rfl rfl ?_
    | refine AWP.dep T none rfl rfl rfl rfl ?_
    | refine AWP.block ?_
    | refine AWP.condT rfl ?_
    | refine AWP.condF rfl ?_
    | refine AWP.cond rfl (fun hb => ?_) (fun hb => ?_)
    | refine AWP.ret ?_
    | refine AWP.exit ?_
    | refine AWP.skip ?_
    | refine GuardB.t ?_
    | refine GuardB.f ?_
    | refine GuardB.mk (fun hb => ?_) (fun hb => ?_)
    | refine NilQ.mk (fun hb => ?_) ?_
    | refine VC.mk Nat.zero_lt_one ?_
    | refine VC.mk rfl ?_
    | refine ACall.useIs [0] (specGoodPairing_call _ _ _ ?_) rfl (.cons (.same rfl rfl) (.nil _)) rfl ?_
    | refine ACall.useIs [1] (l1Some_call _ _ ?_) rfl (.cons (.same rfl rfl) (.nil _)) rfl ?_
    | refine ACall.useIs [2] (l1Some_call _ _ ?_) rfl (.cons (.same rfl rfl) (.nil _)) rfl ?_
    | refine ACall.useIs [1] (l1Has_call _ _ ?_) rfl (.cons (.same rfl rfl) (.nil _)) rfl ?_
    | refine ACall.useIs [2] (l1Has_call _ _ ?_) rfl (.cons (.same rfl rfl) (.nil _)) rfl ?_
    | refine AWP.while (ι := Nat) (fun q => St.of [(1, .slice ⟨1, 0, 0, 1, 0⟩ lf.length), (2, .slice ⟨2, 0, 0, 1, 0⟩ rt.length), (8, .int .i64 k), (30, .slice ⟨0, 0, 0, 1, 0⟩ ll.length), (31, .int .i64 ll.length), (32, .int .i64 k), (37, .slice ⟨0, k + 1, 0, 1, 0⟩ (ll.getD k []).length), (38, .int .i64 (ll.getD k []).length), (39, .int .i64 q)] [.rows true ll, .arr true .int lf, .arr true .int rt]) (fun q => NoneTo (fun x => !hasB lf (k : Int) && !hasB rt x) (ll.getD k []) q) (fun q => (ll.getD k []).length - q) 0 (NoneTo.zero _ _)
        (Weak.of [0, 1, 2] (.cons rfl rfl (.cons rfl rfl (.cons rfl rfl (.cons rfl rfl (.cons rfl rfl (.cons rfl rfl (.cons rfl rfl (.cons rfl rfl (.cons rfl rfl .nil))))))))) (.cons (.same rfl rfl) (.cons (.same rfl rfl) (.cons (.same rfl rfl) (.nil _)))) rfl) (fun q hq => ?_)
    | refine AWP.while (ι := Nat) (fun k => St.of [(1, .slice ⟨1, 0, 0, 1, 0⟩ lf.length), (2, .slice ⟨2, 0, 0, 1, 0⟩ rt.length), (30, .slice ⟨0, 0, 0, 1, 0⟩ ll.length), (31, .int .i64 ll.length), (32, .int .i64 k)] [.rows true ll, .arr true .int lf, .arr true .int rt]) (fun k => AllTo (coverAt ll lf rt) ll.length k) (fun k => ll.length - k) 0 (AllTo.zero _ _)
        (Weak.of [0, 1, 2] (.cons rfl rfl (.cons rfl rfl (.cons rfl rfl (.cons rfl rfl (.cons rfl rfl .nil))))) (.cons (.same rfl rfl) (.cons (.same rfl rfl) (.cons (.same rfl rfl) (.nil _)))) rfl) (fun k hk => ?_)
    | refine roundEnd (q + 1) ?_ ?_ (Weak.of [0, 1, 2] (.cons rfl rfl (.cons rfl rfl (.cons rfl rfl (.cons rfl rfl (.cons rfl rfl (.cons rfl rfl (.cons rfl rfl (.cons rfl rfl (.cons rfl rfl .nil))))))))) (.cons (.same rfl rfl) (.cons (.same rfl rfl) (.cons (.same rfl rfl) (.nil _)))) rfl)
    | refine roundEnd (k + 1) ?_ ?_ (Weak.of [0, 1, 2] (.cons rfl rfl (.cons rfl rfl (.cons rfl rfl (.cons rfl rfl (.cons rfl rfl .nil))))) (.cons (.same rfl rfl) (.cons (.same rfl rfl) (.cons (.same rfl rfl) (.nil _)))) rfl)
    | refine Ret.bb [0, 1, 2] ?_ ?_ (.cons (.same rfl rfl) (.cons (.same rfl rfl) (.cons (.same rfl rfl) (.nil _)))) rfl
    | refine VC.mk ?_ ?_
  all_goals try simp only [decide_eq_true_eq, decide_eq_false_iff_not, Bool.not_eq_true', Bool.not_eq_false', cond_true, cond_false, eqB_true, eqB_false] at *
  all_goals try simp only [in64, idxAdd_zero_left, Int.toNat_natCast, fillTo_length, Int.ofNat_lt, Int.ofNat_le, Int.natCast_inj] at *
  all_goals try have hrow := hr.row k
  all_goals try have hrl := hr.len
  all_goals try
    have hg : goodP n m ll = true := by assumption
    have hgl := goodP_len hg
  all_goals first
    | omega
    | exact hr
    | exact hl
    | exact ht
    | exact hrow
    | (have := hk.1; omega)
    | (have := hk.1; have := hq.1; omega)
    | (simp_all [isCover, coverOk]; done)
    | (have h2 : q < (ll.getD k []).length := by omega
       have h3 : k < ll.length := by have := hk.1; omega
       try simp only [getD_get h2] at *
       first
       | exact hq.next h2 (by simp_all)
       | (have h4 := any_here (p := fun x => !hasB rt x) h2 (by simp_all)
          have h5 : coverAt ll lf rt k = false := by simp_all [coverAt]
          have h6 : coverB ll lf rt = false := not_all h3 h5
          simp_all [isCover, coverOk]; done))
    | (have h3 : k < ll.length := by have := hk.1; omega
       have h4 := hq.any (by omega)
       refine hk.next h3 ?_
       rw [coverAt]
       cases h5 : hasB lf (k : Int)
       · simp only [h5, Bool.not_false, Bool.true_and] at h4
         rw [h4]; rfl
       · rfl)
    | (have h3 : k < ll.length := by have := hk.1; omega
       first
       | exact hk.next h3 (by simp_all [coverAt])
       | (have h5 : coverAt ll lf rt k = false := by simp_all [coverAt]
          have h6 : coverB ll lf rt = false := not_all h3 h5
          simp_all [isCover, coverOk]; done))
    | (have h7 : coverB ll lf rt = true := hk.all (by omega)
       simp_all [isCover, coverOk]; done)

theorem notIn_call (x : Int) (rt : List Int) (ht : rt.length ≤ 1048576) : ACall Try.prog 51 [.int .i64 x, .ptr ⟨0, 0, 0, 1, 0⟩] [.arr true (.raw 1) [[.slice ⟨1, 0, 0, 1, 0⟩ rt.length]], .arr true .int rt] (Is (.bool (!hasB rt x)) [.arr true (.raw 1) [[.slice ⟨1, 0, 0, 1, 0⟩ rt.length]], .arr true .int rt]) := by
  refine ACall.walk T Try.func51 Try.ntmps51 Try.results51 rfl rfl rfl (Is.nv _ _) ?_
  repeat' (conv => whnf); first
    | refine AWP.seq ?_
    | refine AWP.reg T rfl ?_
    | refine AWP.drw T none rfl rfl rfl ?_
    | refine AWP.dep T none rfl rfl rfl rfl ?_
    | refine AWP.block ?_
    | refine AWP.condT rfl ?_
    | refine AWP.condF rfl ?_
    | refine AWP.cond rfl (fun hb => ?_) (fun hb => ?_)
    | refine AWP.ret ?_
    | refine AWP.exit ?_
    | refine AWP.skip ?_
    | refine GuardB.t ?_
    | refine GuardB.f ?_
    | refine GuardB.mk (fun hb => ?_) (fun hb => ?_)
    | refine NilQ.mk (fun hb => ?_) ?_
    | refine VC.mk Nat.zero_lt_one ?_
    | refine VC.mk rfl ?_
    | refine ACall.useIs [1] (slicesContains_call _ _ ?_) rfl (.cons (.same rfl rfl) (.nil _)) rfl ?_
    | refine Ret.bool [0, 1] ?_ (.cons (.same rfl rfl) (.cons (.same rfl rfl) (.nil _))) rfl
    | refine VC.mk ?_ ?_
  all_goals first
    | exact ht
    | rfl

theorem idxNotIn_call (rt : List Int) (ht : rt.length ≤ 1048576) (l : List Int) (hl : l.length ≤ 1048576) : ACall Try.prog 74 [.slice ⟨0, 0, 0, 1, 0⟩ l.length, .func 51 [.ptr ⟨1, 0, 0, 1, 0⟩]] [.arr true .int l, .arr true (.raw 1) [[.slice ⟨2, 0, 0, 1, 0⟩ rt.length]], .arr true .int rt] (Is (.int .i64 (idxF (fun x => !hasB rt x) l)) [.arr true .int l, .arr true (.raw 1) [[.slice ⟨2, 0, 0, 1, 0⟩ rt.length]], .arr true .int rt]) := by
  refine ACall.walk T Try.func74 Try.ntmps74 Try.results74 rfl rfl rfl (Is.nv _ _) ?_
  repeat' (conv => whnf); first
    | refine AWP.seq ?_
    | refine AWP.reg T rfl ?_
    | refine AWP.drw T none rfl rfl rfl ?_
    | refine AWP.dep T none rfl rfl rfl rfl ?_
    | refine AWP.block ?_
    | refine AWP.condT rfl ?_
    | refine AWP.condF rfl ?_
    | refine AWP.cond rfl (fun hb => ?_) (fun hb => ?_)
    | refine AWP.ret ?_
    | refine AWP.exit ?_
    | refine AWP.skip ?_
    | refine GuardB.t ?_
    | refine GuardB.f ?_
    | refine GuardB.mk (fun hb => ?_) (fun hb => ?_)
    | refine NilQ.mk (fun hb => ?_) ?_
    | refine VC.mk Nat.zero_lt_one ?_
    | refine VC.mk rfl ?_
    | refine AWP.while (ι := Nat) (fun k => St.of [(0, .slice ⟨0, 0, 0, 1, 0⟩ l.length), (1, .func 51 [.ptr ⟨1, 0, 0, 1, 0⟩]), (7, .int .i64 l.length), (8, .int .i64 k)] [.arr true .int l, .arr true (.raw 1) [[.slice ⟨2, 0, 0, 1, 0⟩ rt.length]], .arr true .int rt]) (fun k => NoneTo (fun x => !hasB rt x) l k) (fun k => l.length - k) 0 (NoneTo.zero _ _)
        (Weak.of [0, 1, 2] (.cons rfl rfl (.cons rfl rfl (.cons rfl rfl (.cons rfl rfl .nil)))) (.cons (.same rfl rfl) (.cons (.same rfl rfl) (.cons (.same rfl rfl) (.nil _)))) rfl) (fun k hk => ?_)
    | refine ACall.useIs [1, 2] (notIn_call _ _ ht) rfl (.cons (.same rfl rfl) (.cons (.same rfl rfl) (.nil _))) rfl ?_
    | refine Ret.int [0, 1, 2] ?_ (.cons (.same rfl rfl) (.cons (.same rfl rfl) (.cons (.same rfl rfl) (.nil _)))) rfl
    | refine roundEnd (_ + 1) ?_ ?_ (Weak.of [0, 1, 2] (.cons rfl rfl (.cons rfl rfl (.cons rfl rfl (.cons rfl rfl .nil)))) (.cons (.same rfl rfl) (.cons (.same rfl rfl) (.cons (.same rfl rfl) (.nil _)))) rfl)
    | refine VC.mk ?_ ?_
  all_goals try simp only [decide_eq_true_eq, decide_eq_false_iff_not, Bool.not_eq_true', Bool.not_eq_false', cond_true, cond_false, eqB_true, eqB_false] at *
  all_goals try simp only [in64, idxAdd_zero_left, Int.toNat_natCast, fillTo_length, Int.ofNat_lt, Int.ofNat_le, Int.natCast_inj] at *
  all_goals first
    | omega
    | (have := hk.1; omega)
    | exact idxF_none (fun j hj => hk.2 j hj (by omega))
    | (have h2 : k < l.length := by omega
       simp only [getD_get h2] at *
       first
       | exact hk.next h2 (by simp_all)
       | exact idxF_here h2 (fun j hj => hk.2 j (by omega) hj) (by simp_all))

theorem anyNotIn_call (rt : List Int) (ht : rt.length ≤ 1048576) (l : List Int) (hl : l.length ≤ 1048576) : ACall Try.prog 50 [.slice ⟨0, 0, 0, 1, 0⟩ l.length, .func 51 [.ptr ⟨1, 0, 0, 1, 0⟩]] [.arr true .int l, .arr true (.raw 1) [[.slice ⟨2, 0, 0, 1, 0⟩ rt.length]], .arr true .int rt] (Is (.bool (l.any (fun x => !hasB rt x))) [.arr true .int l, .arr true (.raw 1) [[.slice ⟨2, 0, 0, 1, 0⟩ rt.length]], .arr true .int rt]) := by
  refine ACall.walk T Try.func50 Try.ntmps50 Try.results50 rfl rfl rfl (Is.nv _ _) ?_
  repeat' (conv => whnf); first
    | refine AWP.seq ?_
    | refine AWP.reg T rfl ?_
    | refine AWP.drw T none rfl rfl rfl ?_
    | refine AWP.dep T none rfl rfl rfl rfl ?_
    | refine AWP.block ?_
    | refine AWP.condT rfl ?_
    | refine AWP.condF rfl ?_
    | refine AWP.cond rfl (fun hb => ?_) (fun hb => ?_)
    | refine AWP.ret ?_
    | refine AWP.exit ?_
    | refine AWP.skip ?_
    | refine GuardB.t ?_
    | refine GuardB.f ?_
    | refine GuardB.mk (fun hb => ?_) (fun hb => ?_)
    | refine NilQ.mk (fun hb => ?_) ?_
    | refine VC.mk Nat.zero_lt_one ?_
    | refine VC.mk rfl ?_
    | refine ACall.useIs [0, 1, 2] (idxNotIn_call _ ht _ ?_) rfl (.cons (.same rfl rfl) (.cons (.same rfl rfl) (.cons (.same rfl rfl) (.nil _)))) rfl ?_
    | refine Ret.bool [0, 1, 2] ?_ (.cons (.same rfl rfl) (.cons (.same rfl rfl) (.cons (.same rfl rfl) (.nil _)))) rfl
    | refine VC.mk ?_ ?_
  all_goals first | exact idxF_any _ _ | exact hl

theorem implIsCover_call (n m : Int) (ll : List (List Int)) (lf rt : List Int) (hr : SmallR ll)(hl : lf.length ≤ 1048576) (ht : rt.length ≤ 1048576) : ACall Try.prog 19 [.agg [.int .i64 n, .int .i64 m, .slice ⟨0, 0, 0, 1, 0⟩ ll.length], .slice ⟨1, 0, 0, 1, 0⟩ lf.length, .slice ⟨2, 0, 0, 1, 0⟩ rt.length] [.rows true ll, .arr true .int lf, .arr true .int rt] (Is (.tuple [.bool (isCover n m ll lf rt), .bool (coverOk n m ll lf rt)]) [.rows true ll, .arr true .int lf, .arr true .int rt]) := by
  refine ACall.walk T Try.func19 Try.ntmps19 Try.results19 rfl rfl rfl (Is.nv _ _) ?_
  repeat' (conv => whnf); first
    | refine AWP.seq ?_
    | refine AWP.reg T rfl ?_
    | refine AWP.drw T none rfl rfl rfl ?_
    | refine AWP.dep T none rfl rfl rfl rfl ?_
    | refine AWP.block ?_
    | refine AWP.condT rfl ?_
    | refine AWP.condF rfl ?_
    | refine AWP.cond rfl (fun hb => ?_) (fun hb => ?_)
    | refine AWP.ret ?_
    | refine AWP.exit ?_
    | refine AWP.skip ?_
    | refine GuardB.t ?_
    | refine GuardB.f ?_
    | refine GuardB.mk (fun hb => ?_) (fun hb => ?_)
    | refine NilQ.mk (fun hb => ?_) ?_
    | refine VC.mk Nat.zero_lt_one ?_
    | refine VC.mk rfl ?_
    | refine ACall.useIs [0] (implGoodPairing_call _ _ _ ?_) rfl (.cons (.same rfl rfl) (.nil _)) rfl ?_
    | refine ACall.useIs [1] (rise_call _ _ ?_) rfl (.cons (.same rfl rfl) (.nil _)) rfl ?_
    | refine ACall.useIs [2] (rise_call _ _ ?_) rfl (.cons (.same rfl rfl) (.nil _)) rfl ?_
    | refine ACall.useIs [1] (slicesContains_call _ _ ?_) rfl (.cons (.same rfl rfl) (.nil _)) rfl ?_
    | refine ACall.row0 (id := 0) rfl ?_
    | refine ACall.useIs [5, 4, 2] (anyNotIn_call _ ?_ _ ?_) rfl (.cons (.same rfl rfl) (.cons (.ro rfl rfl) (.cons (.same rfl rfl) (.nil _)))) rfl ?_
    | refine AWP.while (ι := Nat) (fun k => St.of [(1, .slice ⟨1, 0, 0, 1, 0⟩ lf.length), (5, .ptr ⟨4, 0, 0, 1, 0⟩), (28, .slice ⟨0, 0, 0, 1, 0⟩ ll.length), (29, .int .i64 ll.length), (30, .int .i64 k)] [.rows true ll, .arr true .int lf, .arr true .int rt, .arr false (.raw 3) [[.int .i64 n, .int .i64 m, .slice ⟨0, 0, 0, 1, 0⟩ ll.length]], .arr false (.raw 1) [[.slice ⟨2, 0, 0, 1, 0⟩ rt.length]]]) (fun k => AllTo (coverAt ll lf rt) ll.length k) (fun k => ll.length - k) 0 (AllTo.zero _ _)
        (Weak.of [0, 1, 2, 3, 4] (.cons rfl rfl (.cons rfl rfl (.cons rfl rfl (.cons rfl rfl (.cons rfl rfl .nil))))) (.cons (.same rfl rfl) (.cons (.same rfl rfl) (.cons (.same rfl rfl) (.cons (.same rfl rfl) (.cons (.same rfl rfl) (.nil _)))))) rfl) (fun k hk => ?_)
    | refine roundEnd (k + 1) ?_ ?_ (Weak.of [0, 1, 2, 3, 4] (.cons rfl rfl (.cons rfl rfl (.cons rfl rfl (.cons rfl rfl (.cons rfl rfl .nil))))) (.cons (.same rfl rfl) (.cons (.same rfl rfl) (.cons (.same rfl rfl) (.cons (.same rfl rfl) (.cons (.same rfl rfl) (.nil _)))))) rfl)
    | refine Ret.bb [0, 1, 2] ?_ ?_ (.cons (.same rfl rfl) (.cons (.same rfl rfl) (.cons (.same rfl rfl) (.nil _)))) rfl
    | refine VC.mk ?_ ?_
  all_goals try simp only [decide_eq_true_eq, decide_eq_false_iff_not, Bool.not_eq_true', Bool.not_eq_false', cond_true, cond_false, eqB_true, eqB_false] at *
  all_goals try simp only [in64, idxAdd_zero_left, Int.toNat_natCast, fillTo_length, Int.ofNat_lt, Int.ofNat_le, Int.natCast_inj] at *
  all_goals try have hrow := hr.row k
  all_goals try have hrl := hr.len
  all_goals try
    have hg : goodP n m ll = true := by assumption
    have hgl := goodP_len hg
  all_goals first
    | omega
    | exact hr
    | exact hl
    | exact ht
    | exact hrow
    | (have := hk.1; omega)
    | (have := hk.1; have := hq.1; omega)
    | (simp_all [isCover, coverOk]; done)
    | (have h2 : q < (ll.getD k []).length := by omega
       have h3 : k < ll.length := by have := hk.1; omega
       try simp only [getD_get h2] at *
       first
       | exact hq.next h2 (by simp_all)
       | (have h4 := any_here (p := fun x => !hasB rt x) h2 (by simp_all)
          have h5 : coverAt ll lf rt k = false := by simp_all [coverAt]
          have h6 : coverB ll lf rt = false := not_all h3 h5
          simp_all [isCover, coverOk]; done))
    | (have h3 : k < ll.length := by have := hk.1; omega
       have h4 := hq.any (by omega)
       refine hk.next h3 ?_
       rw [coverAt]
       cases h5 : hasB lf (k : Int)
       · simp only [h5, Bool.not_false, Bool.true_and] at h4
         rw [h4]; rfl
       · rfl)
    | (have h3 : k < ll.length := by have := hk.1; omega
       first
       | exact hk.next h3 (by simp_all [coverAt])
       | (have h5 : coverAt ll lf rt k = false := by simp_all [coverAt]
          have h6 : coverB ll lf rt = false := not_all h3 h5
          simp_all [isCover, coverOk]; done))
    | (have h7 : coverB ll lf rt = true := hk.all (by omega)
       simp_all [isCover, coverOk]; done)

theorem l1Has_call2 (l : List Int) (n : Nat) (x : Int) (hl : l.length ≤ 1048576) (hn : n = l.length) : ACall Try.prog 48 [.slice ⟨0, 0, 0, 1, 0⟩ n, .int .i64 x] [.arr true .int l] (Is (.bool (hasB l x)) [.arr true .int l]) := by
  subst hn
  exact l1Has_call l x hl
theorem slicesContains_call2 (l : List Int) (n : Nat) (x : Int) (hl : l.length ≤ 1048576) (hn : n = l.length) : ACall Try.prog 49 [.slice ⟨0, 0, 0, 1, 0⟩ n, .int .i64 x] [.arr true .int l] (Is (.bool (hasB l x)) [.arr true .int l]) := by
  subst hn
  exact slicesContains_call l x hl
theorem l10Is_call (n m : Int) (ll : List (List Int)) (mt : List Int) (hr : SmallR ll) (hm : mt.length ≤ 1048576) (hll : mt.length = ll.length) (hn : (mt.length : Int) = n) : ACall Try.prog 52 [.agg [.int .i64 n, .int .i64 m, .slice ⟨0, 0, 0, 1, 0⟩ ll.length], .slice ⟨1, 0, 0, 1, 0⟩ mt.length] [.rows true ll, .arr true .int mt] (Is (.bool (matchB ll mt)) [.rows true ll, .arr true .int mt]) := by
  refine ACall.walk T Try.func52 Try.ntmps52 Try.results52 rfl rfl rfl (Is.nv _ _) ?_
  repeat' (conv => whnf); first
    | refine AWP.seq ?_
    | refine AWP.reg T rfl ?_
    | refine AWP.drw T none rfl rfl rfl ?_
    | refine AWP.dep T none rfl rfl rfl rfl ?_
    | refine AWP.block ?_
    | refine AWP.condT rfl ?_
    | refine AWP.condF rfl ?_
    | refine AWP.cond rfl (fun hb => ?_) (fun hb => ?_)
    | refine AWP.ret ?_
    | refine AWP.exit ?_
    | refine AWP.skip ?_
    | refine GuardB.t ?_
    | refine GuardB.f ?_
    | refine GuardB.mk (fun hb => ?_) (fun hb => ?_)
    | refine NilQ.mk (fun hb => ?_) ?_
    | refine VC.mk Nat.zero_lt_one ?_
    | refine VC.mk rfl ?_
    | refine AWP.while (ι := Nat) (fun k => St.of [(1, .slice ⟨1, 0, 0, 1, 0⟩ mt.length), (2, .ptr ⟨2, 0, 0, 3, 0⟩), (7, .slice ⟨1, 0, 0, 1, 0⟩ mt.length), (8, .int .i64 mt.length), (9, .int .i64 k)] [.rows true ll, .arr true .int mt, .arr false (.raw 3) [[.int .i64 n, .int .i64 m, .slice ⟨0, 0, 0, 1, 0⟩ ll.length]]]) (fun k => AllTo (matchAt ll mt) mt.length k) (fun k => mt.length - k) 0 (AllTo.zero _ _)
        (Weak.of [0, 1, 2] (.cons rfl rfl (.cons rfl rfl (.cons rfl rfl (.cons rfl rfl (.cons rfl rfl .nil))))) (.cons (.same rfl rfl) (.cons (.same rfl rfl) (.cons (.same rfl rfl) (.nil _)))) rfl) (fun k hk => ?_)
    | refine ACall.row0 (id := 0) rfl ?_
    | refine ACall.useIs [3] (l1Has_call _ _ ?_) rfl (.cons (.same rfl rfl) (.nil _)) rfl ?_
    | refine ACall.pre0 (id := 1) rfl ?_
    | refine ACall.useIs [4] (l1Has_call2 _ _ _ ?_ ?_) rfl (.cons (.same rfl rfl) (.nil _)) rfl ?_
    | refine Ret.bool [0, 1] ?_ (.cons (.same rfl rfl) (.cons (.same rfl rfl) (.nil _))) rfl
    | refine roundEnd (k + 1) ?_ ?_ (Weak.of [0, 1, 2] (.cons rfl rfl (.cons rfl rfl (.cons rfl rfl (.cons rfl rfl (.cons rfl rfl .nil))))) (.cons (.same rfl rfl) (.cons (.same rfl rfl) (.cons (.same rfl rfl) (.nil _)))) rfl)
    | refine VC.mk ?_ ?_
  all_goals try simp only [decide_eq_true_eq, decide_eq_false_iff_not, Bool.not_eq_true', Bool.not_eq_false', cond_true, cond_false, eqB_true, eqB_false] at *
  all_goals try simp only [in64, idxAdd_zero_left, Int.toNat_natCast, fillTo_length, Int.ofNat_lt, Int.ofNat_le, Int.natCast_inj] at *
  all_goals try have hrow := hr.row k
  all_goals try have hrl := hr.len
  all_goals first
    | omega
    | exact hr
    | exact hm
    | exact hrow
    | (have := hk.1; omega)
    | (rw [List.length_take]; have := hk.1; omega)
    | (have h3 : k < mt.length := by have := hk.1; omega
       first
       | exact hk.next h3 (by simp_all [matchAt])
       | (rw [eq_comm]; exact not_all h3 (by simp_all [matchAt])))
    | (rw [eq_comm]; exact hk.all (by omega))
    | (simp_all; done)

theorem isMatch_call (n m : Int) (ll : List (List Int)) (mt : List Int) (hr : SmallR ll) (hm : mt.length ≤ 1048576) (hll : mt.length = ll.length) (hn : (mt.length : Int) = n) : ACall Try.prog 53 [.agg [.int .i64 n, .int .i64 m, .slice ⟨0, 0, 0, 1, 0⟩ ll.length], .slice ⟨1, 0, 0, 1, 0⟩ mt.length] [.rows true ll, .arr true .int mt] (Is (.bool (matchB ll mt)) [.rows true ll, .arr true .int mt]) := by
  refine ACall.walk T Try.func53 Try.ntmps53 Try.results53 rfl rfl rfl (Is.nv _ _) ?_
  repeat' (conv => whnf); first
    | refine AWP.seq ?_
    | refine AWP.reg T rfl ?_
    | refine AWP.drw T none rfl rfl rfl ?_
    | refine AWP.dep T none rfl rfl rfl rfl ?_
    | refine AWP.block ?_
    | refine AWP.condT rfl ?_
    | refine AWP.condF rfl ?_
    | refine AWP.cond rfl (fun hb => ?_) (fun hb => ?_)
    | refine AWP.ret ?_
    | refine AWP.exit ?_
    | refine AWP.skip ?_
    | refine GuardB.t ?_
    | refine GuardB.f ?_
    | refine GuardB.mk (fun hb => ?_) (fun hb => ?_)
    | refine NilQ.mk (fun hb => ?_) ?_
    | refine VC.mk Nat.zero_lt_one ?_
    | refine VC.mk rfl ?_
    | refine AWP.while (ι := Nat) (fun k => St.of [(1, .slice ⟨1, 0, 0, 1, 0⟩ mt.length), (2, .ptr ⟨2, 0, 0, 3, 0⟩), (12, .slice ⟨1, 0, 0, 1, 0⟩ mt.length), (13, .int .i64 mt.length), (14, .int .i64 k)] [.rows true ll, .arr true .int mt, .arr false (.raw 3) [[.int .i64 n, .int .i64 m, .slice ⟨0, 0, 0, 1, 0⟩ ll.length]]]) (fun k => AllTo (matchAt ll mt) mt.length k) (fun k => mt.length - k) 0 (AllTo.zero _ _)
        (Weak.of [0, 1, 2] (.cons rfl rfl (.cons rfl rfl (.cons rfl rfl (.cons rfl rfl (.cons rfl rfl .nil))))) (.cons (.same rfl rfl) (.cons (.same rfl rfl) (.cons (.same rfl rfl) (.nil _)))) rfl) (fun k hk => ?_)
    | refine ACall.row0 (id := 0) rfl ?_
    | refine ACall.useIs [3] (slicesContains_call _ _ ?_) rfl (.cons (.same rfl rfl) (.nil _)) rfl ?_
    | refine ACall.pre0 (id := 1) rfl ?_
    | refine ACall.useIs [4] (slicesContains_call2 _ _ _ ?_ ?_) rfl (.cons (.same rfl rfl) (.nil _)) rfl ?_
    | refine Ret.bool [0, 1] ?_ (.cons (.same rfl rfl) (.cons (.same rfl rfl) (.nil _))) rfl
    | refine roundEnd (k + 1) ?_ ?_ (Weak.of [0, 1, 2] (.cons rfl rfl (.cons rfl rfl (.cons rfl rfl (.cons rfl rfl (.cons rfl rfl .nil))))) (.cons (.same rfl rfl) (.cons (.same rfl rfl) (.cons (.same rfl rfl) (.nil _)))) rfl)
    | refine VC.mk ?_ ?_
  all_goals try simp only [decide_eq_true_eq, decide_eq_false_iff_not, Bool.not_eq_true', Bool.not_eq_false', cond_true, cond_false, eqB_true, eqB_false] at *
  all_goals try simp only [in64, idxAdd_zero_left, Int.toNat_natCast, fillTo_length, Int.ofNat_lt, Int.ofNat_le, Int.natCast_inj] at *
  all_goals try have hrow := hr.row k
  all_goals try have hrl := hr.len
  all_goals first
    | omega
    | exact hr
    | exact hm
    | exact hrow
    | (have := hk.1; omega)
    | (rw [List.length_take]; have := hk.1; omega)
    | (have h3 : k < mt.length := by have := hk.1; omega
       first
       | exact hk.next h3 (by simp_all [matchAt])
       | (rw [eq_comm]; exact not_all h3 (by simp_all [matchAt])))
    | (rw [eq_comm]; exact hk.all (by omega))
    | (simp_all; done)

end YtofjbgpaofcpjaaAM
