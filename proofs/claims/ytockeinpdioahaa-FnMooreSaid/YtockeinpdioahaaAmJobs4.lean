/- Contracts of functions of this seat. -/
import Derived.Test.YtockeinpdioahaaAmTabJobs
import Derived.Test.YtockeinpdioahaaAmModels
import Derived.Test.YtockeinpdioahaaAmJobs3
import Derived.Test.YtockeinpdioahaaAmJobSeq
import Derived.Test.YtockeinpdioahaaAmJobOrds
import Derived.Test.YtockeinpdioahaaAmSortJobs
set_option linter.unusedVariables false
set_option linter.unusedSimpArgs false
set_option maxRecDepth 100000
set_option maxHeartbeats 2000000
namespace YtockeinpdioahaaAM
open Go Go.Proofs
attribute [local irreducible] foldN sortNK sortIK sortN sortI midLK insK rangeI goodJobs ordB lateM lateN sumL

theorem values_call (l : List Int) (hl : l.length ≤ 1048576) : ACall Try.prog 62 [.slice ⟨0, 0, 0, 1, 0⟩ l.length] [.arr true .int l] (Is (.func 77 [.ptr ⟨1, 0, 0, 1, 0⟩]) [.arr true .int l, .arr false (.raw 1) [[.slice ⟨0, 0, 0, 1, 0⟩ l.length]]]) := by
  refine ACall.walk T Try.func62 Try.ntmps62 Try.results62 rfl rfl rfl (Is.nv _ _) ?_
  repeat' (conv => whnf); first
    | refine AWP.seq ?_
    | refine AWP.reg T rfl ?_
    | refine AWP.drw T none rfl rfl rfl ?_
    | refine AWP.dep T none rfl rfl rfl rfl ?_
    | refine AWP.block ?_
    | refine AWP.condT rfl ?_
    | refine AWP.condF rfl ?_
    | refine AWP.cond rfl (fun hb => ?_) (fun hb => ?_)
    | refine AWP.ret ?_
    | refine AWP.exit ?_
    | refine AWP.skip ?_
    | refine GuardB.t ?_
    | refine GuardB.f ?_
    | refine GuardB.mk (fun hb => ?_) (fun hb => ?_)
    | refine NilQ.mk (fun hb => ?_) ?_
    | refine VC.mk Nat.zero_lt_one ?_
    | refine VC.mk rfl ?_
    | refine Ret.is [0, 1] rfl (.cons (.same rfl rfl) (.cons (.same rfl rfl) (.nil _))) rfl
    | refine VC.mk ?_ ?_
  all_goals try simp only [decide_eq_true_eq, decide_eq_false_iff_not, Bool.not_eq_true', Bool.not_eq_false', cond_true, cond_false, eqB_true, eqB_false] at *
  all_goals try simp only [in64, idxAdd_zero_left, Int.toNat_natCast, fillTo_length, Int.ofNat_lt, Int.ofNat_le, Int.natCast_inj] at *
  all_goals first
    | omega
    | rfl
    | exact hl

theorem collect_call (l : List Int) (hl : l.length ≤ 1048576) : ACall Try.prog 75 [.func 77 [.ptr ⟨1, 0, 0, 1, 0⟩]] [.arr true .int l, .arr false (.raw 1) [[.slice ⟨0, 0, 0, 1, 0⟩ l.length]]] (Is (.slice ⟨2, 0, 0, 1, 0⟩ l.length) [.arr true .int l, .arr false (.raw 1) [[.slice ⟨0, 0, 0, 1, 0⟩ l.length]], .arr false .int (l)]) := by
  refine ACall.walk T Try.func75 Try.ntmps75 Try.results75 rfl rfl rfl (Is.nv _ _) ?_
  repeat' (conv => whnf); first
    | refine AWP.seq ?_
    | refine AWP.reg T rfl ?_
    | refine AWP.drw T none rfl rfl rfl ?_
    | refine AWP.dep T none rfl rfl rfl rfl ?_
    | refine AWP.block ?_
    | refine AWP.condT rfl ?_
    | refine AWP.condF rfl ?_
    | refine AWP.cond rfl (fun hb => ?_) (fun hb => ?_)
    | refine AWP.ret ?_
    | refine AWP.exit ?_
    | refine AWP.skip ?_
    | refine GuardB.t ?_
    | refine GuardB.f ?_
    | refine GuardB.mk (fun hb => ?_) (fun hb => ?_)
    | refine NilQ.mk (fun hb => ?_) ?_
    | refine VC.mk Nat.zero_lt_one ?_
    | refine VC.mk rfl ?_
    | refine ACall.useIs [0, 1] (appendSeq_call _ ?_) rfl (.cons (.same rfl rfl) (.cons (.same rfl rfl) (.nil _))) rfl ?_
    | refine Ret.is [0, 1, 3] rfl (.cons (.same rfl rfl) (.cons (.same rfl rfl) (.cons (.arr rfl ?_) (.nil _)))) rfl
    | refine VC.mk ?_ ?_
  all_goals try simp only [decide_eq_true_eq, decide_eq_false_iff_not, Bool.not_eq_true', Bool.not_eq_false', cond_true, cond_false, eqB_true, eqB_false] at *
  all_goals try simp only [in64, idxAdd_zero_left, Int.toNat_natCast, fillTo_length, Int.ofNat_lt, Int.ofNat_le, Int.natCast_inj] at *
  all_goals first
    | omega
    | rfl
    | exact hl

theorem sorted_call (l : List Int) (hl : l.length ≤ 12) : ACall Try.prog 61 [.func 77 [.ptr ⟨1, 0, 0, 1, 0⟩]] [.arr true .int l, .arr false (.raw 1) [[.slice ⟨0, 0, 0, 1, 0⟩ l.length]]] (Is (.slice ⟨2, 0, 0, 1, 0⟩ l.length) [.arr true .int l, .arr false (.raw 1) [[.slice ⟨0, 0, 0, 1, 0⟩ l.length]], .arr false .int (sortI l)]) := by
  refine ACall.walk T Try.func61 Try.ntmps61 Try.results61 rfl rfl rfl (Is.nv _ _) ?_
  repeat' (conv => whnf); first
    | refine AWP.seq ?_
    | refine AWP.reg T rfl ?_
    | refine AWP.drw T none rfl rfl rfl ?_
    | refine AWP.dep T none rfl rfl rfl rfl ?_
    | refine AWP.block ?_
    | refine AWP.condT rfl ?_
    | refine AWP.condF rfl ?_
    | refine AWP.cond rfl (fun hb => ?_) (fun hb => ?_)
    | refine AWP.ret ?_
    | refine AWP.exit ?_
    | refine AWP.skip ?_
    | refine GuardB.t ?_
    | refine GuardB.f ?_
    | refine GuardB.mk (fun hb => ?_) (fun hb => ?_)
    | refine NilQ.mk (fun hb => ?_) ?_
    | refine VC.mk Nat.zero_lt_one ?_
    | refine VC.mk rfl ?_
    | refine ACall.useIs [0, 1] (collect_call _ ?_) rfl (.cons (.same rfl rfl) (.cons (.same rfl rfl) (.nil _))) rfl ?_
    | refine ACall.useIs [3] (sort_call l l.length ?_ rfl) rfl (.cons (.same rfl rfl) (.nil _)) rfl ?_
    | refine Ret.is [0, 1, 3] rfl (.cons (.same rfl rfl) (.cons (.same rfl rfl) (.cons (.arr rfl ?_) (.nil _)))) rfl
    | refine VC.mk ?_ ?_
  all_goals try simp only [decide_eq_true_eq, decide_eq_false_iff_not, Bool.not_eq_true', Bool.not_eq_false', cond_true, cond_false, eqB_true, eqB_false] at *
  all_goals try simp only [in64, idxAdd_zero_left, Int.toNat_natCast, fillTo_length, Int.ofNat_lt, Int.ofNat_le, Int.natCast_inj] at *
  all_goals first
    | omega
    | rfl
    | exact hl

theorem equalI_call (a b : List Int) (ha : a.length ≤ 1048576) : ACall Try.prog 60 [.slice ⟨0, 0, 0, 1, 0⟩ a.length, .slice ⟨1, 0, 0, 1, 0⟩ b.length] [.arr true .int a, .arr true .int b] (Is (.bool (eqB a b)) [.arr true .int a, .arr true .int b]) := by
  refine ACall.walk T Try.func60 Try.ntmps60 Try.results60 rfl rfl rfl (Is.nv _ _) ?_
  repeat' (conv => whnf); first
    | refine AWP.seq ?_
    | refine AWP.reg T rfl ?_
    | refine AWP.drw T none rfl rfl rfl ?_
    | refine AWP.dep T none rfl rfl rfl rfl ?_
    | refine AWP.block ?_
    | refine AWP.condT rfl ?_
    | refine AWP.condF rfl ?_
    | refine AWP.cond rfl (fun hb => ?_) (fun hb => ?_)
    | refine AWP.ret ?_
    | refine AWP.exit ?_
    | refine AWP.skip ?_
    | refine GuardB.t ?_
    | refine GuardB.f ?_
    | refine GuardB.mk (fun hb => ?_) (fun hb => ?_)
    | refine NilQ.mk (fun hb => ?_) ?_
    | refine VC.mk Nat.zero_lt_one ?_
    | refine VC.mk rfl ?_
    | refine AWP.while (ι := Nat) (fun k => St.of [(0, .slice ⟨0, 0, 0, 1, 0⟩ a.length), (1, .slice ⟨1, 0, 0, 1, 0⟩ b.length), (12, .int .i64 a.length), (13, .int .i64 k)] [.arr true .int a, .arr true .int b]) (fun k => Same a b k) (fun k => a.length - k) 0 ?_
        (Weak.of [0, 1] (.cons rfl rfl (.cons rfl rfl (.cons rfl rfl (.cons rfl rfl .nil)))) (.cons (.same rfl rfl) (.cons (.same rfl rfl) (.nil _))) rfl) (fun k hk => ?_)
    | refine Ret.bool [0, 1] ?_ (.cons (.same rfl rfl) (.cons (.same rfl rfl) (.nil _))) rfl
    | refine roundEnd (_ + 1) ?_ ?_ (Weak.of [0, 1] (.cons rfl rfl (.cons rfl rfl (.cons rfl rfl (.cons rfl rfl .nil)))) (.cons (.same rfl rfl) (.cons (.same rfl rfl) (.nil _))) rfl)
    | refine VC.mk ?_ ?_
  all_goals try simp only [decide_eq_true_eq, decide_eq_false_iff_not, Bool.not_eq_true', Bool.not_eq_false', cond_true, cond_false, eqB_true, eqB_false] at *
  all_goals try simp only [in64, idxAdd_zero_left, Int.toNat_natCast, fillTo_length, Int.ofNat_lt, Int.ofNat_le, Int.natCast_inj] at *
  all_goals first
    | omega
    | (have := hk.1; have := hk.2.1; omega)
    | exact Same.zero (by omega)
    | (rw [eq_comm, eqB_false]; intro e; subst e; omega)
    | (rw [eq_comm, eqB_true]; exact hk.eq (by omega))
    | (have h1 := hk.1; have h2 : k < a.length := by omega
       have h3 : k < b.length := by omega
       simp only [getD_get h2, getD_get h3] at *
       first
       | exact hk.next h2 h3 (by assumption)
       | (rw [eq_comm, eqB_false]; intro e; subst e; simp_all))

theorem l1HasTo_call (l : List Int) (x : Int) (n : Nat) (hn : n ≤ l.length) (hl : l.length ≤ 1048576) : ACall Try.prog 55 [.slice ⟨0, 0, 0, 1, 0⟩ n, .int .i64 x] [.arr true .int l] (Is (.bool (hasB (l.take n) x)) [.arr true .int l]) := by
  refine ACall.walk T Try.func55 Try.ntmps55 Try.results55 rfl rfl rfl (Is.nv _ _) ?_
  repeat' (conv => whnf); first
    | refine AWP.seq ?_
    | refine AWP.reg T rfl ?_
    | refine AWP.drw T none rfl rfl rfl ?_
    | refine AWP.dep T none rfl rfl rfl rfl ?_
    | refine AWP.block ?_
    | refine AWP.condT rfl ?_
    | refine AWP.condF rfl ?_
    | refine AWP.cond rfl (fun hb => ?_) (fun hb => ?_)
    | refine AWP.ret ?_
    | refine AWP.exit ?_
    | refine AWP.skip ?_
    | refine GuardB.t ?_
    | refine GuardB.f ?_
    | refine GuardB.mk (fun hb => ?_) (fun hb => ?_)
    | refine NilQ.mk (fun hb => ?_) ?_
    | refine VC.mk Nat.zero_lt_one ?_
    | refine VC.mk rfl ?_
    | refine AWP.while (ι := Nat) (fun k => St.of [(1, .int .i64 x), (7, .slice ⟨0, 0, 0, 1, 0⟩ n), (8, .int .i64 n), (9, .int .i64 k)] [.arr true .int l]) (fun k => NoneTo (fun y => decide (y = x)) (l.take n) k) (fun k => n - k) 0 (NoneTo.zero _ _)
        (Weak.of [0] (.cons rfl rfl (.cons rfl rfl (.cons rfl rfl (.cons rfl rfl .nil)))) (.cons (.same rfl rfl) (.nil _)) rfl) (fun k hk => ?_)
    | refine Ret.bool [0] ?_ (.cons (.same rfl rfl) (.nil _)) rfl
    | refine roundEnd (_ + 1) ?_ ?_ (Weak.of [0] (.cons rfl rfl (.cons rfl rfl (.cons rfl rfl (.cons rfl rfl .nil)))) (.cons (.same rfl rfl) (.nil _)) rfl)
    | refine VC.mk ?_ ?_
  all_goals try simp only [decide_eq_true_eq, decide_eq_false_iff_not, Bool.not_eq_true', Bool.not_eq_false', cond_true, cond_false, eqB_true, eqB_false] at *
  all_goals try simp only [in64, idxAdd_zero_left, Int.toNat_natCast, fillTo_length, Int.ofNat_lt, Int.ofNat_le, Int.natCast_inj] at *
  all_goals try have hlt : (l.take n).length = n := by rw [List.length_take]; omega
  all_goals try
    have h2 : k < (l.take n).length := by omega
    have h3 : l.getD k 0 = (l.take n)[k] := by rw [getD_get (by omega), List.getElem_take]
    simp only [h3] at *
  all_goals first
    | omega
    | (have := hk.1; omega)
    | (rw [eq_comm]; exact hk.any (by omega))
    | exact hk.next h2 (by simp_all)
    | (rw [eq_comm]; exact any_here h2 (by simp_all))

theorem specIsJobOrder_call (l : List S2) (o : List Int) (hl : l.length ≤ 1048576) (ho : o.length ≤ 1048576) : ACall Try.prog 30 [.slice ⟨0, 0, 0, 2, 0⟩ l.length, .slice ⟨1, 0, 0, 1, 0⟩ o.length] [.arr true .s2 l, .arr true .int o] (Is (.bool (joB l o)) [.arr true .s2 l, .arr true .int o]) := by
  refine ACall.walk T Try.func30 Try.ntmps30 Try.results30 rfl rfl rfl (Is.nv _ _) ?_
  repeat' (conv => whnf); first
    | refine AWP.seq ?_
    | refine AWP.reg T rfl ?_
    | refine AWP.drw T none rfl rfl rfl ?_
    | refine AWP.dep T none rfl rfl rfl rfl ?_
    | refine AWP.block ?_
    | refine AWP.condT rfl ?_
    | refine AWP.condF rfl ?_
    | refine AWP.cond rfl (fun hb => ?_) (fun hb => ?_)
    | refine AWP.ret ?_
    | refine AWP.exit ?_
    | refine AWP.skip ?_
    | refine GuardB.t ?_
    | refine GuardB.f ?_
    | refine GuardB.mk (fun hb => ?_) (fun hb => ?_)
    | refine NilQ.mk (fun hb => ?_) ?_
    | refine VC.mk Nat.zero_lt_one ?_
    | refine VC.mk rfl ?_
    | refine ACall.useIs [0] (specGoodJobs_call _ ?_) rfl (.cons (.same rfl rfl) (.nil _)) rfl ?_
    | refine ACall.useIs [1] (l1HasTo_call _ _ k ?_ ?_) rfl (.cons (.same rfl rfl) (.nil _)) rfl ?_
    | refine AWP.while (ι := Nat) (fun k => St.of [(0, .slice ⟨0, 0, 0, 2, 0⟩ l.length), (1, .slice ⟨1, 0, 0, 1, 0⟩ o.length), (17, .slice ⟨1, 0, 0, 1, 0⟩ o.length), (18, .int .i64 o.length), (19, .int .i64 k)] [.arr true .s2 l, .arr true .int o]) (fun k => OrdTo l.length o k) (fun k => o.length - k) 0 (OrdTo.zero _ _)
        (Weak.of [0, 1] (.cons rfl rfl (.cons rfl rfl (.cons rfl rfl (.cons rfl rfl (.cons rfl rfl .nil))))) (.cons (.same rfl rfl) (.cons (.same rfl rfl) (.nil _))) rfl) (fun k hk => ?_)
    | refine roundEnd (k + 1) ?_ ?_ (Weak.of [0, 1] (.cons rfl rfl (.cons rfl rfl (.cons rfl rfl (.cons rfl rfl (.cons rfl rfl .nil))))) (.cons (.same rfl rfl) (.cons (.same rfl rfl) (.nil _))) rfl)
    | refine Ret.bool [0, 1] ?_ (.cons (.same rfl rfl) (.cons (.same rfl rfl) (.nil _))) rfl
    | refine VC.mk ?_ ?_
  all_goals try simp only [decide_eq_true_eq, decide_eq_false_iff_not, Bool.not_eq_true', Bool.not_eq_false', cond_true, cond_false, eqB_true, eqB_false] at *
  all_goals try simp only [in64, idxAdd_zero_left, Int.toNat_natCast, fillTo_length, Int.ofNat_lt, Int.ofNat_le, Int.natCast_inj] at *
  all_goals try have hg : goodJobs l = true := by assumption
  all_goals first
    | omega
    | exact hl
    | exact ho
    | assumption
    | (have := hk.1; omega)
    | (have := hk.1; exact ⟨by omega, by omega⟩)
    | (have := hk.1; exact ⟨by omega, by omega, by omega⟩)
    | (rw [joB_no1 (by assumption)]; done)
    | (rw [joB_no2 (ord_len (by omega))]; done)
    | (rw [joB_no2 (ord_out (by omega) (.inl (by omega)))]; done)
    | (rw [joB_no2 (ord_out (by omega) (.inr (by omega)))]; done)
    | (rw [joB_no2 (ord_twice (by omega) (by assumption))]; done)
    | (rw [joB_yes hg (hk.all (by omega) (by omega))]; done)
    | exact hk.next (by omega) ⟨by omega, by omega⟩ (by assumption)

theorem equalI2_call (a b : List Int) (n m : Nat) (hn : n = a.length) (hm : m = b.length) (ha : a.length ≤ 1048576) : ACall Try.prog 60 [.slice ⟨0, 0, 0, 1, 0⟩ n, .slice ⟨1, 0, 0, 1, 0⟩ m] [.arr true .int a, .arr true .int b] (Is (.bool (eqB a b)) [.arr true .int a, .arr true .int b]) := by
  subst hn hm
  exact equalI_call a b ha

theorem implIsJobOrder_call (l : List S2) (o : List Int) (hl : l.length ≤ 1048576) (ho : o.length ≤ 1048576) : ACall Try.prog 31 [.slice ⟨0, 0, 0, 2, 0⟩ l.length, .slice ⟨1, 0, 0, 1, 0⟩ o.length] [.arr true .s2 l, .arr true .int o] (Is (.bool (joB l o)) [.arr true .s2 l, .arr true .int o]) := by
  refine ACall.walk T Try.func31 Try.ntmps31 Try.results31 rfl rfl rfl (Is.nv _ _) ?_
  repeat' (conv => whnf); first
    | refine AWP.seq ?_
    | refine AWP.reg T rfl ?_
    | refine AWP.drw T none rfl rfl rfl ?_
    | refine AWP.dep T none rfl rfl rfl rfl ?_
    | refine AWP.block ?_
    | refine AWP.condT rfl ?_
    | refine AWP.condF rfl ?_
    | refine AWP.cond rfl (fun hb => ?_) (fun hb => ?_)
    | refine AWP.ret ?_
    | refine AWP.exit ?_
    | refine AWP.skip ?_
    | refine GuardB.t ?_
    | refine GuardB.f ?_
    | refine GuardB.mk (fun hb => ?_) (fun hb => ?_)
    | refine NilQ.mk (fun hb => ?_) ?_
    | refine VC.mk Nat.zero_lt_one ?_
    | refine VC.mk rfl ?_
    | refine ACall.useIs [0] (implGoodJobs_call _ ?_) rfl (.cons (.same rfl rfl) (.nil _)) rfl ?_
    | refine ACall.useIs [1] (values_call _ ?_) rfl (.cons (.same rfl rfl) (.nil _)) rfl ?_
    | refine ACall.useIs [1, 2] (sorted_call _ ?_) rfl (.cons (.same rfl rfl) (.cons (.same rfl rfl) (.nil _))) rfl ?_
    | refine ACall.useIs [] (numbered_call _ ?_) rfl (.nil _) rfl ?_
    | refine ACall.useIs [3, 4] (equalI2_call (sortI o) (rangeI l.length) o.length l.length (sortI_len o).symm (rangeI_length _).symm ?_) rfl (.cons (.ro rfl rfl) (.cons (.ro rfl rfl) (.nil _))) rfl ?_
    | refine Ret.bool [0, 1] ?_ (.cons (.same rfl rfl) (.cons (.same rfl rfl) (.nil _))) rfl
    | refine VC.mk ?_ ?_
  all_goals try simp only [decide_eq_true_eq, decide_eq_false_iff_not, Bool.not_eq_true', Bool.not_eq_false', cond_true, cond_false, eqB_true, eqB_false] at *
  all_goals try simp only [in64, idxAdd_zero_left, Int.toNat_natCast, fillTo_length, Int.ofNat_lt, Int.ofNat_le, Int.natCast_inj] at *
  all_goals try
    have hg : goodJobs l = true := by assumption
    have hgl := goodJobs_len hg
  all_goals first
    | omega
    | exact hl
    | exact ho
    | assumption
    | exact ⟨by omega, by omega⟩
    | (rw [sortI_len]; omega)
    | (rw [joB_eq hg, ord_sort (by omega)]; done)
    | (rw [joB_no1 (by assumption)]; done)
    | (rw [joB_no2 (ord_len (by omega))]; done)

end YtockeinpdioahaaAM
