/- Contracts of functions of this seat. -/
import Derived.Test.YtockeinpdioahaaAmTabJobs
import Derived.Test.YtockeinpdioahaaAmModels
import Derived.Test.YtockeinpdioahaaAmJobModels
set_option linter.unusedVariables false
set_option linter.unusedSimpArgs false
set_option maxRecDepth 100000
set_option maxHeartbeats 2000000
namespace YtockeinpdioahaaAM
open Go Go.Proofs
attribute [local irreducible] foldN sortNK sortIK midLK insK rangeI goodJobs

theorem cmpDue_call (l : List S2) (x y : Int) (hg : goodJobs l = true) (hx : 0 ≤ x ∧ x < l.length) (hy : 0 ≤ y ∧ y < l.length) : ACall Try.prog 72 [.int .i64 x, .int .i64 y, .ptr ⟨0, 0, 0, 1, 0⟩] [.arr true (.raw 1) [[.slice ⟨1, 0, 0, 2, 0⟩ l.length]], .arr true .s2 l] (Is (.int .i64 (due l x - due l y)) [.arr true (.raw 1) [[.slice ⟨1, 0, 0, 2, 0⟩ l.length]], .arr true .s2 l]) := by
  refine ACall.walk T Try.func72 Try.ntmps72 Try.results72 rfl rfl rfl (Is.nv _ _) ?_
  repeat' (conv => whnf); first
    | refine AWP.seq ?_
    | refine AWP.reg T rfl ?_
    | refine AWP.drw T none rfl rfl rfl ?_
    | refine AWP.dep T none rfl rfl rfl rfl ?_
    | refine AWP.block ?_
    | refine AWP.condT rfl ?_
    | refine AWP.condF rfl ?_
    | refine AWP.cond rfl (fun hb => ?_) (fun hb => ?_)
    | refine AWP.ret ?_
    | refine AWP.exit ?_
    | refine AWP.skip ?_
    | refine GuardB.t ?_
    | refine GuardB.f ?_
    | refine GuardB.mk (fun hb => ?_) (fun hb => ?_)
    | refine NilQ.mk (fun hb => ?_) ?_
    | refine VC.mk Nat.zero_lt_one ?_
    | refine VC.mk rfl ?_
    | refine Ret.int [0, 1] ?_ (.cons (.same rfl rfl) (.cons (.same rfl rfl) (.nil _))) rfl
    | refine VC.mk ?_ ?_
  all_goals try simp only [decide_eq_true_eq, decide_eq_false_iff_not, Bool.not_eq_true', Bool.not_eq_false', cond_true, cond_false, eqB_true, eqB_false] at *
  all_goals try simp only [in64, idxAdd_zero_left, Int.toNat_natCast, fillTo_length, Int.ofNat_lt, Int.ofNat_le, Int.natCast_inj] at *
  all_goals try have h1 := job_range hg hx
  all_goals try have h2 := job_range hg hy
  all_goals try simp only [due_eq] at *
  all_goals first
    | omega
    | exact ⟨by omega, by omega⟩
    | rfl

theorem insertionK_call (l : List S2) (hg : goodJobs l = true) (p s q : List Int) (a b : Int) (n : Nat) (hpa : a = p.length) (hpb : b = p.length + s.length) (hn : n = (p ++ s ++ q).length) (hn2 : n ≤ 1048576) (hv : ∀ y ∈ s, 0 ≤ y ∧ y < l.length) : ACall Try.prog 87 [.slice ⟨0, 0, 0, 1, 0⟩ n, .int .i64 a, .int .i64 b, .func 72 [.ptr ⟨1, 0, 0, 1, 0⟩]] [.arr false .int (p ++ s ++ q), .arr true (.raw 1) [[.slice ⟨2, 0, 0, 2, 0⟩ l.length]], .arr true .s2 l] (Is (.tuple []) [.arr false .int (p ++ sortIK (due l) s ++ q), .arr true (.raw 1) [[.slice ⟨2, 0, 0, 2, 0⟩ l.length]], .arr true .s2 l]) := by
  refine ACall.walk T Try.func87 Try.ntmps87 Try.results87 rfl rfl rfl (Is.nv _ _) ?_
  repeat' (conv => whnf); first
    | refine AWP.seq ?_
    | refine AWP.reg T rfl ?_
    | refine AWP.drw T none rfl rfl rfl ?_
    | refine AWP.dep T none rfl rfl rfl rfl ?_
    | refine AWP.block ?_
    | refine AWP.condT rfl ?_
    | refine AWP.condF rfl ?_
    | refine AWP.cond rfl (fun hb => ?_) (fun hb => ?_)
    | refine AWP.ret ?_
    | refine AWP.exit ?_
    | refine AWP.skip ?_
    | refine GuardB.t ?_
    | refine GuardB.f ?_
    | refine GuardB.mk (fun hb => ?_) (fun hb => ?_)
    | refine NilQ.mk (fun hb => ?_) ?_
    | refine VC.mk Nat.zero_lt_one ?_
    | refine VC.mk rfl ?_
    | refine AWP.while (ι := Nat) (fun j => St.of [(0, .slice ⟨0, 0, 0, 1, 0⟩ n), (1, .int .i64 a), (2, .int .i64 b), (3, .func 72 [.ptr ⟨1, 0, 0, 1, 0⟩]), (8, .int .i64 (a + (k : Int))), (9, .int .i64 (a + (j : Int)))] [.arr false .int (p ++ midLK (due l) s k j ++ q), .arr true (.raw 1) [[.slice ⟨2, 0, 0, 2, 0⟩ l.length]], .arr true .s2 l]) (fun j => j ≤ k ∧ ∀ y ∈ (sortNK (due l) s k).drop j, (due l) (s.getD k 0) < (due l) y) (fun j => j) k ?_
        (Weak.of [0, 1, 2] (.cons rfl rfl (.cons rfl rfl (.cons rfl rfl (.cons rfl rfl (.cons rfl rfl (.cons rfl rfl .nil)))))) (.cons (.arr rfl ?_) (.cons (.same rfl rfl) (.cons (.same rfl rfl) (.nil _)))) rfl) (fun j hj => ?_)
    | refine AWP.while (ι := Nat) (fun k => St.of [(0, .slice ⟨0, 0, 0, 1, 0⟩ n), (1, .int .i64 a), (2, .int .i64 b), (3, .func 72 [.ptr ⟨1, 0, 0, 1, 0⟩]), (8, .int .i64 (a + (k : Int)))] [.arr false .int (p ++ (sortNK (due l) s k ++ s.drop k) ++ q), .arr true (.raw 1) [[.slice ⟨2, 0, 0, 2, 0⟩ l.length]], .arr true .s2 l]) (fun k => 1 ≤ k ∧ k ≤ s.length + 1) (fun k => s.length + 1 - k) 1 ⟨Nat.le_refl _, by omega⟩
        (Weak.of [0, 1, 2] (.cons rfl rfl (.cons rfl rfl (.cons rfl rfl (.cons rfl rfl (.i rfl ?_ .nil))))) (.cons (.arr rfl ?_) (.cons (.same rfl rfl) (.cons (.same rfl rfl) (.nil _)))) rfl) (fun k hk => ?_)
    | refine ACall.useIs [1, 2] (cmpDue_call l _ _ hg ?_ ?_) rfl (.cons (.same rfl rfl) (.cons (.same rfl rfl) (.nil _))) rfl ?_
    | refine roundEnd (j - 1) ?_ ?_ (Weak.of [0, 1, 2] (.cons rfl rfl (.cons rfl rfl (.cons rfl rfl (.cons rfl rfl (.cons rfl rfl (.i rfl ?_ .nil)))))) (.cons (.arr rfl ?_) (.cons (.same rfl rfl) (.cons (.same rfl rfl) (.nil _)))) rfl)
    | refine roundEnd (k + 1) ?_ ?_ (Weak.of [0, 1, 2] (.cons rfl rfl (.cons rfl rfl (.cons rfl rfl (.cons rfl rfl (.i rfl ?_ .nil))))) (.cons (.arr rfl ?_) (.cons (.same rfl rfl) (.cons (.same rfl rfl) (.nil _)))) rfl)
    | refine Ret.is [0, 1, 2] rfl (.cons (.arr rfl ?_) (.cons (.same rfl rfl) (.cons (.same rfl rfl) (.nil _)))) rfl
    | refine VC.mk ?_ ?_
  all_goals try simp only [decide_eq_true_eq, decide_eq_false_iff_not, Bool.not_eq_true', Bool.not_eq_false', cond_true, cond_false, eqB_true, eqB_false] at *
  all_goals try simp only [in64, idxAdd_zero_left, Int.toNat_natCast, fillTo_length, Int.ofNat_lt, Int.ofNat_le, Int.natCast_inj] at *
  all_goals try simp only [List.length_append] at *
  all_goals try
    subst hpa
    subst hpb
  all_goals try
    have hk2 : k < s.length := by omega
    have hms := sortN_lenK (key := (due l)) (l := s) k (by omega)
    have hvk := hv (s.getD k 0) (by rw [getD_get hk2]; exact List.getElem_mem _)
  all_goals try have hml := midL_lenK (key := (due l)) hk2 hj.1
  all_goals try
    have e0 : ((p.length : Int) + (j : Int)).toNat = p.length + j := by omega
    simp only [e0] at *
  all_goals try
    have hj3 : j < s.length := by omega
    have hma := midL_atK (key := (due l)) hk2 hj.1
    have hxa := app_at (p := p) (q := q) (m := midLK (due l) s k j) (j := j) (by omega)
    rw [hma] at hxa
    simp only [hxa] at *
  all_goals try
    have hj0 : 0 < j := by omega
    have e1 : ((p.length : Int) + (j : Int) - 1).toNat = p.length + (j - 1) := by omega
    simp only [e1] at *
  all_goals try
    have hmb := midL_belowK (key := (due l)) hk2 hj.1 (by omega)
    have hxb := app_at (p := p) (q := q) (m := midLK (due l) s k j) (j := j - 1) (by omega)
    rw [hmb] at hxb
    simp only [hxb] at *
    have hvj := hv ((sortNK (due l) s k).getD (j - 1) 0) ((List.mem_of_mem_take ((sortN_memK (key := (due l)) k (by omega)).1 (by rw [getD_get (by omega)]; exact List.getElem_mem _))))
  all_goals try simp only [List.length_set, List.length_append] at *
  all_goals first
    | omega
    | exact ⟨by omega, by omega⟩
    | rfl
    | assumption
    | exact hvk
    | exact hvj
    | (rw [sort_startK]; done)
    | exact ⟨Nat.le_refl _, fun y hy => by rw [List.drop_of_length_le (by omega)] at hy; simp at hy⟩
    | (rw [midL_startK hk2]; done)
    | exact ⟨by omega, drop_moreK (by omega) (by omega) hj.2 (by omega)⟩
    | (rw [app_set (by omega), app_set (by rw [List.length_set]; omega)]
       have e5 := midL_swapK (key := (due l)) hk2 hj.1 (by omega)
       rw [hma, hmb] at e5
       rw [e5])
    | (rw [midL_endK hk2 hj.1 hj.2 (.inl (by omega))]; done)
    | (rw [midL_endK hk2 hj.1 hj.2 (.inr (by omega))]; done)
    | (rw [sort_doneK (by omega)]; done)
    | (rw [← sort_doneK (key := (due l)) (k := k) (by omega)]; done)
    | (have := hk.1; have := hk.2; omega)

theorem stable_call (l : List S2) (hg : goodJobs l = true) (s : List Int) (n : Nat) (hn : n = s.length) (h19 : s.length ≤ 19) (hv : ∀ y ∈ s, 0 ≤ y ∧ y < l.length) : ACall Try.prog 82 [.slice ⟨0, 0, 0, 1, 0⟩ n, .int .i64 n, .func 72 [.ptr ⟨1, 0, 0, 1, 0⟩]] [.arr false .int (s), .arr true (.raw 1) [[.slice ⟨2, 0, 0, 2, 0⟩ l.length]], .arr true .s2 l] (Is (.tuple []) [.arr false .int (sortIK (due l) s), .arr true (.raw 1) [[.slice ⟨2, 0, 0, 2, 0⟩ l.length]], .arr true .s2 l]) := by
  refine ACall.walk T Try.func82 Try.ntmps82 Try.results82 rfl rfl rfl (Is.nv _ _) ?_
  repeat' (conv => whnf); first
    | refine AWP.cond rfl (fun hb => absurd (of_decide_eq_true hb) (by omega)) (fun hb => ?_)
    | refine AWP.seq ?_
    | refine AWP.reg T rfl ?_
    | refine AWP.drw T none rfl rfl rfl ?_
    | refine AWP.dep T none rfl rfl rfl rfl ?_
    | refine AWP.block ?_
    | refine AWP.condT rfl ?_
    | refine AWP.condF rfl ?_
    | refine AWP.cond rfl (fun hb => ?_) (fun hb => ?_)
    | refine AWP.ret ?_
    | refine AWP.exit ?_
    | refine AWP.skip ?_
    | refine GuardB.t ?_
    | refine GuardB.f ?_
    | refine GuardB.mk (fun hb => ?_) (fun hb => ?_)
    | refine NilQ.mk (fun hb => ?_) ?_
    | refine VC.mk Nat.zero_lt_one ?_
    | refine VC.mk rfl ?_
    | refine AWP.while (ι := Nat) (fun k => St.of [(0, .slice ⟨0, 0, 0, 1, 0⟩ n), (1, .int .i64 n), (2, .func 72 [.ptr ⟨1, 0, 0, 1, 0⟩]), (6, .int .i64 20), (7, .int .i64 0), (8, .int .i64 20)] [.arr false .int (s), .arr true (.raw 1) [[.slice ⟨2, 0, 0, 2, 0⟩ l.length]], .arr true .s2 l]) (fun k => True) (fun k => 0) 0 trivial
        (Weak.of [0, 1, 2] (.cons rfl rfl (.cons rfl rfl (.cons rfl rfl (.cons rfl rfl (.cons rfl rfl (.cons rfl rfl .nil)))))) (.cons (.same rfl rfl) (.cons (.same rfl rfl) (.cons (.same rfl rfl) (.nil _)))) rfl) (fun k hk => ?_)
    | refine AWP.while (ι := Nat) (fun k => St.of [(6, .int .i64 20), (1, .int .i64 n)] [.arr false .int (sortIK (due l) s), .arr true (.raw 1) [[.slice ⟨2, 0, 0, 2, 0⟩ l.length]], .arr true .s2 l]) (fun k => True) (fun k => 0) 0 trivial
        (Weak.of [0, 1, 2] (.cons rfl rfl (.cons rfl rfl .nil)) (.cons (.arr rfl ?_) (.cons (.same rfl rfl) (.cons (.same rfl rfl) (.nil _)))) rfl) (fun k hk => ?_)
    | refine ACall.useIs [0, 1, 2] (insertionK_call l hg [] s [] 0 (n : Int) n rfl ?_ ?_ ?_ hv) rfl (.cons (.arr rfl ?_) (.cons (.same rfl rfl) (.cons (.same rfl rfl) (.nil _)))) rfl ?_
    | refine Ret.is [0, 1, 2] rfl (.cons (.same rfl rfl) (.cons (.same rfl rfl) (.cons (.same rfl rfl) (.nil _)))) rfl
    | refine VC.mk ?_ ?_
  all_goals try simp only [decide_eq_true_eq, decide_eq_false_iff_not, Bool.not_eq_true', Bool.not_eq_false', cond_true, cond_false, eqB_true, eqB_false] at *
  all_goals try simp only [in64, idxAdd_zero_left, Int.toNat_natCast, fillTo_length, Int.ofNat_lt, Int.ofNat_le, Int.natCast_inj] at *
  all_goals first
    | omega
    | rfl
    | (simp; done)
    | (simp; omega)
theorem sortStable_call (l : List S2) (hg : goodJobs l = true) (s : List Int) (n : Nat) (hn : n = s.length) (h19 : s.length ≤ 19) (hv : ∀ y ∈ s, 0 ≤ y ∧ y < l.length) : ACall Try.prog 71 [.slice ⟨0, 0, 0, 1, 0⟩ n, .func 72 [.ptr ⟨1, 0, 0, 1, 0⟩]] [.arr false .int (s), .arr true (.raw 1) [[.slice ⟨2, 0, 0, 2, 0⟩ l.length]], .arr true .s2 l] (Is (.tuple []) [.arr false .int (sortIK (due l) s), .arr true (.raw 1) [[.slice ⟨2, 0, 0, 2, 0⟩ l.length]], .arr true .s2 l]) := by
  refine ACall.walk T Try.func71 Try.ntmps71 Try.results71 rfl rfl rfl (Is.nv _ _) ?_
  repeat' (conv => whnf); first
    | refine AWP.seq ?_
    | refine AWP.reg T rfl ?_
    | refine AWP.drw T none rfl rfl rfl ?_
    | refine AWP.dep T none rfl rfl rfl rfl ?_
    | refine AWP.block ?_
    | refine AWP.condT rfl ?_
    | refine AWP.condF rfl ?_
    | refine AWP.cond rfl (fun hb => ?_) (fun hb => ?_)
    | refine AWP.ret ?_
    | refine AWP.exit ?_
    | refine AWP.skip ?_
    | refine GuardB.t ?_
    | refine GuardB.f ?_
    | refine GuardB.mk (fun hb => ?_) (fun hb => ?_)
    | refine NilQ.mk (fun hb => ?_) ?_
    | refine VC.mk Nat.zero_lt_one ?_
    | refine VC.mk rfl ?_
    | refine ACall.useIs [0, 1, 2] (stable_call l hg s n hn h19 hv) rfl (.cons (.same rfl rfl) (.cons (.same rfl rfl) (.cons (.same rfl rfl) (.nil _)))) rfl ?_
    | refine Ret.is [0, 1, 2] rfl (.cons (.same rfl rfl) (.cons (.same rfl rfl) (.cons (.same rfl rfl) (.nil _)))) rfl
    | refine VC.mk ?_ ?_
  all_goals first
    | omega
    | rfl

theorem slicesClone_call (l : List Int) (n : Nat) (hl : l.length ≤ 1048576) (hn : n = l.length) : ACall Try.prog 70 [.slice ⟨0, 0, 0, 1, 0⟩ n] [.arr true .int l] (Is (.slice ⟨1, 0, 0, 1, 0⟩ n) [.arr true .int l, .arr false .int l]) := by
  refine ACall.walk T Try.func70 Try.ntmps70 Try.results70 rfl rfl rfl (Is.nv _ _) ?_
  repeat' (conv => whnf); first
    | refine AWP.seq ?_
    | refine AWP.reg T rfl ?_
    | refine AWP.drw T none rfl rfl rfl ?_
    | refine AWP.dep T none rfl rfl rfl rfl ?_
    | refine AWP.block ?_
    | refine AWP.condT rfl ?_
    | refine AWP.condF rfl ?_
    | refine AWP.cond rfl (fun hb => ?_) (fun hb => ?_)
    | refine AWP.ret ?_
    | refine AWP.exit ?_
    | refine AWP.skip ?_
    | refine GuardB.t ?_
    | refine GuardB.f ?_
    | refine GuardB.mk (fun hb => ?_) (fun hb => ?_)
    | refine NilQ.mk (fun hb => ?_) ?_
    | refine VC.mk Nat.zero_lt_one ?_
    | refine VC.mk rfl ?_
    | refine Ret.s [0, 1] rfl ?_ (.cons (.same rfl rfl) (.cons (.arr rfl ?_) (.nil _))) rfl
    | refine Ret.s [0, 2] rfl ?_ (.cons (.same rfl rfl) (.cons (.arr rfl ?_) (.nil _))) rfl
    | refine Ret.s [0, 3] rfl ?_ (.cons (.same rfl rfl) (.cons (.arr rfl ?_) (.nil _))) rfl
    | refine VC.mk ?_ ?_
  all_goals try simp only [decide_eq_true_eq, decide_eq_false_iff_not, Bool.not_eq_true', Bool.not_eq_false', cond_true, cond_false, eqB_true, eqB_false] at *
  all_goals try simp only [in64, idxAdd_zero_left, Int.toNat_natCast, fillTo_length, Int.ofNat_lt, Int.ofNat_le, Int.natCast_inj] at *
  all_goals first
    | omega
    | rfl
    | exact ⟨by omega, by simp, by omega⟩
    | (subst hn; simp [sub]; done)
    | (have e : l = [] := List.eq_nil_of_length_eq_zero (by omega)
       rw [e])

theorem numbered_call (n : Int) (hn : 0 ≤ n ∧ n ≤ 1048576) : ACall Try.prog 53 [.int .i64 n] [] (Is (.slice ⟨0, 0, 0, 1, 0⟩ n.toNat) [.arr false .int (rangeI n.toNat)]) := by
  refine ACall.walk T Try.func53 Try.ntmps53 Try.results53 rfl rfl rfl (Is.nv _ _) ?_
  repeat' (conv => whnf); first
    | refine AWP.seq ?_
    | refine AWP.reg T rfl ?_
    | refine AWP.drw T none rfl rfl rfl ?_
    | refine AWP.dep T none rfl rfl rfl rfl ?_
    | refine AWP.block ?_
    | refine AWP.condT rfl ?_
    | refine AWP.condF rfl ?_
    | refine AWP.cond rfl (fun hb => ?_) (fun hb => ?_)
    | refine AWP.ret ?_
    | refine AWP.exit ?_
    | refine AWP.skip ?_
    | refine GuardB.t ?_
    | refine GuardB.f ?_
    | refine GuardB.mk (fun hb => ?_) (fun hb => ?_)
    | refine NilQ.mk (fun hb => ?_) ?_
    | refine VC.mk Nat.zero_lt_one ?_
    | refine VC.mk rfl ?_
    | refine AWP.while (ι := Nat) (fun k => St.of [(0, .int .i64 n), (3, .slice ⟨0, 0, 0, 1, 0⟩ k), (6, .int .i64 n), (7, .int .i64 k)] [.arr false .int (rangeI k)]) (fun k => k ≤ n.toNat) (fun k => n.toNat - k) 0 (Nat.zero_le _)
        (Weak.of [1] (.cons rfl rfl (.cons rfl rfl (.cons rfl rfl (.cons rfl rfl .nil)))) (.cons (.arr rfl ?_) (.nil _)) rfl) (fun k hk => ?_)
    | refine roundEnd (k + 1) ?_ ?_ (Weak.of [2] (.cons rfl rfl (.cons rfl rfl (.cons rfl rfl (.cons rfl rfl .nil)))) (.cons (.arr rfl ?_) (.nil _)) rfl)
    | refine Ret.s [0] rfl ?_ (.cons (.arr rfl ?_) (.nil _)) rfl
    | refine VC.mk ?_ ?_
  all_goals try simp only [decide_eq_true_eq, decide_eq_false_iff_not, Bool.not_eq_true', Bool.not_eq_false', cond_true, cond_false, eqB_true, eqB_false] at *
  all_goals try simp only [in64, idxAdd_zero_left, Int.toNat_natCast, fillTo_length, Int.ofNat_lt, Int.ofNat_le, Int.natCast_inj] at *
  all_goals first
    | omega
    | exact ⟨by omega, by omega⟩
    | exact ⟨by simp, by simp, by omega⟩
    | (rw [rangeI_succ, sub_all' (by simp)]; rfl)
    | exact rangeI_zero
    | (have e : k = n.toNat := by omega
       subst e; rfl)
    | (have e : k = n.toNat := by omega
       rw [e])
    | rfl

theorem implByDueS_call (l : List S2) (s : List Int) (hg : goodJobs l = true) (hs : s.length ≤ 19) (hv : ∀ y ∈ s, 0 ≤ y ∧ y < l.length) : ACall Try.prog 52 [.slice ⟨0, 0, 0, 2, 0⟩ l.length, .slice ⟨1, 0, 0, 1, 0⟩ s.length] [.arr true .s2 l, .arr true .int s] (Is (.slice ⟨2, 0, 0, 1, 0⟩ s.length) [.arr true .s2 l, .arr true .int s, .arr false .int (byL l s)]) := by
  refine ACall.walk T Try.func52 Try.ntmps52 Try.results52 rfl rfl rfl (Is.nv _ _) ?_
  repeat' (conv => whnf); first
    | refine AWP.seq ?_
    | refine AWP.reg T rfl ?_
    | refine AWP.drw T none rfl rfl rfl ?_
    | refine AWP.dep T none rfl rfl rfl rfl ?_
    | refine AWP.block ?_
    | refine AWP.condT rfl ?_
    | refine AWP.condF rfl ?_
    | refine AWP.cond rfl (fun hb => ?_) (fun hb => ?_)
    | refine AWP.ret ?_
    | refine AWP.exit ?_
    | refine AWP.skip ?_
    | refine GuardB.t ?_
    | refine GuardB.f ?_
    | refine GuardB.mk (fun hb => ?_) (fun hb => ?_)
    | refine NilQ.mk (fun hb => ?_) ?_
    | refine VC.mk Nat.zero_lt_one ?_
    | refine VC.mk rfl ?_
    | refine ACall.useIs [1] (slicesClone_call _ _ ?_ ?_) rfl (.cons (.same rfl rfl) (.nil _)) rfl ?_
    | refine ACall.useIs [4, 2, 0] (sortStable_call l hg s s.length ?_ ?_ hv) rfl (.cons (.same rfl rfl) (.cons (.ro rfl rfl) (.cons (.same rfl rfl) (.nil _)))) rfl ?_
    | refine Ret.is [0, 1, 4] rfl (.cons (.same rfl rfl) (.cons (.same rfl rfl) (.cons (.arr rfl ?_) (.nil _)))) rfl
    | refine VC.mk ?_ ?_
  all_goals first
    | omega
    | rfl

theorem l12By_call (l : List S2) (s : List Int) (hg : goodJobs l = true) (hs : s.length ≤ 19) (hv : ∀ y ∈ s, 0 ≤ y ∧ y < l.length) : ACall Try.prog 50 [.slice ⟨0, 0, 0, 2, 0⟩ l.length, .slice ⟨1, 0, 0, 1, 0⟩ s.length] [.arr true .s2 l, .arr true .int s] (Is (.slice ⟨2, 0, 0, 1, 0⟩ s.length) [.arr true .s2 l, .arr true .int s, .arr false .int (byL l s)]) := by
  refine ACall.walk T Try.func50 Try.ntmps50 Try.results50 rfl rfl rfl (Is.nv _ _) ?_
  repeat' (conv => whnf); first
    | refine AWP.seq ?_
    | refine AWP.reg T rfl ?_
    | refine AWP.drw T none rfl rfl rfl ?_
    | refine AWP.dep T none rfl rfl rfl rfl ?_
    | refine AWP.block ?_
    | refine AWP.condT rfl ?_
    | refine AWP.condF rfl ?_
    | refine AWP.cond rfl (fun hb => ?_) (fun hb => ?_)
    | refine AWP.ret ?_
    | refine AWP.exit ?_
    | refine AWP.skip ?_
    | refine GuardB.t ?_
    | refine GuardB.f ?_
    | refine GuardB.mk (fun hb => ?_) (fun hb => ?_)
    | refine NilQ.mk (fun hb => ?_) ?_
    | refine VC.mk Nat.zero_lt_one ?_
    | refine VC.mk rfl ?_
    | refine AWP.while (ι := Nat) (fun i => St.of [(0, .slice ⟨0, 0, 0, 2, 0⟩ l.length), (5, .slice ⟨2, 0, 0, 1, 0⟩ (sortNK (due l) s k).length), (7, .int .i64 (s.getD k 0)), (8, .int .i64 i), (10, .slice ⟨1, 0, 0, 1, 0⟩ s.length), (11, .int .i64 s.length), (12, .int .i64 k)] [.arr true .s2 l, .arr true .int s, .arr false .int (sortNK (due l) s k)]) (fun i => i ≤ (sortNK (due l) s k).length ∧ ∀ j, j < i → due l ((sortNK (due l) s k).getD j 0) ≤ due l (s.getD k 0)) (fun i => (sortNK (due l) s k).length - i) 0 ⟨Nat.zero_le _, fun j hj => by omega⟩
        (Weak.of [0, 1, 2] (.cons rfl rfl (.cons rfl rfl (.cons rfl rfl (.cons rfl rfl (.cons rfl rfl (.cons rfl rfl (.cons rfl rfl .nil))))))) (.cons (.same rfl rfl) (.cons (.same rfl rfl) (.cons (.same rfl rfl) (.nil _)))) rfl) (fun i hi => ?_)
    | refine AWP.while (ι := Nat) (fun k => St.of [(0, .slice ⟨0, 0, 0, 2, 0⟩ l.length), (5, .slice ⟨2, 0, 0, 1, 0⟩ (sortNK (due l) s k).length), (10, .slice ⟨1, 0, 0, 1, 0⟩ s.length), (11, .int .i64 s.length), (12, .int .i64 k)] [.arr true .s2 l, .arr true .int s, .arr false .int (sortNK (due l) s k)]) (fun k => k ≤ s.length) (fun k => s.length - k) 0 (Nat.zero_le _)
        (Weak.of [0, 1, 3] (.cons rfl rfl (.s rfl ?_ rfl (.cons rfl rfl (.cons rfl rfl (.cons rfl rfl .nil))))) (.cons (.same rfl rfl) (.cons (.same rfl rfl) (.cons (.arr rfl ?_) (.nil _)))) rfl) (fun k hk => ?_)
    | refine roundEnd (i + 1) ?_ ?_ (Weak.of [0, 1, 2] (.cons rfl rfl (.cons rfl rfl (.cons rfl rfl (.cons rfl rfl (.cons rfl rfl (.cons rfl rfl (.cons rfl rfl .nil))))))) (.cons (.same rfl rfl) (.cons (.same rfl rfl) (.cons (.same rfl rfl) (.nil _)))) rfl)
    | refine roundEnd (k + 1) ?_ ?_ (Weak.of [0, 1, 7] (.cons rfl rfl (.s rfl ?_ rfl (.cons rfl rfl (.cons rfl rfl (.cons rfl rfl .nil))))) (.cons (.same rfl rfl) (.cons (.same rfl rfl) (.cons (.arr rfl ?_) (.nil _)))) rfl)
    | refine Ret.s [0, 1, 2] rfl ?_ (.cons (.same rfl rfl) (.cons (.same rfl rfl) (.cons (.arr rfl ?_) (.nil _)))) rfl
    | refine VC.mk ?_ ?_
  all_goals try simp only [decide_eq_true_eq, decide_eq_false_iff_not, Bool.not_eq_true', Bool.not_eq_false', cond_true, cond_false, eqB_true, eqB_false] at *
  all_goals try simp only [in64, idxAdd_zero_left, Int.toNat_natCast, fillTo_length, Int.ofNat_lt, Int.ofNat_le, Int.natCast_inj] at *
  all_goals try have hms := sortN_lenK (key := due l) (l := s) k (by omega)
  all_goals try have hup := sortN_upK (key := due l) s k
  all_goals try
    have hk2 : k < s.length := by omega
    have hvk := hv (s.getD k 0) (by rw [getD_get hk2]; exact List.getElem_mem _)
    have hss := sortN_succK (key := due l) hk2
  all_goals try
    have hi1 := hi.1
    have hi2 := hi.2
  all_goals try
    have hi3 : i < (sortNK (due l) s k).length := by omega
    have hvi := hv ((sortNK (due l) s k).getD i 0) ((List.mem_of_mem_take ((sortN_memK (key := due l) k (by omega)).1 (by rw [getD_get hi3]; exact List.getElem_mem _))))
  all_goals try simp only [due_eq] at *
  all_goals first
    | omega
    | rfl
    | exact ⟨by omega, by omega⟩
    | (refine ⟨?_, ?_, ?_⟩ <;> first | omega | (simp; done) | (simp [sub]; done) | (simp; omega) | (simp [sub]; omega))
    | exact sortN_zeroK _
    | (rw [sortN_zeroK]; done)
    | (rw [sortN_zeroK]; rfl)
    | (refine ⟨by omega, fun j hj => ?_⟩
       rcases Nat.lt_or_ge j i with h | h
       · exact hi2 j h
       · have e : j = i := by omega
         rw [e]; assumption)
    | (rw [hss]; exact by_parts hup hi1 hi2 (.inl (by omega)))
    | (rw [hss]; exact by_parts hup hi1 hi2 (.inr (by omega)))
    | (rw [hss, ins_lengthK]; omega)
    | (have e : k = s.length := by omega
       subst e
       first | rfl | exact hms | (rw [byL, sortIK]; done) | omega)

theorem l12All_call (n : Int) (hn : 0 ≤ n ∧ n ≤ 1048576) : ACall Try.prog 51 [.int .i64 n] [] (Is (.slice ⟨0, 0, 0, 1, 0⟩ n.toNat) [.arr false .int (rangeI n.toNat)]) := by
  refine ACall.walk T Try.func51 Try.ntmps51 Try.results51 rfl rfl rfl (Is.nv _ _) ?_
  repeat' (conv => whnf); first
    | refine AWP.seq ?_
    | refine AWP.reg T rfl ?_
    | refine AWP.drw T none rfl rfl rfl ?_
    | refine AWP.dep T none rfl rfl rfl rfl ?_
    | refine AWP.block ?_
    | refine AWP.condT rfl ?_
    | refine AWP.condF rfl ?_
    | refine AWP.cond rfl (fun hb => ?_) (fun hb => ?_)
    | refine AWP.ret ?_
    | refine AWP.exit ?_
    | refine AWP.skip ?_
    | refine GuardB.t ?_
    | refine GuardB.f ?_
    | refine GuardB.mk (fun hb => ?_) (fun hb => ?_)
    | refine NilQ.mk (fun hb => ?_) ?_
    | refine VC.mk Nat.zero_lt_one ?_
    | refine VC.mk rfl ?_
    | refine AWP.while (ι := Nat) (fun k => St.of [(0, .int .i64 n), (3, .slice ⟨0, 0, 0, 1, 0⟩ k), (4, .int .i64 k)] [.arr false .int (rangeI k)]) (fun k => k ≤ n.toNat) (fun k => n.toNat - k) 0 (Nat.zero_le _)
        (Weak.of [1] (.cons rfl rfl (.cons rfl rfl (.cons rfl rfl .nil))) (.cons (.arr rfl ?_) (.nil _)) rfl) (fun k hk => ?_)
    | refine roundEnd (k + 1) ?_ ?_ (Weak.of [2] (.cons rfl rfl (.cons rfl rfl (.cons rfl rfl .nil))) (.cons (.arr rfl ?_) (.nil _)) rfl)
    | refine Ret.s [0] rfl ?_ (.cons (.arr rfl ?_) (.nil _)) rfl
    | refine VC.mk ?_ ?_
  all_goals try simp only [decide_eq_true_eq, decide_eq_false_iff_not, Bool.not_eq_true', Bool.not_eq_false', cond_true, cond_false, eqB_true, eqB_false] at *
  all_goals try simp only [in64, idxAdd_zero_left, Int.toNat_natCast, fillTo_length, Int.ofNat_lt, Int.ofNat_le, Int.natCast_inj] at *
  all_goals first
    | omega
    | exact ⟨by omega, by omega⟩
    | exact ⟨by simp, by simp, by omega⟩
    | (rw [rangeI_succ, sub_all' (by simp)]; rfl)
    | exact rangeI_zero
    | (have e : k = n.toNat := by omega
       rw [e])
    | rfl

theorem l12By2_call (l : List S2) (s : List Int) (n : Nat) (hn : n = s.length) (hg : goodJobs l = true) (hs : s.length ≤ 19) (hv : ∀ y ∈ s, 0 ≤ y ∧ y < l.length) : ACall Try.prog 50 [.slice ⟨0, 0, 0, 2, 0⟩ l.length, .slice ⟨1, 0, 0, 1, 0⟩ n] [.arr true .s2 l, .arr true .int s] (Is (.slice ⟨2, 0, 0, 1, 0⟩ n) [.arr true .s2 l, .arr true .int s, .arr false .int (byL l s)]) := by
  subst hn
  exact l12By_call l s hg hs hv

theorem specByDue_call (l : List S2) (hl : l.length ≤ 1048576) : ACall Try.prog 21 [.slice ⟨0, 0, 0, 2, 0⟩ l.length] [.arr true .s2 l] (Is (.tuple [.slice ⟨1, 0, 0, 1, 0⟩ (bdL l).length, .bool (goodJobs l)]) [.arr true .s2 l, .arr false .int (bdL l)]) := by
  refine ACall.walk T Try.func21 Try.ntmps21 Try.results21 rfl rfl rfl (Is.nv _ _) ?_
  repeat' (conv => whnf); first
    | refine AWP.seq ?_
    | refine AWP.reg T rfl ?_
    | refine AWP.drw T none rfl rfl rfl ?_
    | refine AWP.dep T none rfl rfl rfl rfl ?_
    | refine AWP.block ?_
    | refine AWP.condT rfl ?_
    | refine AWP.condF rfl ?_
    | refine AWP.cond rfl (fun hb => ?_) (fun hb => ?_)
    | refine AWP.ret ?_
    | refine AWP.exit ?_
    | refine AWP.skip ?_
    | refine GuardB.t ?_
    | refine GuardB.f ?_
    | refine GuardB.mk (fun hb => ?_) (fun hb => ?_)
    | refine NilQ.mk (fun hb => ?_) ?_
    | refine VC.mk Nat.zero_lt_one ?_
    | refine VC.mk rfl ?_
    | refine ACall.useIs [0] (specGoodJobs_call _ ?_) rfl (.cons (.same rfl rfl) (.nil _)) rfl ?_
    | refine ACall.useIs [] (l12All_call _ ?_) rfl (.nil _) rfl ?_
    | refine ACall.useIs [0, 2] (l12By2_call l (rangeI l.length) l.length ?_ ?_ ?_ ?_) rfl (.cons (.same rfl rfl) (.cons (.ro rfl rfl) (.nil _))) rfl ?_
    | refine Ret.sb [0, 3] rfl ?_ ?_ (.cons (.same rfl rfl) (.cons (.arr rfl ?_) (.nil _))) rfl
    | refine Ret.sb [0, 2] rfl ?_ ?_ (.cons (.same rfl rfl) (.cons (.arr rfl ?_) (.nil _))) rfl
    | refine VC.mk ?_ ?_
  all_goals try simp only [decide_eq_true_eq, decide_eq_false_iff_not, Bool.not_eq_true', Bool.not_eq_false', cond_true, cond_false, eqB_true, eqB_false] at *
  all_goals try simp only [in64, idxAdd_zero_left, Int.toNat_natCast, fillTo_length, Int.ofNat_lt, Int.ofNat_le, Int.natCast_inj] at *
  all_goals try
    have hg : goodJobs l = true := by assumption
    have hgl := goodJobs_len hg
  all_goals first
    | exact hl
    | exact hg
    | assumption
    | omega
    | exact ⟨by omega, by omega⟩
    | (rw [Int.toNat_natCast, rangeI_length]; omega)
    | (rw [rangeI_length]; omega)
    | exact (rangeI_length _).symm
    | (intro y hy; have := rangeI_mem.1 hy; omega)
    | (rw [bdL, if_pos hg, byA]; done)
    | (rw [bdL, if_pos hg, byA, byL_len, rangeI_length]; done)
    | (rw [hg]; done)
    | rfl
    | (have hn : goodJobs l = false := by assumption
       first
       | (rw [bdL, if_neg (by rw [hn]; simp)]; done)
       | (rw [bdL, if_neg (by rw [hn]; simp)]; rfl)
       | (rw [hn]; done))

theorem implByDueS2_call (l : List S2) (s : List Int) (n : Nat) (hn : n = s.length) (hg : goodJobs l = true) (hs : s.length ≤ 19) (hv : ∀ y ∈ s, 0 ≤ y ∧ y < l.length) : ACall Try.prog 52 [.slice ⟨0, 0, 0, 2, 0⟩ l.length, .slice ⟨1, 0, 0, 1, 0⟩ n] [.arr true .s2 l, .arr true .int s] (Is (.slice ⟨2, 0, 0, 1, 0⟩ n) [.arr true .s2 l, .arr true .int s, .arr false .int (byL l s)]) := by
  subst hn
  exact implByDueS_call l s hg hs hv

theorem implByDue_call (l : List S2) (hl : l.length ≤ 1048576) : ACall Try.prog 22 [.slice ⟨0, 0, 0, 2, 0⟩ l.length] [.arr true .s2 l] (Is (.tuple [.slice ⟨1, 0, 0, 1, 0⟩ (bdL l).length, .bool (goodJobs l)]) [.arr true .s2 l, .arr false .int (bdL l)]) := by
  refine ACall.walk T Try.func22 Try.ntmps22 Try.results22 rfl rfl rfl (Is.nv _ _) ?_
  repeat' (conv => whnf); first
    | refine AWP.seq ?_
    | refine AWP.reg T rfl ?_
    | refine AWP.drw T none rfl rfl rfl ?_
    | refine AWP.dep T none rfl rfl rfl rfl ?_
    | refine AWP.block ?_
    | refine AWP.condT rfl ?_
    | refine AWP.condF rfl ?_
    | refine AWP.cond rfl (fun hb => ?_) (fun hb => ?_)
    | refine AWP.ret ?_
    | refine AWP.exit ?_
    | refine AWP.skip ?_
    | refine GuardB.t ?_
    | refine GuardB.f ?_
    | refine GuardB.mk (fun hb => ?_) (fun hb => ?_)
    | refine NilQ.mk (fun hb => ?_) ?_
    | refine VC.mk Nat.zero_lt_one ?_
    | refine VC.mk rfl ?_
    | refine ACall.useIs [0] (implGoodJobs_call _ ?_) rfl (.cons (.same rfl rfl) (.nil _)) rfl ?_
    | refine ACall.useIs [] (numbered_call _ ?_) rfl (.nil _) rfl ?_
    | refine ACall.useIs [0, 2] (implByDueS2_call l (rangeI l.length) l.length ?_ ?_ ?_ ?_) rfl (.cons (.same rfl rfl) (.cons (.ro rfl rfl) (.nil _))) rfl ?_
    | refine Ret.sb [0, 3] rfl ?_ ?_ (.cons (.same rfl rfl) (.cons (.arr rfl ?_) (.nil _))) rfl
    | refine Ret.sb [0, 2] rfl ?_ ?_ (.cons (.same rfl rfl) (.cons (.arr rfl ?_) (.nil _))) rfl
    | refine VC.mk ?_ ?_
  all_goals try simp only [decide_eq_true_eq, decide_eq_false_iff_not, Bool.not_eq_true', Bool.not_eq_false', cond_true, cond_false, eqB_true, eqB_false] at *
  all_goals try simp only [in64, idxAdd_zero_left, Int.toNat_natCast, fillTo_length, Int.ofNat_lt, Int.ofNat_le, Int.natCast_inj] at *
  all_goals try
    have hg : goodJobs l = true := by assumption
    have hgl := goodJobs_len hg
  all_goals first
    | exact hl
    | exact hg
    | assumption
    | omega
    | exact ⟨by omega, by omega⟩
    | (rw [Int.toNat_natCast, rangeI_length]; omega)
    | (rw [rangeI_length]; omega)
    | exact (rangeI_length _).symm
    | (intro y hy; have := rangeI_mem.1 hy; omega)
    | (rw [bdL, if_pos hg, byA]; done)
    | (rw [bdL, if_pos hg, byA, byL_len, rangeI_length]; done)
    | (rw [hg]; done)
    | rfl
    | (have hn : goodJobs l = false := by assumption
       first
       | (rw [bdL, if_neg (by rw [hn]; simp)]; done)
       | (rw [bdL, if_neg (by rw [hn]; simp)]; rfl)
       | (rw [hn]; done))

end YtockeinpdioahaaAM
