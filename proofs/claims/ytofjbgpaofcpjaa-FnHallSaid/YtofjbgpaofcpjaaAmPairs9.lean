/- Contracts of functions of this seat. -/
import Derived.Test.YtofjbgpaofcpjaaAmTabPairs
import Derived.Test.YtofjbgpaofcpjaaAmModels
import Derived.Test.YtofjbgpaofcpjaaAmPairs8
import Derived.Test.YtofjbgpaofcpjaaAmRowClr
set_option linter.unusedVariables false
set_option linter.unusedSimpArgs false
set_option maxRecDepth 100000
set_option maxHeartbeats 2000000
namespace YtofjbgpaofcpjaaAM
open Go Go.Proofs
attribute [local irreducible] foldN askR askN maskL impB impO bestN freeN stQ rowQ qN inQ sortI sortN goodP isMatch matchB tryA rcQ reachQ bestM' selN rangeI keepN midD copyL putL

theorem l7Put_call (a : List Int) (n : Int) (ha : a.length ≤ 1048576) (hr : Rise a) : ACall Try.prog 61 [.slice ⟨0, 0, 0, 1, 0⟩ a.length, .int .i64 n] [.arr false .int a] (Is (.slice ⟨1, 0, 0, 1, 0⟩ (putL n a).length) [.dead, .arr false .int (putL n a)]) := by
  refine ACall.walk T Try.func61 Try.ntmps61 Try.results61 rfl rfl rfl (Is.nv _ _) ?_
  repeat' (conv => whnf); first
    | refine AWP.seq ?_
    | refine AWP.reg T rfl ?_
    | refine AWP.drw T none rfl rfl rfl ?_
    | refine AWP.dep T none rfl rfl rfl rfl ?_
    | refine AWP.block ?_
    | refine AWP.condT rfl ?_
    | refine AWP.condF rfl ?_
    | refine AWP.cond rfl (fun hb => ?_) (fun hb => ?_)
    | refine AWP.ret ?_
    | refine AWP.exit ?_
    | refine AWP.skip ?_
    | refine GuardB.t ?_
    | refine GuardB.f ?_
    | refine GuardB.mk (fun hb => ?_) (fun hb => ?_)
    | refine NilQ.mk (fun hb => ?_) ?_
    | refine VC.mk Nat.zero_lt_one ?_
    | refine VC.mk rfl ?_
    | refine AWP.while (ι := Nat) (fun k => St.of [(0, .slice ⟨0, 0, 0, 1, 0⟩ a.length), (1, .int .i64 n), (5, .int .i64 k)] [.arr false .int a]) (fun k => k ≤ a.length ∧ ∀ j, j < k → a.getD j 0 < n) (fun k => a.length - k) 0 ⟨Nat.zero_le _, fun j hj => by omega⟩
        (Weak.of [0] (.cons rfl rfl (.cons rfl rfl (.cons rfl rfl .nil))) (.cons (.same rfl rfl) (.nil _)) rfl) (fun k hk => ?_)
    | refine roundEnd (k + 1) ?_ ?_ (Weak.of [0] (.cons rfl rfl (.cons rfl rfl (.cons rfl rfl .nil))) (.cons (.same rfl rfl) (.nil _)) rfl)
    | refine Ret.s [0, 0] rfl ?_ (.cons (.dead _) (.cons (.arr rfl ?_) (.nil _))) rfl
    | refine Ret.s [0, 5] rfl ?_ (.cons (.dead _) (.cons (.arr rfl ?_) (.nil _))) rfl
    | refine VC.mk ?_ ?_
  all_goals try simp only [decide_eq_true_eq, decide_eq_false_iff_not, Bool.not_eq_true', Bool.not_eq_false', cond_true, cond_false, eqB_true, eqB_false] at *
  all_goals try simp only [in64, idxAdd_zero_left, Int.toNat_natCast, fillTo_length, Int.ofNat_lt, Int.ofNat_le, Int.natCast_inj] at *
  all_goals first
    | omega
    | exact ⟨by omega, by omega⟩
    | (have := hk.1; omega)
    | (have h1 := hk.1
       refine ⟨by first | omega | (simp; done), ?_, by omega⟩
       simp [sub]; omega)
    | (have h1 := hk.1
       refine ⟨by first | omega | (simp; done), ?_, by omega⟩
       simp [sub]; done)
    | (have h1 := hk.1
       refine ⟨by omega, fun j hj => ?_⟩
       rcases Nat.lt_or_ge j k with h | h
       · exact hk.2 j h
       · have e : j = k := by omega
         rw [e]; assumption)
    | (have e := put_here (n := n) (l := a) (k := k) (by omega) (by assumption)
       first
       | exact e
       | exact e.symm
       | (rw [← e]; done))
    | exact put_parts hr hk.1 hk.2 (.inl (by have := hk.1; omega))
    | exact put_parts hr hk.1 hk.2 (.inr (by omega))
    | (rw [put_parts hr hk.1 hk.2 (.inl (by have := hk.1; omega))]; simp [sub]; have := hk.1; omega)
    | (rw [put_parts hr hk.1 hk.2 (.inr (by omega))]; simp [sub]; have := hk.1; omega)

theorem numbered_call (n : Int) (hn : 0 ≤ n ∧ n ≤ 1048576) : ACall Try.prog 64 [.int .i64 n] [] (Is (.slice ⟨0, 0, 0, 1, 0⟩ n.toNat) [.arr false .int (rangeI n.toNat)]) := by
  refine ACall.walk T Try.func64 Try.ntmps64 Try.results64 rfl rfl rfl (Is.nv _ _) ?_
  repeat' (conv => whnf); first
    | refine AWP.seq ?_
    | refine AWP.reg T rfl ?_
    | refine AWP.drw T none rfl rfl rfl ?_
    | refine AWP.dep T none rfl rfl rfl rfl ?_
    | refine AWP.block ?_
    | refine AWP.condT rfl ?_
    | refine AWP.condF rfl ?_
    | refine AWP.cond rfl (fun hb => ?_) (fun hb => ?_)
    | refine AWP.ret ?_
    | refine AWP.exit ?_
    | refine AWP.skip ?_
    | refine GuardB.t ?_
    | refine GuardB.f ?_
    | refine GuardB.mk (fun hb => ?_) (fun hb => ?_)
    | refine NilQ.mk (fun hb => ?_) ?_
    | refine VC.mk Nat.zero_lt_one ?_
    | refine VC.mk rfl ?_
    | refine AWP.while (ι := Nat) (fun k => St.of [(0, .int .i64 n), (3, .slice ⟨0, 0, 0, 1, 0⟩ k), (6, .int .i64 n), (7, .int .i64 k)] [.arr false .int (rangeI k)]) (fun k => k ≤ n.toNat) (fun k => n.toNat - k) 0 (Nat.zero_le _)
        (Weak.of [1] (.cons rfl rfl (.cons rfl rfl (.cons rfl rfl (.cons rfl rfl .nil)))) (.cons (.arr rfl ?_) (.nil _)) rfl) (fun k hk => ?_)
    | refine roundEnd (k + 1) ?_ ?_ (Weak.of [2] (.cons rfl rfl (.cons rfl rfl (.cons rfl rfl (.cons rfl rfl .nil)))) (.cons (.arr rfl ?_) (.nil _)) rfl)
    | refine Ret.s [0] rfl ?_ (.cons (.arr rfl ?_) (.nil _)) rfl
    | refine VC.mk ?_ ?_
  all_goals try simp only [decide_eq_true_eq, decide_eq_false_iff_not, Bool.not_eq_true', Bool.not_eq_false', cond_true, cond_false, eqB_true, eqB_false] at *
  all_goals try simp only [in64, idxAdd_zero_left, Int.toNat_natCast, fillTo_length, Int.ofNat_lt, Int.ofNat_le, Int.natCast_inj] at *
  all_goals first
    | omega
    | exact ⟨by omega, by omega⟩
    | exact ⟨by simp, by simp, by omega⟩
    | (rw [rangeI_succ, sub_all' (by simp)]; rfl)
    | exact rangeI_zero
    | (have e : k = n.toNat := by omega
       subst e; rfl)
    | (have e : k = n.toNat := by omega
       rw [e])
    | rfl


theorem inLf_call (x : Int) (lf : List Int) (ht : lf.length ≤ 1048576) : ACall Try.prog 65 [.int .i64 x, .ptr ⟨0, 0, 0, 1, 0⟩] [.arr true (.raw 1) [[.slice ⟨1, 0, 0, 1, 0⟩ lf.length]], .arr true .int lf] (Is (.bool (hasB lf x)) [.arr true (.raw 1) [[.slice ⟨1, 0, 0, 1, 0⟩ lf.length]], .arr true .int lf]) := by
  refine ACall.walk T Try.func65 Try.ntmps65 Try.results65 rfl rfl rfl (Is.nv _ _) ?_
  repeat' (conv => whnf); first
    | refine AWP.seq ?_
    | refine AWP.reg T rfl ?_
    | refine AWP.drw T none rfl rfl rfl ?_
    | refine AWP.dep T none rfl rfl rfl rfl ?_
    | refine AWP.block ?_
    | refine AWP.condT rfl ?_
    | refine AWP.condF rfl ?_
    | refine AWP.cond rfl (fun hb => ?_) (fun hb => ?_)
    | refine AWP.ret ?_
    | refine AWP.exit ?_
    | refine AWP.skip ?_
    | refine GuardB.t ?_
    | refine GuardB.f ?_
    | refine GuardB.mk (fun hb => ?_) (fun hb => ?_)
    | refine NilQ.mk (fun hb => ?_) ?_
    | refine VC.mk Nat.zero_lt_one ?_
    | refine VC.mk rfl ?_
    | refine ACall.useIs [1] (slicesContains_call _ _ ?_) rfl (.cons (.same rfl rfl) (.nil _)) rfl ?_
    | refine Ret.bool [0, 1] ?_ (.cons (.same rfl rfl) (.cons (.same rfl rfl) (.nil _))) rfl
    | refine VC.mk ?_ ?_
  all_goals first
    | exact ht
    | rfl

theorem idxInLf_call (lf : List Int) (ht : lf.length ≤ 1048576) (l : List Int) (hl : l.length ≤ 1048576) : ACall Try.prog 74 [.slice ⟨0, 0, 0, 1, 0⟩ l.length, .func 65 [.ptr ⟨1, 0, 0, 1, 0⟩]] [.arr true .int l, .arr true (.raw 1) [[.slice ⟨2, 0, 0, 1, 0⟩ lf.length]], .arr true .int lf] (Is (.int .i64 (idxF (fun x => hasB lf x) l)) [.arr true .int l, .arr true (.raw 1) [[.slice ⟨2, 0, 0, 1, 0⟩ lf.length]], .arr true .int lf]) := by
  refine ACall.walk T Try.func74 Try.ntmps74 Try.results74 rfl rfl rfl (Is.nv _ _) ?_
  repeat' (conv => whnf); first
    | refine AWP.seq ?_
    | refine AWP.reg T rfl ?_
    | refine AWP.drw T none rfl rfl rfl ?_
    | refine AWP.dep T none rfl rfl rfl rfl ?_
    | refine AWP.block ?_
    | refine AWP.condT rfl ?_
    | refine AWP.condF rfl ?_
    | refine AWP.cond rfl (fun hb => ?_) (fun hb => ?_)
    | refine AWP.ret ?_
    | refine AWP.exit ?_
    | refine AWP.skip ?_
    | refine GuardB.t ?_
    | refine GuardB.f ?_
    | refine GuardB.mk (fun hb => ?_) (fun hb => ?_)
    | refine NilQ.mk (fun hb => ?_) ?_
    | refine VC.mk Nat.zero_lt_one ?_
    | refine VC.mk rfl ?_
    | refine AWP.while (ι := Nat) (fun k => St.of [(0, .slice ⟨0, 0, 0, 1, 0⟩ l.length), (1, .func 65 [.ptr ⟨1, 0, 0, 1, 0⟩]), (7, .int .i64 l.length), (8, .int .i64 k)] [.arr true .int l, .arr true (.raw 1) [[.slice ⟨2, 0, 0, 1, 0⟩ lf.length]], .arr true .int lf]) (fun k => NoneTo (fun x => hasB lf x) l k) (fun k => l.length - k) 0 (NoneTo.zero _ _)
        (Weak.of [0, 1, 2] (.cons rfl rfl (.cons rfl rfl (.cons rfl rfl (.cons rfl rfl .nil)))) (.cons (.same rfl rfl) (.cons (.same rfl rfl) (.cons (.same rfl rfl) (.nil _)))) rfl) (fun k hk => ?_)
    | refine ACall.useIs [1, 2] (inLf_call _ _ ht) rfl (.cons (.same rfl rfl) (.cons (.same rfl rfl) (.nil _))) rfl ?_
    | refine Ret.int [0, 1, 2] ?_ (.cons (.same rfl rfl) (.cons (.same rfl rfl) (.cons (.same rfl rfl) (.nil _)))) rfl
    | refine roundEnd (_ + 1) ?_ ?_ (Weak.of [0, 1, 2] (.cons rfl rfl (.cons rfl rfl (.cons rfl rfl (.cons rfl rfl .nil)))) (.cons (.same rfl rfl) (.cons (.same rfl rfl) (.cons (.same rfl rfl) (.nil _)))) rfl)
    | refine VC.mk ?_ ?_
  all_goals try simp only [decide_eq_true_eq, decide_eq_false_iff_not, Bool.not_eq_true', Bool.not_eq_false', cond_true, cond_false, eqB_true, eqB_false] at *
  all_goals try simp only [in64, idxAdd_zero_left, Int.toNat_natCast, fillTo_length, Int.ofNat_lt, Int.ofNat_le, Int.natCast_inj] at *
  all_goals first
    | omega
    | (have := hk.1; omega)
    | exact idxF_none (fun j hj => hk.2 j hj (by omega))
    | (have h2 : k < l.length := by omega
       simp only [getD_get h2] at *
       first
       | exact hk.next h2 (by simp_all)
       | exact idxF_here h2 (fun j hj => hk.2 j (by omega) hj) (by simp_all))

theorem delInLf_call (lf : List Int) (ht : lf.length ≤ 1048576) (l : List Int) (hl : l.length ≤ 1048576) : ACall Try.prog 63 [.slice ⟨0, 0, 0, 1, 0⟩ l.length, .func 65 [.ptr ⟨1, 0, 0, 1, 0⟩]] [.arr false .int (l), .arr true (.raw 1) [[.slice ⟨2, 0, 0, 1, 0⟩ lf.length]], .arr true .int lf] (Is (.slice ⟨0, 0, 0, 1, 0⟩ (l.filter fun x => !(fun x => hasB lf x) x).length) [.arr false .int (l.filter fun x => !(fun x => hasB lf x) x), .arr true (.raw 1) [[.slice ⟨2, 0, 0, 1, 0⟩ lf.length]], .arr true .int lf]) := by
  refine ACall.walk T Try.func63 Try.ntmps63 Try.results63 rfl rfl rfl (Is.nv _ _) ?_
  repeat' (conv => whnf); first
    | refine AWP.regX (id := 11) T 3 rfl ?_
    | refine AWP.retCut (id := 0) (k := (l.filter fun x => !(fun x => hasB lf x) x).length) rfl ?_
    | refine AWP.seq ?_
    | refine AWP.reg T rfl ?_
    | refine AWP.drw T none rfl rfl rfl ?_
    | refine AWP.dep T none rfl rfl rfl rfl ?_
    | refine AWP.block ?_
    | refine AWP.condT rfl ?_
    | refine AWP.condF rfl ?_
    | refine AWP.cond rfl (fun hb => ?_) (fun hb => ?_)
    | refine AWP.ret ?_
    | refine AWP.exit ?_
    | refine AWP.skip ?_
    | refine GuardB.t ?_
    | refine GuardB.f ?_
    | refine GuardB.mk (fun hb => ?_) (fun hb => ?_)
    | refine NilQ.mk (fun hb => ?_) ?_
    | refine VC.mk Nat.zero_lt_one ?_
    | refine VC.mk rfl ?_
    | refine ACall.useIs [0, 1, 2] (idxInLf_call _ ht l hl) rfl (.cons (.ro rfl rfl) (.cons (.same rfl rfl) (.cons (.same rfl rfl) (.nil _)))) rfl ?_
    | obtain ⟨k, hk0, hk1, hk2, hk3⟩ := idxF_at (p := fun x => hasB lf x) (l := l) (of_decide_eq_false (by assumption))
      have hj0 := midD_start (p := fun x => hasB lf x) hk1 hk2 hk3
      refine AWP.while (ι := Nat) (fun j => St.of [(0, .slice ⟨0, 0, 0, 1, 0⟩ l.length), (1, .func 65 [.ptr ⟨1, 0, 0, 1, 0⟩]), (5, .int .i64 (keepN (fun x => hasB lf x) l j).length), (6, .int .i64 j)] [.arr false .int (midD (fun x => hasB lf x) l j), .arr true (.raw 1) [[.slice ⟨2, 0, 0, 1, 0⟩ lf.length]], .arr true .int lf]) (fun j => j ≤ l.length) (fun j => l.length - j) (k + 1) ?_
        (Weak.of [0, 1, 2] (.cons rfl rfl (.cons rfl rfl (.i rfl ?_ (.i rfl ?_ .nil)))) (.cons (.arr rfl ?_) (.cons (.same rfl rfl) (.cons (.same rfl rfl) (.nil _)))) rfl) (fun j hj => ?_)
    | refine ACall.useIs [1, 2] (inLf_call _ _ ht) rfl (.cons (.same rfl rfl) (.cons (.same rfl rfl) (.nil _))) rfl ?_
    | refine roundEnd (j + 1) ?_ ?_ (Weak.of [0, 1, 2] (.cons rfl rfl (.cons rfl rfl (.i rfl ?_ (.cons rfl rfl .nil)))) (.cons (.arr rfl ?_) (.cons (.same rfl rfl) (.cons (.same rfl rfl) (.nil _)))) rfl)
    | refine XGoal.clr rfl ?_
    | refine Ret.s [0, 1, 2] rfl ?_ (.cons (.arr rfl ?_) (.cons (.same rfl rfl) (.cons (.same rfl rfl) (.nil _)))) rfl
    | refine VC.mk ?_ ?_
  all_goals try simp only [decide_eq_true_eq, decide_eq_false_iff_not, Bool.not_eq_true', Bool.not_eq_false', cond_true, cond_false, eqB_true, eqB_false] at *
  all_goals try simp only [in64, idxAdd_zero_left, Int.toNat_natCast, fillTo_length, Int.ofNat_lt, Int.ofNat_le, Int.natCast_inj] at *
  all_goals try have hkl := keepN_le (p := fun x => hasB lf x) (l := l) (j := j)
  all_goals try have hkl2 := keepN_le2 (p := fun x => hasB lf x) (l := l) (j := j)
  all_goals try simp only [midD_length, copyL_length] at *
  all_goals try
    have hj2 : j < l.length := by omega
    have hat := midD_at (p := fun x => hasB lf x) hj2
    simp only [hat] at *
  all_goals try
    have hix := idxF_lt (fun x => hasB lf x) l
  all_goals first
    | omega
    | exact ⟨by omega, by omega⟩
    | exact ⟨by omega, by omega, by omega⟩
    | exact ⟨by omega, rfl, rfl⟩
    | (rw [idxF_no (by assumption), List.take_of_length_le (Nat.le_refl _)]; done)
    | exact hj0.2
    | exact hj0.2.symm
    | (rw [hj0.1]; omega)
    | (rw [hk0, hj0.1])
    | exact (idxF_no (by assumption)).symm
    | exact idxF_no (by assumption)
    | (rw [idxF_no (by assumption)]; done)
    | (rw [midD_yes hj2 (by assumption)]; done)
    | (rw [keepN_yes hj2 (by assumption)]; done)
    | exact midD_no hj2 (by assumption)
    | (rw [keepN_no hj2 (by assumption)]; simp; done)
    | exact ⟨by omega, trivial, trivial⟩
    | (have e := keepN_all (p := fun x => hasB lf x) (l := l) (j := j) (by omega)
       try dsimp only at e
       first
       | (rw [← e]; done)
       | exact congrArg List.length e
       | (rw [← e]; exact (midD_cut (by simp; omega)).symm)
       | (rw [← e]; exact midD_cut (by simp; omega)))

end YtofjbgpaofcpjaaAM
