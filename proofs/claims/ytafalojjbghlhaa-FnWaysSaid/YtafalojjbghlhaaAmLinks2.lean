/- Contracts of functions of this seat. -/
import Derived.Test.YtafalojjbghlhaaAmTabLinks
import Derived.Test.YtafalojjbghlhaaAmModels
import Derived.Test.YtafalojjbghlhaaAmLinkModels
set_option linter.unusedVariables false
set_option linter.unusedSimpArgs false
set_option maxRecDepth 100000
namespace YtafalojjbghlhaaAM
open Go Go.Proofs

theorem l9Ask_call (l : List S2) (f t : Int) (hl : l.length ≤ 1048576) : ACall Try.prog 50 [.slice ⟨0, 0, 0, 2, 0⟩ l.length, .int .i64 f, .int .i64 t] [.arr true .s2 l] (Is (.bool (linkAsk l f t)) [.arr true .s2 l]) := by
  refine ACall.walk T Try.func50 Try.ntmps50 Try.results50 rfl rfl rfl (Is.nv _ _) ?_
  repeat' (conv => whnf); first
    | refine AWP.seq ?_
    | refine AWP.reg T rfl ?_
    | refine AWP.drw T none rfl rfl rfl ?_
    | refine AWP.dep T none rfl rfl rfl rfl ?_
    | refine AWP.block ?_
    | refine AWP.condT rfl ?_
    | refine AWP.condF rfl ?_
    | refine AWP.cond rfl (fun hb => ?_) (fun hb => ?_)
    | refine AWP.ret ?_
    | refine AWP.exit ?_
    | refine AWP.skip ?_
    | refine GuardB.t ?_
    | refine GuardB.f ?_
    | refine GuardB.mk (fun hb => ?_) (fun hb => ?_)
    | refine NilQ.mk (fun hb => ?_) ?_
    | refine VC.mk Nat.zero_lt_one ?_
    | refine VC.mk rfl ?_
    | refine ACall.useIs [0] (specGoodLinks_call _ ?_) rfl (.cons (.same rfl rfl) (.nil _)) rfl ?_
    | refine ACall.useIs [] (l6Node_call _) rfl (.nil _) rfl ?_
    | refine Ret.bool [0] ?_ (.cons (.same rfl rfl) (.nil _)) rfl
    | refine VC.mk ?_ ?_
  all_goals try simp only [decide_eq_true_eq, decide_eq_false_iff_not, Bool.not_eq_true', Bool.not_eq_false', cond_true, cond_false, eqB_true, eqB_false] at *
  all_goals try simp only [in64, idxAdd_zero_left, Int.toNat_natCast, fillTo_length, Int.ofNat_lt, Int.ofNat_le, Int.natCast_inj] at *
  all_goals first
    | exact hl
    | (simp_all [linkAsk]; done)

theorem areOfBad_call (k n : Int) (hn : 0 ≤ n ∧ n ≤ 1048576) : ACall Try.prog 80 [.int .i64 k, .ptr ⟨0, 0, 0, 1, 0⟩] [.arr false (.raw 1) [[.int .i64 n]]] (Is (.bool (!btw 0 (n - 1) k)) [.arr false (.raw 1) [[.int .i64 n]]]) := by
  refine ACall.walk T Try.func80 Try.ntmps80 Try.results80 rfl rfl rfl (Is.nv _ _) ?_
  repeat' (conv => whnf); first
    | refine AWP.seq ?_
    | refine AWP.reg T rfl ?_
    | refine AWP.drw T none rfl rfl rfl ?_
    | refine AWP.dep T none rfl rfl rfl rfl ?_
    | refine AWP.block ?_
    | refine AWP.condT rfl ?_
    | refine AWP.condF rfl ?_
    | refine AWP.cond rfl (fun hb => ?_) (fun hb => ?_)
    | refine AWP.ret ?_
    | refine AWP.exit ?_
    | refine AWP.skip ?_
    | refine GuardB.t ?_
    | refine GuardB.f ?_
    | refine GuardB.mk (fun hb => ?_) (fun hb => ?_)
    | refine NilQ.mk (fun hb => ?_) ?_
    | refine VC.mk Nat.zero_lt_one ?_
    | refine VC.mk rfl ?_
    | refine ACall.useIs [] (within_call _ _ _) rfl (.nil _) rfl ?_
    | refine Ret.bool [0] ?_ (.cons (.same rfl rfl) (.nil _)) rfl
    | refine VC.mk ?_ ?_
  all_goals try simp only [decide_eq_true_eq, decide_eq_false_iff_not, Bool.not_eq_true', Bool.not_eq_false', cond_true, cond_false, eqB_true, eqB_false] at *
  all_goals try simp only [in64, idxAdd_zero_left, Int.toNat_natCast, fillTo_length, Int.ofNat_lt, Int.ofNat_le, Int.natCast_inj] at *
  all_goals first
    | omega
    | rfl

theorem idxAreOf_call (l : List Int) (n : Int) (hl : l.length ≤ 1048576) (hn : 0 ≤ n ∧ n ≤ 1048576) : ACall Try.prog 95 [.slice ⟨0, 0, 0, 1, 0⟩ l.length, .func 80 [.ptr ⟨1, 0, 0, 1, 0⟩]] [.arr true .int l, .arr false (.raw 1) [[.int .i64 n]]] (Is (.int .i64 (idxF (fun k => !btw 0 (n - 1) k) l)) [.arr true .int l, .arr false (.raw 1) [[.int .i64 n]]]) := by
  refine ACall.walk T Try.func95 Try.ntmps95 Try.results95 rfl rfl rfl (Is.nv _ _) ?_
  repeat' (conv => whnf); first
    | refine AWP.seq ?_
    | refine AWP.reg T rfl ?_
    | refine AWP.drw T none rfl rfl rfl ?_
    | refine AWP.dep T none rfl rfl rfl rfl ?_
    | refine AWP.block ?_
    | refine AWP.condT rfl ?_
    | refine AWP.condF rfl ?_
    | refine AWP.cond rfl (fun hb => ?_) (fun hb => ?_)
    | refine AWP.ret ?_
    | refine AWP.exit ?_
    | refine AWP.skip ?_
    | refine GuardB.t ?_
    | refine GuardB.f ?_
    | refine GuardB.mk (fun hb => ?_) (fun hb => ?_)
    | refine NilQ.mk (fun hb => ?_) ?_
    | refine VC.mk Nat.zero_lt_one ?_
    | refine VC.mk rfl ?_
    | refine AWP.while (ι := Nat) (fun k => St.of [(0, .slice ⟨0, 0, 0, 1, 0⟩ l.length), (1, .func 80 [.ptr ⟨1, 0, 0, 1, 0⟩]), (7, .int .i64 l.length), (8, .int .i64 k)] [.arr true .int l, .arr false (.raw 1) [[.int .i64 n]]]) (fun k => NoneTo (fun k => !btw 0 (n - 1) k) l k) (fun k => l.length - k) 0 (NoneTo.zero _ _)
        (Weak.of [0, 1] (.cons rfl rfl (.cons rfl rfl (.cons rfl rfl (.cons rfl rfl .nil)))) (.cons (.same rfl rfl) (.cons (.same rfl rfl) (.nil _))) rfl) (fun k hk => ?_)
    | refine ACall.useIs [1] (areOfBad_call _ _ ?_) rfl (.cons (.same rfl rfl) (.nil _)) rfl ?_
    | refine Ret.int [0, 1] ?_ (.cons (.same rfl rfl) (.cons (.same rfl rfl) (.nil _))) rfl
    | refine roundEnd (_ + 1) ?_ ?_ (Weak.of [0, 1] (.cons rfl rfl (.cons rfl rfl (.cons rfl rfl (.cons rfl rfl .nil)))) (.cons (.same rfl rfl) (.cons (.same rfl rfl) (.nil _))) rfl)
    | refine VC.mk ?_ ?_
  all_goals try simp only [decide_eq_true_eq, decide_eq_false_iff_not, Bool.not_eq_true', Bool.not_eq_false', cond_true, cond_false, eqB_true, eqB_false] at *
  all_goals try simp only [in64, idxAdd_zero_left, Int.toNat_natCast, fillTo_length, Int.ofNat_lt, Int.ofNat_le, Int.natCast_inj] at *
  all_goals first
    | omega
    | exact hn
    | (have := hk.1; omega)
    | exact idxF_none (fun j hj => hk.2 j hj (by omega))
    | (have h2 : k < l.length := by omega
       simp only [getD_get h2] at *
       first
       | exact hk.next h2 (by simp_all)
       | exact idxF_here h2 (fun j hj => hk.2 j (by omega) hj) (by simp_all))

theorem cfAreOf_call (l : List Int) (n : Int) (hl : l.length ≤ 1048576) (hn : 0 ≤ n ∧ n ≤ 1048576) : ACall Try.prog 79 [.slice ⟨0, 0, 0, 1, 0⟩ l.length, .func 80 [.ptr ⟨1, 0, 0, 1, 0⟩]] [.arr true .int l, .arr false (.raw 1) [[.int .i64 n]]] (Is (.bool (l.any (fun k => !btw 0 (n - 1) k))) [.arr true .int l, .arr false (.raw 1) [[.int .i64 n]]]) := by
  refine ACall.walk T Try.func79 Try.ntmps79 Try.results79 rfl rfl rfl (Is.nv _ _) ?_
  repeat' (conv => whnf); first
    | refine AWP.seq ?_
    | refine AWP.reg T rfl ?_
    | refine AWP.drw T none rfl rfl rfl ?_
    | refine AWP.dep T none rfl rfl rfl rfl ?_
    | refine AWP.block ?_
    | refine AWP.condT rfl ?_
    | refine AWP.condF rfl ?_
    | refine AWP.cond rfl (fun hb => ?_) (fun hb => ?_)
    | refine AWP.ret ?_
    | refine AWP.exit ?_
    | refine AWP.skip ?_
    | refine GuardB.t ?_
    | refine GuardB.f ?_
    | refine GuardB.mk (fun hb => ?_) (fun hb => ?_)
    | refine NilQ.mk (fun hb => ?_) ?_
    | refine VC.mk Nat.zero_lt_one ?_
    | refine VC.mk rfl ?_
    | refine ACall.useIs [0, 1] (idxAreOf_call _ _ ?_ ?_) rfl (.cons (.same rfl rfl) (.cons (.same rfl rfl) (.nil _))) rfl ?_
    | refine Ret.bool [0, 1] ?_ (.cons (.same rfl rfl) (.cons (.same rfl rfl) (.nil _))) rfl
    | refine VC.mk ?_ ?_
  all_goals first | exact idxF_any _ _ | exact hl | exact hn

theorem areOf_call (l : List Int) (n m : Int) (hl : l.length ≤ 1048576) (hn : 0 ≤ n ∧ n ≤ 1048576) : ACall Try.prog 52 [.slice ⟨0, 0, 0, 1, 0⟩ l.length, .int .i64 n, .int .i64 m] [.arr true .int l] (Is (.bool (decide ((l.length : Int) ≤ m) && !l.any (fun k => !btw 0 (n - 1) k))) [.arr true .int l]) := by
  refine ACall.walk T Try.func52 Try.ntmps52 Try.results52 rfl rfl rfl (Is.nv _ _) ?_
  repeat' (conv => whnf); first
    | refine AWP.seq ?_
    | refine AWP.reg T rfl ?_
    | refine AWP.drw T none rfl rfl rfl ?_
    | refine AWP.dep T none rfl rfl rfl rfl ?_
    | refine AWP.block ?_
    | refine AWP.condT rfl ?_
    | refine AWP.condF rfl ?_
    | refine AWP.cond rfl (fun hb => ?_) (fun hb => ?_)
    | refine AWP.ret ?_
    | refine AWP.exit ?_
    | refine AWP.skip ?_
    | refine GuardB.t ?_
    | refine GuardB.f ?_
    | refine GuardB.mk (fun hb => ?_) (fun hb => ?_)
    | refine NilQ.mk (fun hb => ?_) ?_
    | refine VC.mk Nat.zero_lt_one ?_
    | refine VC.mk rfl ?_
    | refine ACall.useIs [0, 1] (cfAreOf_call _ _ ?_ ?_) rfl (.cons (.same rfl rfl) (.cons (.same rfl rfl) (.nil _))) rfl ?_
    | refine Ret.bool [0] ?_ (.cons (.same rfl rfl) (.nil _)) rfl
    | refine VC.mk ?_ ?_
  all_goals try simp only [decide_eq_true_eq, decide_eq_false_iff_not, Bool.not_eq_true', Bool.not_eq_false', cond_true, cond_false, eqB_true, eqB_false] at *
  all_goals try simp only [in64, idxAdd_zero_left, Int.toNat_natCast, fillTo_length, Int.ofNat_lt, Int.ofNat_le, Int.natCast_inj] at *
  all_goals first
    | exact hl
    | exact hn
    | (simp_all; done)
    | (have h : decide ((l.length : Int) ≤ m) = false := decide_eq_false (by omega)
       rw [h]; rfl)

theorem specIsWay_call (l : List S2) (f t : Int) (w : List Int) (hl : l.length ≤ 1048576) (hw : w.length ≤ 1048576) : ACall Try.prog 16 [.slice ⟨0, 0, 0, 2, 0⟩ l.length, .int .i64 f, .int .i64 t, .slice ⟨1, 0, 0, 1, 0⟩ w.length] [.arr true .s2 l, .arr true .int w] (Is (.tuple [.bool (isWay l f t w), .bool (wayOk l f t w)]) [.arr true .s2 l, .arr true .int w]) := by
  refine ACall.walk T Try.func16 Try.ntmps16 Try.results16 rfl rfl rfl (Is.nv _ _) ?_
  repeat' (conv => whnf); first
    | refine AWP.seq ?_
    | refine AWP.reg T rfl ?_
    | refine AWP.drw T none rfl rfl rfl ?_
    | refine AWP.dep T none rfl rfl rfl rfl ?_
    | refine AWP.block ?_
    | refine AWP.condT rfl ?_
    | refine AWP.condF rfl ?_
    | refine AWP.cond rfl (fun hb => ?_) (fun hb => ?_)
    | refine AWP.ret ?_
    | refine AWP.exit ?_
    | refine AWP.skip ?_
    | refine GuardB.t ?_
    | refine GuardB.f ?_
    | refine GuardB.mk (fun hb => ?_) (fun hb => ?_)
    | refine NilQ.mk (fun hb => ?_) ?_
    | refine VC.mk Nat.zero_lt_one ?_
    | refine VC.mk rfl ?_
    | refine ACall.useIs [0] (l9Ask_call _ _ _ ?_) rfl (.cons (.same rfl rfl) (.nil _)) rfl ?_
    | refine AWP.while (ι := Nat) (fun k => St.of [(0, .slice ⟨0, 0, 0, 2, 0⟩ l.length), (1, .int .i64 f), (2, .int .i64 t), (3, .slice ⟨1, 0, 0, 1, 0⟩ w.length), (21, .slice ⟨1, 0, 0, 1, 0⟩ w.length), (22, .int .i64 w.length), (23, .int .i64 k)] [.arr true .s2 l, .arr true .int w]) (fun k => AllTo (idxB l w) w.length k) (fun k => w.length - k) 0 (AllTo.zero _ _)
        (Weak.of [0, 1] (.cons rfl rfl (.cons rfl rfl (.cons rfl rfl (.cons rfl rfl (.cons rfl rfl (.cons rfl rfl (.cons rfl rfl .nil))))))) (.cons (.same rfl rfl) (.cons (.same rfl rfl) (.nil _))) rfl) (fun k hk => ?_)
    | refine AWP.while (ι := Nat) (fun m => St.of [(0, .slice ⟨0, 0, 0, 2, 0⟩ l.length), (2, .int .i64 t), (12, .int .i64 (atW l f w m)), (13, .slice ⟨2, 0, 0, 1, 0⟩ (seenW l f w m).length), (39, .slice ⟨1, 0, 0, 1, 0⟩ w.length), (40, .int .i64 w.length), (41, .int .i64 m)] [.arr true .s2 l, .arr true .int w, .arr false .int (seenW l f w m)]) (fun m => wayOk l f t w = true ∧ AllTo (okW l f w) w.length m) (fun m => w.length - m) 0 ?_
        (Weak.of [0, 1, 2] (.cons rfl rfl (.cons rfl rfl (.cons rfl rfl (.cons rfl rfl (.cons rfl rfl (.cons rfl rfl (.cons rfl rfl .nil))))))) (.cons (.same rfl rfl) (.cons (.same rfl rfl) (.cons (.same rfl rfl) (.nil _)))) rfl) (fun m hm => ?_)
    | refine ACall.useIs [2] (l1Has_call _ _ ?_) rfl (.cons (.ro rfl rfl) (.nil _)) rfl ?_
    | refine Ret.bb [0, 1] ?_ ?_ (.cons (.same rfl rfl) (.cons (.same rfl rfl) (.nil _))) rfl
    | refine roundEnd (k + 1) ?_ ?_ (Weak.of [0, 1] (.cons rfl rfl (.cons rfl rfl (.cons rfl rfl (.cons rfl rfl (.cons rfl rfl (.cons rfl rfl (.cons rfl rfl .nil))))))) (.cons (.same rfl rfl) (.cons (.same rfl rfl) (.nil _))) rfl)
    | refine roundEnd (m + 1) ?_ ?_ (Weak.of [0, 1, 4] (.cons rfl rfl (.cons rfl rfl (.cons rfl rfl (.s rfl ?_ rfl (.cons rfl rfl (.cons rfl rfl (.cons rfl rfl .nil))))))) (.cons (.same rfl rfl) (.cons (.same rfl rfl) (.cons (.arr rfl ?_) (.nil _)))) rfl)
    | refine VC.mk ?_ ?_
  all_goals try simp only [decide_eq_true_eq, decide_eq_false_iff_not, Bool.not_eq_true', Bool.not_eq_false', cond_true, cond_false, eqB_true, eqB_false] at *
  all_goals try simp only [in64, idxAdd_zero_left, Int.toNat_natCast, fillTo_length, Int.ofNat_lt, Int.ofNat_le, Int.natCast_inj] at *
  all_goals try have hsl := seenW_len l f w m
  all_goals first
    | omega
    | exact hl
    | exact hw
    | rfl
    | (have := hk.1; omega)
    | (have := hm.2.1; omega)
    | exact ⟨by simp only [wayOk, hk.all (by omega), Bool.and_true]; assumption, AllTo.zero _ _⟩
    | (have hq := any_idx l w
       exact ⟨by simp_all [wayOk, linkAsk], AllTo.zero _ _⟩)
    | exact seenW_app _ _ _ _
    | (simp only [seenW_len]; done)
    | exact ⟨by omega, by omega⟩
    | exact ⟨by simp, by omega, by omega⟩
    | (rw [seenW_len]; omega)
    | exact hm.1.symm
    | (simp_all [isWay, wayOk, any_idx]; done)
    | (have hq := any_idx l w
       have h4 : wayOk l f t w = false := by (simp only [wayOk, linkAsk]; rw [← hq]; simp_all; done)
       first
       | (rw [h4]; done)
       | (rw [isWay, h4]; rfl))
    | (have h2 : k < w.length := by omega
       have h3 : idxB l w k = false := by (rw [← Bool.not_eq_true]; simp only [idxB, Bool.and_eq_true, decide_eq_true_eq]; omega)
       have h4 : wayOk l f t w = false := by rw [wayOk, not_all h2 h3, Bool.and_false]
       first | (rw [isWay, h4]; done) | (rw [h4]; done) | (simp [isWay, h4]; done))
    | (have h2 : k < w.length := by omega
       have h3 : idxB l w k = true := by (simp only [idxB, Bool.and_eq_true, decide_eq_true_eq]; omega)
       exact hk.next h2 h3)
    | (have h2 : m < w.length := by omega
       have h3 := wayOk_idx hm.1 h2
       simp only [idxB, Bool.and_eq_true, decide_eq_true_eq] at h3
       omega)
    | (have h2 : m < w.length := by omega
       have h3 : okW l f w m = false := by first | (rw [okW, decide_eq_false (by assumption)]; rfl) | (rw [okW, Bool.and_eq_false_iff]; right; rw [Bool.not_eq_false']; assumption)
       have h4 : isWay l f t w = false := by rw [isWay, not_all h2 h3, Bool.and_false]; rfl
       rw [h4])
    | (have h2 : m < w.length := by omega
       have h3 : okW l f w m = true := by (simp only [okW, Bool.and_eq_true, decide_eq_true_eq, Bool.not_eq_true']; exact ⟨by assumption, by assumption⟩)
       exact ⟨hm.1, hm.2.next h2 h3⟩)
    | (have e' := hm.2.all (by omega)
       have e2 : m = w.length := by have := hm.2.1; omega
       subst e2
       simp_all [isWay, wayOk, any_idx]; done)
    | (have h1 := hm.1; simp_all [isWay]; done)
    | (have e := hk.all (by omega)
       simp_all [isWay, wayOk, any_idx]; done)

theorem implIsWay_call (l : List S2) (f t : Int) (w : List Int) (hl : l.length ≤ 1048576) (hw : w.length ≤ 1048576) : ACall Try.prog 18 [.slice ⟨0, 0, 0, 2, 0⟩ l.length, .int .i64 f, .int .i64 t, .slice ⟨1, 0, 0, 1, 0⟩ w.length] [.arr true .s2 l, .arr true .int w] (Is (.tuple [.bool (isWay l f t w), .bool (wayOk l f t w)]) [.arr true .s2 l, .arr true .int w]) := by
  refine ACall.walk T Try.func18 Try.ntmps18 Try.results18 rfl rfl rfl (Is.nv _ _) ?_
  repeat' (conv => whnf); first
    | refine AWP.seq ?_
    | refine AWP.reg T rfl ?_
    | refine AWP.drw T none rfl rfl rfl ?_
    | refine AWP.dep T none rfl rfl rfl rfl ?_
    | refine AWP.block ?_
    | refine AWP.condT rfl ?_
    | refine AWP.condF rfl ?_
    | refine AWP.cond rfl (fun hb => ?_) (fun hb => ?_)
    | refine AWP.ret ?_
    | refine AWP.exit ?_
    | refine AWP.skip ?_
    | refine GuardB.t ?_
    | refine GuardB.f ?_
    | refine GuardB.mk (fun hb => ?_) (fun hb => ?_)
    | refine NilQ.mk (fun hb => ?_) ?_
    | refine VC.mk Nat.zero_lt_one ?_
    | refine VC.mk rfl ?_
    | refine ACall.useIs [0] (implGoodLinks_call _ ?_) rfl (.cons (.same rfl rfl) (.nil _)) rfl ?_
    | refine ACall.useIs [] (areUnlike_call _ _) rfl (.nil _) rfl ?_
    | refine ACall.useIs [1] (areOf_call _ _ _ ?_ ?_) rfl (.cons (.same rfl rfl) (.nil _)) rfl ?_
    | refine AWP.while (ι := Nat) (fun m => St.of [(0, .slice ⟨0, 0, 0, 2, 0⟩ l.length), (2, .int .i64 t), (10, .int .i64 (atW l f w m)), (11, .slice ⟨2, 0, 0, 1, 0⟩ (seenW l f w m).length), (35, .slice ⟨1, 0, 0, 1, 0⟩ w.length), (36, .int .i64 w.length), (37, .int .i64 m)] [.arr true .s2 l, .arr true .int w, .arr false .int (seenW l f w m)]) (fun m => wayOk l f t w = true ∧ AllTo (okW l f w) w.length m) (fun m => w.length - m) 0 ?_
        (Weak.of [0, 1, 2] (.cons rfl rfl (.cons rfl rfl (.cons rfl rfl (.cons rfl rfl (.cons rfl rfl (.cons rfl rfl (.cons rfl rfl .nil))))))) (.cons (.same rfl rfl) (.cons (.same rfl rfl) (.cons (.same rfl rfl) (.nil _)))) rfl) (fun m hm => ?_)
    | refine ACall.useIs [2] (slicesContains_call _ _ ?_) rfl (.cons (.ro rfl rfl) (.nil _)) rfl ?_
    | refine Ret.bb [0, 1] ?_ ?_ (.cons (.same rfl rfl) (.cons (.same rfl rfl) (.nil _))) rfl
    | refine roundEnd (m + 1) ?_ ?_ (Weak.of [0, 1, 4] (.cons rfl rfl (.cons rfl rfl (.cons rfl rfl (.s rfl ?_ rfl (.cons rfl rfl (.cons rfl rfl (.cons rfl rfl .nil))))))) (.cons (.same rfl rfl) (.cons (.same rfl rfl) (.cons (.arr rfl ?_) (.nil _)))) rfl)
    | refine VC.mk ?_ ?_
  all_goals try simp only [decide_eq_true_eq, decide_eq_false_iff_not, Bool.not_eq_true', Bool.not_eq_false', cond_true, cond_false, eqB_true, eqB_false] at *
  all_goals try simp only [in64, idxAdd_zero_left, Int.toNat_natCast, fillTo_length, Int.ofNat_lt, Int.ofNat_le, Int.natCast_inj] at *
  all_goals try have hsl := seenW_len l f w m
  all_goals first
    | omega
    | exact hl
    | exact hw
    | rfl
    | (have := hk.1; omega)
    | (have := hm.2.1; omega)
    | exact ⟨by simp only [wayOk, hk.all (by omega), Bool.and_true]; assumption, AllTo.zero _ _⟩
    | (have hq := any_idx l w
       exact ⟨by simp_all [wayOk, linkAsk], AllTo.zero _ _⟩)
    | exact seenW_app _ _ _ _
    | (simp only [seenW_len]; done)
    | exact ⟨by omega, by omega⟩
    | exact ⟨by simp, by omega, by omega⟩
    | (rw [seenW_len]; omega)
    | exact hm.1.symm
    | (simp_all [isWay, wayOk, any_idx]; done)
    | (have hq := any_idx l w
       have h4 : wayOk l f t w = false := by (simp only [wayOk, linkAsk]; rw [← hq]; simp_all; done)
       first
       | (rw [h4]; done)
       | (rw [isWay, h4]; rfl))
    | (have h2 : k < w.length := by omega
       have h3 : idxB l w k = false := by (rw [← Bool.not_eq_true]; simp only [idxB, Bool.and_eq_true, decide_eq_true_eq]; omega)
       have h4 : wayOk l f t w = false := by rw [wayOk, not_all h2 h3, Bool.and_false]
       first | (rw [isWay, h4]; done) | (rw [h4]; done) | (simp [isWay, h4]; done))
    | (have h2 : k < w.length := by omega
       have h3 : idxB l w k = true := by (simp only [idxB, Bool.and_eq_true, decide_eq_true_eq]; omega)
       exact hk.next h2 h3)
    | (have h2 : m < w.length := by omega
       have h3 := wayOk_idx hm.1 h2
       simp only [idxB, Bool.and_eq_true, decide_eq_true_eq] at h3
       omega)
    | (have h2 : m < w.length := by omega
       have h3 : okW l f w m = false := by first | (rw [okW, decide_eq_false (by assumption)]; rfl) | (rw [okW, Bool.and_eq_false_iff]; right; rw [Bool.not_eq_false']; assumption)
       have h4 : isWay l f t w = false := by rw [isWay, not_all h2 h3, Bool.and_false]; rfl
       rw [h4])
    | (have h2 : m < w.length := by omega
       have h3 : okW l f w m = true := by (simp only [okW, Bool.and_eq_true, decide_eq_true_eq, Bool.not_eq_true']; exact ⟨by assumption, by assumption⟩)
       exact ⟨hm.1, hm.2.next h2 h3⟩)
    | (have e' := hm.2.all (by omega)
       have e2 : m = w.length := by have := hm.2.1; omega
       subst e2
       simp_all [isWay, wayOk, any_idx]; done)
    | (have h1 := hm.1; simp_all [isWay]; done)
    | (have e := hk.all (by omega)
       simp_all [isWay, wayOk, any_idx]; done)

theorem lawIsWay_call (l : List S2) (f t : Int) (w : List Int) (hl : l.length ≤ 9223372036854775807) (hs : w.length ≤ 9223372036854775807) : ACall Try.prog 4 [.slice ⟨0, 0, 0, 2, 0⟩ l.length, .int .i64 f, .int .i64 t, .slice ⟨1, 0, 0, 1, 0⟩ w.length] [.arr true .s2 l, .arr true .int w] (Is (.bool true) [.arr true .s2 l, .arr true .int w]) := by
  refine ACall.walk T Try.func4 Try.ntmps4 Try.results4 rfl rfl rfl (Is.nv _ _) ?_
  repeat' (conv => whnf); first
    | refine AWP.seq ?_
    | refine AWP.reg T rfl ?_
    | refine AWP.drw T none rfl rfl rfl ?_
    | refine AWP.dep T none rfl rfl rfl rfl ?_
    | refine AWP.block ?_
    | refine AWP.condT rfl ?_
    | refine AWP.condF rfl ?_
    | refine AWP.cond rfl (fun hb => ?_) (fun hb => ?_)
    | refine AWP.ret ?_
    | refine AWP.exit ?_
    | refine AWP.skip ?_
    | refine GuardB.t ?_
    | refine GuardB.f ?_
    | refine GuardB.mk (fun hb => ?_) (fun hb => ?_)
    | refine NilQ.mk (fun hb => ?_) ?_
    | refine VC.mk Nat.zero_lt_one ?_
    | refine VC.mk rfl ?_
    | refine ACall.useIs [0] (szLinkS_call _ _ ?_ ?_) rfl (.cons (.same rfl rfl) (.nil _)) rfl ?_
    | refine ACall.useIs [0] (toLinkS_call _ ?_) rfl (.cons (.same rfl rfl) (.nil _)) rfl ?_
    | refine ACall.useIs [1] (toIntS_call _ ?_) rfl (.cons (.same rfl rfl) (.nil _)) rfl ?_
    | refine ACall.useIs [2, 3] (specIsWay_call _ _ _ _ ?_ ?_) rfl (.cons (.ro rfl rfl) (.cons (.ro rfl rfl) (.nil _))) rfl ?_
    | refine ACall.useIs [4, 5] (implIsWay_call _ _ _ _ ?_ ?_) rfl (.cons (.ro rfl rfl) (.cons (.ro rfl rfl) (.nil _))) rfl ?_
    | refine ACall.useIs [4, 6] (eqLinkS_call _ _ ?_) rfl (.cons (.ro rfl rfl) (.cons (.ro rfl rfl) (.nil _))) rfl ?_
    | refine ACall.useIs [5, 7] (eqIntS_call _ _ ?_) rfl (.cons (.ro rfl rfl) (.cons (.ro rfl rfl) (.nil _))) rfl ?_
    | refine Ret.bool [0, 1] ?_ (.cons (.same rfl rfl) (.cons (.same rfl rfl) (.nil _))) rfl
    | refine VC.mk ?_ ?_
  all_goals try simp only [decide_eq_true_eq, decide_eq_false_iff_not, Bool.not_eq_true', Bool.not_eq_false', cond_true, cond_false, eqB_true, eqB_false] at *
  all_goals try simp only [in64, idxAdd_zero_left, Int.toNat_natCast, fillTo_length, Int.ofNat_lt, Int.ofNat_le, Int.natCast_inj] at *
  all_goals first
    | rfl
    | omega
    | exact leftOf_ok (by assumption) (by omega)
    | simp_all [eqB]

end YtafalojjbghlhaaAM
