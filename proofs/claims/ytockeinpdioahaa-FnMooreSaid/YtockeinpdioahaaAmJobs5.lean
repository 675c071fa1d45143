/- Contracts of functions of this seat. -/
import Derived.Test.YtockeinpdioahaaAmTabJobs
import Derived.Test.YtockeinpdioahaaAmModels
import Derived.Test.YtockeinpdioahaaAmJobs4
set_option linter.unusedVariables false
set_option linter.unusedSimpArgs false
set_option maxRecDepth 100000
set_option maxHeartbeats 2000000
namespace YtockeinpdioahaaAM
open Go Go.Proofs
attribute [local irreducible] foldN sortNK sortIK sortN sortI midLK insK rangeI goodJobs ordB lateM lateN sumL endK lateK manyK joB loL lnL lng due

theorem l12Late_call (l : List S2) (o : List Int) (hl : l.length ≤ 1048576) (ho : o.length ≤ 1048576) (hj : joB l o = true) : ACall Try.prog 63 [.slice ⟨0, 0, 0, 2, 0⟩ l.length, .slice ⟨1, 0, 0, 1, 0⟩ o.length] [.arr true .s2 l, .arr true .int o] (Is (.tuple [.int .i64 (lateM (lng l) (due l) o), .int .i64 (lateN (lng l) (due l) o 0 : Nat)]) [.arr true .s2 l, .arr true .int o]) := by
  refine ACall.walk T Try.func63 Try.ntmps63 Try.results63 rfl rfl rfl (Is.nv _ _) ?_
  repeat' (conv => whnf); first
    | refine AWP.seq ?_
    | refine AWP.reg T rfl ?_
    | refine AWP.drw T none rfl rfl rfl ?_
    | refine AWP.dep T none rfl rfl rfl rfl ?_
    | refine AWP.block ?_
    | refine AWP.condT rfl ?_
    | refine AWP.condF rfl ?_
    | refine AWP.cond rfl (fun hb => ?_) (fun hb => ?_)
    | refine AWP.ret ?_
    | refine AWP.exit ?_
    | refine AWP.skip ?_
    | refine GuardB.t ?_
    | refine GuardB.f ?_
    | refine GuardB.mk (fun hb => ?_) (fun hb => ?_)
    | refine NilQ.mk (fun hb => ?_) ?_
    | refine VC.mk Nat.zero_lt_one ?_
    | refine VC.mk rfl ?_
    | refine AWP.while (ι := Nat) (fun k => St.of [(0, .slice ⟨0, 0, 0, 2, 0⟩ l.length), (6, .int .i64 (endK l o k)), (7, .int .i64 (lateK l o k)), (8, .int .i64 (manyK l o k)), (12, .slice ⟨1, 0, 0, 1, 0⟩ o.length), (13, .int .i64 o.length), (14, .int .i64 k)] [.arr true .s2 l, .arr true .int o]) (fun k => k ≤ o.length) (fun k => o.length - k) 0 (Nat.zero_le _)
        (Weak.of [0, 1] (.cons rfl rfl (.i rfl ?_ (.i rfl ?_ (.i rfl ?_ (.cons rfl rfl (.cons rfl rfl (.cons rfl rfl .nil))))))) (.cons (.same rfl rfl) (.cons (.same rfl rfl) (.nil _))) rfl) (fun k hk => ?_)
    | refine roundEnd (k + 1) ?_ ?_ (Weak.of [0, 1] (.cons rfl rfl (.i rfl ?_ (.i rfl ?_ (.i rfl ?_ (.cons rfl rfl (.cons rfl rfl (.cons rfl rfl .nil))))))) (.cons (.same rfl rfl) (.cons (.same rfl rfl) (.nil _))) rfl)
    | refine Ret.ii [0, 1] rfl ?_ ?_ (.cons (.same rfl rfl) (.cons (.same rfl rfl) (.nil _))) rfl
    | refine VC.mk ?_ ?_
  all_goals try simp only [decide_eq_true_eq, decide_eq_false_iff_not, Bool.not_eq_true', Bool.not_eq_false', cond_true, cond_false, eqB_true, eqB_false] at *
  all_goals try simp only [in64, idxAdd_zero_left, Int.toNat_natCast, fillTo_length, Int.ofNat_lt, Int.ofNat_le, Int.natCast_inj] at *
  all_goals try simp only [due_eq, lng_eq] at *
  all_goals try
    have hj : joB l o = true := by assumption
    have hjl := joB_le hj
    have hjn := joB_len hj
  all_goals try
    have hek := endK_rng hj k (by omega)
    have hlk := lateK_rng hj k (by omega)
    have hmk := manyK_le (l := l) (o := o) k (by omega)
  all_goals try
    have hk2 : k < o.length := by omega
    have hjr := joB_range hj hk2
    have hja := job_range (joB_good hj) hjr
    have hen := endK_next (l := l) hk2
    have hln := lateK_next (l := l) hk2
    have hmn := manyK_next (l := l) hk2
    have hek2 := endK_rng hj (k + 1) (by omega)
  all_goals try
    have hke : k = o.length := by omega
    have hla := lateK_all (l := l) (o := o) (k := k) (by omega)
    have hma := manyK_all (l := l) (o := o) (k := k) (by omega)
  all_goals first
    | omega
    | rfl
    | exact hl
    | exact ho
    | assumption
    | exact ⟨by omega, by omega⟩
    | exact congrArg (AV.int .i64) (by omega)
    | exact endK_zero.symm
    | exact lateK_zero.symm
    | (rw [manyK_zero]; done)
    | (rw [manyK_zero]; rfl)
    | exact Eq.symm (by assumption)
    | exact (loL_yes hj).symm
    | exact (lnL_yes hj).symm
    | exact (loL_no (by assumption)).symm
    | exact (lnL_no (by assumption)).symm
    | (rw [joB_yes (by assumption) (by assumption)]; done)
    | (rw [hj]; done)
    | (rw [loL_yes hj]; omega)
    | (rw [lnL_yes hj]; omega)
    | (rw [loL_no (by assumption)]; done)
    | (rw [lnL_no (by assumption)]; done)
    | (rw [hmn, if_pos (by omega)]; omega)
    | (rw [hmn, if_neg (by omega)]; omega)
    | (rw [hmn, if_neg (by omega)]; exact congrArg (AV.int .i64) (by omega))
    | (rw [hmn, if_pos (by omega)]; exact congrArg (AV.int .i64) (by omega))

theorem specLatenessOf_call (l : List S2) (o : List Int) (hl : l.length ≤ 1048576) (ho : o.length ≤ 1048576) : ACall Try.prog 32 [.slice ⟨0, 0, 0, 2, 0⟩ l.length, .slice ⟨1, 0, 0, 1, 0⟩ o.length] [.arr true .s2 l, .arr true .int o] (Is (.tuple [.int .i64 (loL l o), .bool (joB l o)]) [.arr true .s2 l, .arr true .int o]) := by
  refine ACall.walk T Try.func32 Try.ntmps32 Try.results32 rfl rfl rfl (Is.nv _ _) ?_
  repeat' (conv => whnf); first
    | refine AWP.seq ?_
    | refine AWP.reg T rfl ?_
    | refine AWP.drw T none rfl rfl rfl ?_
    | refine AWP.dep T none rfl rfl rfl rfl ?_
    | refine AWP.block ?_
    | refine AWP.condT rfl ?_
    | refine AWP.condF rfl ?_
    | refine AWP.cond rfl (fun hb => ?_) (fun hb => ?_)
    | refine AWP.ret ?_
    | refine AWP.exit ?_
    | refine AWP.skip ?_
    | refine GuardB.t ?_
    | refine GuardB.f ?_
    | refine GuardB.mk (fun hb => ?_) (fun hb => ?_)
    | refine NilQ.mk (fun hb => ?_) ?_
    | refine VC.mk Nat.zero_lt_one ?_
    | refine VC.mk rfl ?_
    | refine ACall.useIs [0, 1] (specIsJobOrder_call _ _ ?_ ?_) rfl (.cons (.same rfl rfl) (.cons (.same rfl rfl) (.nil _))) rfl ?_
    | refine ACall.useIs [0, 1] (l12Late_call _ _ ?_ ?_ ?_) rfl (.cons (.same rfl rfl) (.cons (.same rfl rfl) (.nil _))) rfl ?_
    | refine Ret.ib [0, 1] ?_ ?_ (.cons (.same rfl rfl) (.cons (.same rfl rfl) (.nil _))) rfl
    | refine VC.mk ?_ ?_
  all_goals try simp only [decide_eq_true_eq, decide_eq_false_iff_not, Bool.not_eq_true', Bool.not_eq_false', cond_true, cond_false, eqB_true, eqB_false] at *
  all_goals try simp only [in64, idxAdd_zero_left, Int.toNat_natCast, fillTo_length, Int.ofNat_lt, Int.ofNat_le, Int.natCast_inj] at *
  all_goals try simp only [due_eq, lng_eq] at *
  all_goals try
    have hj : joB l o = true := by assumption
    have hjl := joB_le hj
    have hjn := joB_len hj
  all_goals try
    have hek := endK_rng hj k (by omega)
    have hlk := lateK_rng hj k (by omega)
    have hmk := manyK_le (l := l) (o := o) k (by omega)
  all_goals try
    have hk2 : k < o.length := by omega
    have hjr := joB_range hj hk2
    have hja := job_range (joB_good hj) hjr
    have hen := endK_next (l := l) hk2
    have hln := lateK_next (l := l) hk2
    have hmn := manyK_next (l := l) hk2
    have hek2 := endK_rng hj (k + 1) (by omega)
  all_goals try
    have hke : k = o.length := by omega
    have hla := lateK_all (l := l) (o := o) (k := k) (by omega)
    have hma := manyK_all (l := l) (o := o) (k := k) (by omega)
  all_goals first
    | omega
    | rfl
    | exact hl
    | exact ho
    | assumption
    | exact ⟨by omega, by omega⟩
    | exact congrArg (AV.int .i64) (by omega)
    | exact endK_zero.symm
    | exact lateK_zero.symm
    | (rw [manyK_zero]; done)
    | (rw [manyK_zero]; rfl)
    | exact Eq.symm (by assumption)
    | exact (loL_yes hj).symm
    | exact (lnL_yes hj).symm
    | exact (loL_no (by assumption)).symm
    | exact (lnL_no (by assumption)).symm
    | (rw [joB_yes (by assumption) (by assumption)]; done)
    | (rw [hj]; done)
    | (rw [loL_yes hj]; omega)
    | (rw [lnL_yes hj]; omega)
    | (rw [loL_no (by assumption)]; done)
    | (rw [lnL_no (by assumption)]; done)
    | (rw [hmn, if_pos (by omega)]; omega)
    | (rw [hmn, if_neg (by omega)]; omega)
    | (rw [hmn, if_neg (by omega)]; exact congrArg (AV.int .i64) (by omega))
    | (rw [hmn, if_pos (by omega)]; exact congrArg (AV.int .i64) (by omega))

theorem specLateIn_call (l : List S2) (o : List Int) (hl : l.length ≤ 1048576) (ho : o.length ≤ 1048576) : ACall Try.prog 34 [.slice ⟨0, 0, 0, 2, 0⟩ l.length, .slice ⟨1, 0, 0, 1, 0⟩ o.length] [.arr true .s2 l, .arr true .int o] (Is (.tuple [.int .i64 (lnL l o), .bool (joB l o)]) [.arr true .s2 l, .arr true .int o]) := by
  refine ACall.walk T Try.func34 Try.ntmps34 Try.results34 rfl rfl rfl (Is.nv _ _) ?_
  repeat' (conv => whnf); first
    | refine AWP.seq ?_
    | refine AWP.reg T rfl ?_
    | refine AWP.drw T none rfl rfl rfl ?_
    | refine AWP.dep T none rfl rfl rfl rfl ?_
    | refine AWP.block ?_
    | refine AWP.condT rfl ?_
    | refine AWP.condF rfl ?_
    | refine AWP.cond rfl (fun hb => ?_) (fun hb => ?_)
    | refine AWP.ret ?_
    | refine AWP.exit ?_
    | refine AWP.skip ?_
    | refine GuardB.t ?_
    | refine GuardB.f ?_
    | refine GuardB.mk (fun hb => ?_) (fun hb => ?_)
    | refine NilQ.mk (fun hb => ?_) ?_
    | refine VC.mk Nat.zero_lt_one ?_
    | refine VC.mk rfl ?_
    | refine ACall.useIs [0, 1] (specIsJobOrder_call _ _ ?_ ?_) rfl (.cons (.same rfl rfl) (.cons (.same rfl rfl) (.nil _))) rfl ?_
    | refine ACall.useIs [0, 1] (l12Late_call _ _ ?_ ?_ ?_) rfl (.cons (.same rfl rfl) (.cons (.same rfl rfl) (.nil _))) rfl ?_
    | refine Ret.ib [0, 1] ?_ ?_ (.cons (.same rfl rfl) (.cons (.same rfl rfl) (.nil _))) rfl
    | refine VC.mk ?_ ?_
  all_goals try simp only [decide_eq_true_eq, decide_eq_false_iff_not, Bool.not_eq_true', Bool.not_eq_false', cond_true, cond_false, eqB_true, eqB_false] at *
  all_goals try simp only [in64, idxAdd_zero_left, Int.toNat_natCast, fillTo_length, Int.ofNat_lt, Int.ofNat_le, Int.natCast_inj] at *
  all_goals try simp only [due_eq, lng_eq] at *
  all_goals try
    have hj : joB l o = true := by assumption
    have hjl := joB_le hj
    have hjn := joB_len hj
  all_goals try
    have hek := endK_rng hj k (by omega)
    have hlk := lateK_rng hj k (by omega)
    have hmk := manyK_le (l := l) (o := o) k (by omega)
  all_goals try
    have hk2 : k < o.length := by omega
    have hjr := joB_range hj hk2
    have hja := job_range (joB_good hj) hjr
    have hen := endK_next (l := l) hk2
    have hln := lateK_next (l := l) hk2
    have hmn := manyK_next (l := l) hk2
    have hek2 := endK_rng hj (k + 1) (by omega)
  all_goals try
    have hke : k = o.length := by omega
    have hla := lateK_all (l := l) (o := o) (k := k) (by omega)
    have hma := manyK_all (l := l) (o := o) (k := k) (by omega)
  all_goals first
    | omega
    | rfl
    | exact hl
    | exact ho
    | assumption
    | exact ⟨by omega, by omega⟩
    | exact congrArg (AV.int .i64) (by omega)
    | exact endK_zero.symm
    | exact lateK_zero.symm
    | (rw [manyK_zero]; done)
    | (rw [manyK_zero]; rfl)
    | exact Eq.symm (by assumption)
    | exact (loL_yes hj).symm
    | exact (lnL_yes hj).symm
    | exact (loL_no (by assumption)).symm
    | exact (lnL_no (by assumption)).symm
    | (rw [joB_yes (by assumption) (by assumption)]; done)
    | (rw [hj]; done)
    | (rw [loL_yes hj]; omega)
    | (rw [lnL_yes hj]; omega)
    | (rw [loL_no (by assumption)]; done)
    | (rw [lnL_no (by assumption)]; done)
    | (rw [hmn, if_pos (by omega)]; omega)
    | (rw [hmn, if_neg (by omega)]; omega)
    | (rw [hmn, if_neg (by omega)]; exact congrArg (AV.int .i64) (by omega))
    | (rw [hmn, if_pos (by omega)]; exact congrArg (AV.int .i64) (by omega))

theorem implLatenessOf_call (l : List S2) (o : List Int) (hl : l.length ≤ 1048576) (ho : o.length ≤ 1048576) : ACall Try.prog 33 [.slice ⟨0, 0, 0, 2, 0⟩ l.length, .slice ⟨1, 0, 0, 1, 0⟩ o.length] [.arr true .s2 l, .arr true .int o] (Is (.tuple [.int .i64 (loL l o), .bool (joB l o)]) [.arr true .s2 l, .arr true .int o]) := by
  refine ACall.walk T Try.func33 Try.ntmps33 Try.results33 rfl rfl rfl (Is.nv _ _) ?_
  repeat' (conv => whnf); first
    | refine AWP.seq ?_
    | refine AWP.reg T rfl ?_
    | refine AWP.drw T none rfl rfl rfl ?_
    | refine AWP.dep T none rfl rfl rfl rfl ?_
    | refine AWP.block ?_
    | refine AWP.condT rfl ?_
    | refine AWP.condF rfl ?_
    | refine AWP.cond rfl (fun hb => ?_) (fun hb => ?_)
    | refine AWP.ret ?_
    | refine AWP.exit ?_
    | refine AWP.skip ?_
    | refine GuardB.t ?_
    | refine GuardB.f ?_
    | refine GuardB.mk (fun hb => ?_) (fun hb => ?_)
    | refine NilQ.mk (fun hb => ?_) ?_
    | refine VC.mk Nat.zero_lt_one ?_
    | refine VC.mk rfl ?_
    | refine ACall.useIs [0, 1] (implIsJobOrder_call _ _ ?_ ?_) rfl (.cons (.same rfl rfl) (.cons (.same rfl rfl) (.nil _))) rfl ?_
    | refine AWP.while (ι := Nat) (fun k => St.of [(0, .slice ⟨0, 0, 0, 2, 0⟩ l.length), (6, .int .i64 (endK l o k)), (7, .int .i64 (lateK l o k)), (14, .slice ⟨1, 0, 0, 1, 0⟩ o.length), (15, .int .i64 o.length), (16, .int .i64 k)] [.arr true .s2 l, .arr true .int o]) (fun k => k ≤ o.length) (fun k => o.length - k) 0 (Nat.zero_le _)
        (Weak.of [0, 1] (.cons rfl rfl (.i rfl ?_ (.i rfl ?_ (.cons rfl rfl (.cons rfl rfl (.cons rfl rfl .nil)))))) (.cons (.same rfl rfl) (.cons (.same rfl rfl) (.nil _))) rfl) (fun k hk => ?_)
    | refine roundEnd (k + 1) ?_ ?_ (Weak.of [0, 1] (.cons rfl rfl (.i rfl ?_ (.i rfl ?_ (.cons rfl rfl (.cons rfl rfl (.cons rfl rfl .nil)))))) (.cons (.same rfl rfl) (.cons (.same rfl rfl) (.nil _))) rfl)
    | refine Ret.ib [0, 1] ?_ ?_ (.cons (.same rfl rfl) (.cons (.same rfl rfl) (.nil _))) rfl
    | refine VC.mk ?_ ?_
  all_goals try simp only [decide_eq_true_eq, decide_eq_false_iff_not, Bool.not_eq_true', Bool.not_eq_false', cond_true, cond_false, eqB_true, eqB_false] at *
  all_goals try simp only [in64, idxAdd_zero_left, Int.toNat_natCast, fillTo_length, Int.ofNat_lt, Int.ofNat_le, Int.natCast_inj] at *
  all_goals try simp only [due_eq, lng_eq] at *
  all_goals try
    have hj : joB l o = true := by assumption
    have hjl := joB_le hj
    have hjn := joB_len hj
  all_goals try
    have hek := endK_rng hj k (by omega)
    have hlk := lateK_rng hj k (by omega)
    have hmk := manyK_le (l := l) (o := o) k (by omega)
  all_goals try
    have hk2 : k < o.length := by omega
    have hjr := joB_range hj hk2
    have hja := job_range (joB_good hj) hjr
    have hen := endK_next (l := l) hk2
    have hln := lateK_next (l := l) hk2
    have hmn := manyK_next (l := l) hk2
    have hek2 := endK_rng hj (k + 1) (by omega)
  all_goals try
    have hke : k = o.length := by omega
    have hla := lateK_all (l := l) (o := o) (k := k) (by omega)
    have hma := manyK_all (l := l) (o := o) (k := k) (by omega)
  all_goals first
    | omega
    | rfl
    | exact hl
    | exact ho
    | assumption
    | exact ⟨by omega, by omega⟩
    | exact congrArg (AV.int .i64) (by omega)
    | exact endK_zero.symm
    | exact lateK_zero.symm
    | (rw [manyK_zero]; done)
    | (rw [manyK_zero]; rfl)
    | exact Eq.symm (by assumption)
    | exact (loL_yes hj).symm
    | exact (lnL_yes hj).symm
    | exact (loL_no (by assumption)).symm
    | exact (lnL_no (by assumption)).symm
    | (rw [joB_yes (by assumption) (by assumption)]; done)
    | (rw [hj]; done)
    | (rw [loL_yes hj]; omega)
    | (rw [lnL_yes hj]; omega)
    | (rw [loL_no (by assumption)]; done)
    | (rw [lnL_no (by assumption)]; done)
    | (rw [hmn, if_pos (by omega)]; omega)
    | (rw [hmn, if_neg (by omega)]; omega)
    | (rw [hmn, if_neg (by omega)]; exact congrArg (AV.int .i64) (by omega))
    | (rw [hmn, if_pos (by omega)]; exact congrArg (AV.int .i64) (by omega))

theorem implLateIn_call (l : List S2) (o : List Int) (hl : l.length ≤ 1048576) (ho : o.length ≤ 1048576) : ACall Try.prog 35 [.slice ⟨0, 0, 0, 2, 0⟩ l.length, .slice ⟨1, 0, 0, 1, 0⟩ o.length] [.arr true .s2 l, .arr true .int o] (Is (.tuple [.int .i64 (lnL l o), .bool (joB l o)]) [.arr true .s2 l, .arr true .int o]) := by
  refine ACall.walk T Try.func35 Try.ntmps35 Try.results35 rfl rfl rfl (Is.nv _ _) ?_
  repeat' (conv => whnf); first
    | refine AWP.seq ?_
    | refine AWP.reg T rfl ?_
    | refine AWP.drw T none rfl rfl rfl ?_
    | refine AWP.dep T none rfl rfl rfl rfl ?_
    | refine AWP.block ?_
    | refine AWP.condT rfl ?_
    | refine AWP.condF rfl ?_
    | refine AWP.cond rfl (fun hb => ?_) (fun hb => ?_)
    | refine AWP.ret ?_
    | refine AWP.exit ?_
    | refine AWP.skip ?_
    | refine GuardB.t ?_
    | refine GuardB.f ?_
    | refine GuardB.mk (fun hb => ?_) (fun hb => ?_)
    | refine NilQ.mk (fun hb => ?_) ?_
    | refine VC.mk Nat.zero_lt_one ?_
    | refine VC.mk rfl ?_
    | refine ACall.useIs [0, 1] (implIsJobOrder_call _ _ ?_ ?_) rfl (.cons (.same rfl rfl) (.cons (.same rfl rfl) (.nil _))) rfl ?_
    | refine AWP.while (ι := Nat) (fun k => St.of [(0, .slice ⟨0, 0, 0, 2, 0⟩ l.length), (6, .int .i64 (endK l o k)), (7, .int .i64 (manyK l o k)), (14, .slice ⟨1, 0, 0, 1, 0⟩ o.length), (15, .int .i64 o.length), (16, .int .i64 k)] [.arr true .s2 l, .arr true .int o]) (fun k => k ≤ o.length) (fun k => o.length - k) 0 (Nat.zero_le _)
        (Weak.of [0, 1] (.cons rfl rfl (.i rfl ?_ (.i rfl ?_ (.cons rfl rfl (.cons rfl rfl (.cons rfl rfl .nil)))))) (.cons (.same rfl rfl) (.cons (.same rfl rfl) (.nil _))) rfl) (fun k hk => ?_)
    | refine roundEnd (k + 1) ?_ ?_ (Weak.of [0, 1] (.cons rfl rfl (.i rfl ?_ (.i rfl ?_ (.cons rfl rfl (.cons rfl rfl (.cons rfl rfl .nil)))))) (.cons (.same rfl rfl) (.cons (.same rfl rfl) (.nil _))) rfl)
    | refine Ret.ib [0, 1] ?_ ?_ (.cons (.same rfl rfl) (.cons (.same rfl rfl) (.nil _))) rfl
    | refine VC.mk ?_ ?_
  all_goals try simp only [decide_eq_true_eq, decide_eq_false_iff_not, Bool.not_eq_true', Bool.not_eq_false', cond_true, cond_false, eqB_true, eqB_false] at *
  all_goals try simp only [in64, idxAdd_zero_left, Int.toNat_natCast, fillTo_length, Int.ofNat_lt, Int.ofNat_le, Int.natCast_inj] at *
  all_goals try simp only [due_eq, lng_eq] at *
  all_goals try
    have hj : joB l o = true := by assumption
    have hjl := joB_le hj
    have hjn := joB_len hj
  all_goals try
    have hek := endK_rng hj k (by omega)
    have hlk := lateK_rng hj k (by omega)
    have hmk := manyK_le (l := l) (o := o) k (by omega)
  all_goals try
    have hk2 : k < o.length := by omega
    have hjr := joB_range hj hk2
    have hja := job_range (joB_good hj) hjr
    have hen := endK_next (l := l) hk2
    have hln := lateK_next (l := l) hk2
    have hmn := manyK_next (l := l) hk2
    have hek2 := endK_rng hj (k + 1) (by omega)
  all_goals try
    have hke : k = o.length := by omega
    have hla := lateK_all (l := l) (o := o) (k := k) (by omega)
    have hma := manyK_all (l := l) (o := o) (k := k) (by omega)
  all_goals first
    | omega
    | rfl
    | exact hl
    | exact ho
    | assumption
    | exact ⟨by omega, by omega⟩
    | exact congrArg (AV.int .i64) (by omega)
    | exact endK_zero.symm
    | exact lateK_zero.symm
    | (rw [manyK_zero]; done)
    | (rw [manyK_zero]; rfl)
    | exact Eq.symm (by assumption)
    | exact (loL_yes hj).symm
    | exact (lnL_yes hj).symm
    | exact (loL_no (by assumption)).symm
    | exact (lnL_no (by assumption)).symm
    | (rw [joB_yes (by assumption) (by assumption)]; done)
    | (rw [hj]; done)
    | (rw [loL_yes hj]; omega)
    | (rw [lnL_yes hj]; omega)
    | (rw [loL_no (by assumption)]; done)
    | (rw [lnL_no (by assumption)]; done)
    | (rw [hmn, if_pos (by omega)]; omega)
    | (rw [hmn, if_neg (by omega)]; omega)
    | (rw [hmn, if_neg (by omega)]; exact congrArg (AV.int .i64) (by omega))
    | (rw [hmn, if_pos (by omega)]; exact congrArg (AV.int .i64) (by omega))

theorem lawIsJobOrder_call (l : List S2) (o : List Int) (hl : l.length ≤ 9223372036854775807) (ho : o.length ≤ 9223372036854775807) : ACall Try.prog 7 [.slice ⟨0, 0, 0, 2, 0⟩ l.length, .slice ⟨1, 0, 0, 1, 0⟩ o.length] [.arr true .s2 l, .arr true .int o] (Is (.bool true) [.arr true .s2 l, .arr true .int o]) := by
  refine ACall.walk T Try.func7 Try.ntmps7 Try.results7 rfl rfl rfl (Is.nv _ _) ?_
  repeat' (conv => whnf); first
    | refine AWP.seq ?_
    | refine AWP.reg T rfl ?_
    | refine AWP.drw T none rfl rfl rfl ?_
    | refine AWP.dep T none rfl rfl rfl rfl ?_
    | refine AWP.block ?_
    | refine AWP.condT rfl ?_
    | refine AWP.condF rfl ?_
    | refine AWP.cond rfl (fun hb => ?_) (fun hb => ?_)
    | refine AWP.ret ?_
    | refine AWP.exit ?_
    | refine AWP.skip ?_
    | refine GuardB.t ?_
    | refine GuardB.f ?_
    | refine GuardB.mk (fun hb => ?_) (fun hb => ?_)
    | refine NilQ.mk (fun hb => ?_) ?_
    | refine VC.mk Nat.zero_lt_one ?_
    | refine VC.mk rfl ?_
    | refine ACall.useIs [0] (szJobS_call _ _ ?_ ?_) rfl (.cons (.same rfl rfl) (.nil _)) rfl ?_
    | refine ACall.useIs [0] (toJobS_call _ ?_) rfl (.cons (.same rfl rfl) (.nil _)) rfl ?_
    | refine ACall.useIs [1] (toIntS_call _ ?_) rfl (.cons (.same rfl rfl) (.nil _)) rfl ?_
    | refine ACall.useIs [2, 3] (specIsJobOrder_call _ _ ?_ ?_) rfl (.cons (.ro rfl rfl) (.cons (.ro rfl rfl) (.nil _))) rfl ?_
    | refine ACall.useIs [4, 5] (implIsJobOrder_call _ _ ?_ ?_) rfl (.cons (.ro rfl rfl) (.cons (.ro rfl rfl) (.nil _))) rfl ?_
    | refine ACall.useIs [4, 6] (eqJobS_call _ _ ?_) rfl (.cons (.ro rfl rfl) (.cons (.ro rfl rfl) (.nil _))) rfl ?_
    | refine ACall.useIs [5, 7] (eqIntS_call _ _ ?_) rfl (.cons (.ro rfl rfl) (.cons (.ro rfl rfl) (.nil _))) rfl ?_
    | refine Ret.bool [0, 1] ?_ (.cons (.same rfl rfl) (.cons (.same rfl rfl) (.nil _))) rfl
    | refine VC.mk ?_ ?_
  all_goals try simp only [decide_eq_true_eq, decide_eq_false_iff_not, Bool.not_eq_true', Bool.not_eq_false', cond_true, cond_false, eqB_true, eqB_false] at *
  all_goals try simp only [in64, idxAdd_zero_left, Int.toNat_natCast, fillTo_length, Int.ofNat_lt, Int.ofNat_le, Int.natCast_inj] at *
  all_goals first
    | rfl
    | omega
    | exact leftOf_ok (by assumption) (by omega)
    | (have := leftOf_ok (by assumption) (by omega : (1048576 : Int) ≤ 1048576); omega)
    | (simp_all [eqB]; done)
    | (simp_all [eqB]; omega)

theorem lawLatenessOf_call (l : List S2) (o : List Int) (hl : l.length ≤ 9223372036854775807) (ho : o.length ≤ 9223372036854775807) : ACall Try.prog 8 [.slice ⟨0, 0, 0, 2, 0⟩ l.length, .slice ⟨1, 0, 0, 1, 0⟩ o.length] [.arr true .s2 l, .arr true .int o] (Is (.bool true) [.arr true .s2 l, .arr true .int o]) := by
  refine ACall.walk T Try.func8 Try.ntmps8 Try.results8 rfl rfl rfl (Is.nv _ _) ?_
  repeat' (conv => whnf); first
    | refine AWP.seq ?_
    | refine AWP.reg T rfl ?_
    | refine AWP.drw T none rfl rfl rfl ?_
    | refine AWP.dep T none rfl rfl rfl rfl ?_
    | refine AWP.block ?_
    | refine AWP.condT rfl ?_
    | refine AWP.condF rfl ?_
    | refine AWP.cond rfl (fun hb => ?_) (fun hb => ?_)
    | refine AWP.ret ?_
    | refine AWP.exit ?_
    | refine AWP.skip ?_
    | refine GuardB.t ?_
    | refine GuardB.f ?_
    | refine GuardB.mk (fun hb => ?_) (fun hb => ?_)
    | refine NilQ.mk (fun hb => ?_) ?_
    | refine VC.mk Nat.zero_lt_one ?_
    | refine VC.mk rfl ?_
    | refine ACall.useIs [0] (szJobS_call _ _ ?_ ?_) rfl (.cons (.same rfl rfl) (.nil _)) rfl ?_
    | refine ACall.useIs [0] (toJobS_call _ ?_) rfl (.cons (.same rfl rfl) (.nil _)) rfl ?_
    | refine ACall.useIs [1] (toIntS_call _ ?_) rfl (.cons (.same rfl rfl) (.nil _)) rfl ?_
    | refine ACall.useIs [2, 3] (specLatenessOf_call _ _ ?_ ?_) rfl (.cons (.ro rfl rfl) (.cons (.ro rfl rfl) (.nil _))) rfl ?_
    | refine ACall.useIs [4, 5] (implLatenessOf_call _ _ ?_ ?_) rfl (.cons (.ro rfl rfl) (.cons (.ro rfl rfl) (.nil _))) rfl ?_
    | refine ACall.useIs [4, 6] (eqJobS_call _ _ ?_) rfl (.cons (.ro rfl rfl) (.cons (.ro rfl rfl) (.nil _))) rfl ?_
    | refine ACall.useIs [5, 7] (eqIntS_call _ _ ?_) rfl (.cons (.ro rfl rfl) (.cons (.ro rfl rfl) (.nil _))) rfl ?_
    | refine Ret.bool [0, 1] ?_ (.cons (.same rfl rfl) (.cons (.same rfl rfl) (.nil _))) rfl
    | refine VC.mk ?_ ?_
  all_goals try simp only [decide_eq_true_eq, decide_eq_false_iff_not, Bool.not_eq_true', Bool.not_eq_false', cond_true, cond_false, eqB_true, eqB_false] at *
  all_goals try simp only [in64, idxAdd_zero_left, Int.toNat_natCast, fillTo_length, Int.ofNat_lt, Int.ofNat_le, Int.natCast_inj] at *
  all_goals first
    | rfl
    | omega
    | exact leftOf_ok (by assumption) (by omega)
    | (have := leftOf_ok (by assumption) (by omega : (1048576 : Int) ≤ 1048576); omega)
    | (simp_all [eqB]; done)
    | (simp_all [eqB]; omega)

theorem lawLateIn_call (l : List S2) (o : List Int) (hl : l.length ≤ 9223372036854775807) (ho : o.length ≤ 9223372036854775807) : ACall Try.prog 9 [.slice ⟨0, 0, 0, 2, 0⟩ l.length, .slice ⟨1, 0, 0, 1, 0⟩ o.length] [.arr true .s2 l, .arr true .int o] (Is (.bool true) [.arr true .s2 l, .arr true .int o]) := by
  refine ACall.walk T Try.func9 Try.ntmps9 Try.results9 rfl rfl rfl (Is.nv _ _) ?_
  repeat' (conv => whnf); first
    | refine AWP.seq ?_
    | refine AWP.reg T rfl ?_
    | refine AWP.drw T none rfl rfl rfl ?_
    | refine AWP.dep T none rfl rfl rfl rfl ?_
    | refine AWP.block ?_
    | refine AWP.condT rfl ?_
    | refine AWP.condF rfl ?_
    | refine AWP.cond rfl (fun hb => ?_) (fun hb => ?_)
    | refine AWP.ret ?_
    | refine AWP.exit ?_
    | refine AWP.skip ?_
    | refine GuardB.t ?_
    | refine GuardB.f ?_
    | refine GuardB.mk (fun hb => ?_) (fun hb => ?_)
    | refine NilQ.mk (fun hb => ?_) ?_
    | refine VC.mk Nat.zero_lt_one ?_
    | refine VC.mk rfl ?_
    | refine ACall.useIs [0] (szJobS_call _ _ ?_ ?_) rfl (.cons (.same rfl rfl) (.nil _)) rfl ?_
    | refine ACall.useIs [0] (toJobS_call _ ?_) rfl (.cons (.same rfl rfl) (.nil _)) rfl ?_
    | refine ACall.useIs [1] (toIntS_call _ ?_) rfl (.cons (.same rfl rfl) (.nil _)) rfl ?_
    | refine ACall.useIs [2, 3] (specLateIn_call _ _ ?_ ?_) rfl (.cons (.ro rfl rfl) (.cons (.ro rfl rfl) (.nil _))) rfl ?_
    | refine ACall.useIs [4, 5] (implLateIn_call _ _ ?_ ?_) rfl (.cons (.ro rfl rfl) (.cons (.ro rfl rfl) (.nil _))) rfl ?_
    | refine ACall.useIs [4, 6] (eqJobS_call _ _ ?_) rfl (.cons (.ro rfl rfl) (.cons (.ro rfl rfl) (.nil _))) rfl ?_
    | refine ACall.useIs [5, 7] (eqIntS_call _ _ ?_) rfl (.cons (.ro rfl rfl) (.cons (.ro rfl rfl) (.nil _))) rfl ?_
    | refine Ret.bool [0, 1] ?_ (.cons (.same rfl rfl) (.cons (.same rfl rfl) (.nil _))) rfl
    | refine VC.mk ?_ ?_
  all_goals try simp only [decide_eq_true_eq, decide_eq_false_iff_not, Bool.not_eq_true', Bool.not_eq_false', cond_true, cond_false, eqB_true, eqB_false] at *
  all_goals try simp only [in64, idxAdd_zero_left, Int.toNat_natCast, fillTo_length, Int.ofNat_lt, Int.ofNat_le, Int.natCast_inj] at *
  all_goals first
    | rfl
    | omega
    | exact leftOf_ok (by assumption) (by omega)
    | (have := leftOf_ok (by assumption) (by omega : (1048576 : Int) ≤ 1048576); omega)
    | (simp_all [eqB]; done)
    | (simp_all [eqB]; omega)

end YtockeinpdioahaaAM
