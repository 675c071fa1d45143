/- Contracts of functions of this seat. -/
import Derived.Test.YtockeinpdioahaaAmTabJobs
import Derived.Test.YtockeinpdioahaaAmModels
import Derived.Test.YtockeinpdioahaaAmJobs5
import Derived.Test.YtockeinpdioahaaAmJobDel
set_option linter.unusedVariables false
set_option linter.unusedSimpArgs false
set_option maxRecDepth 100000
set_option maxHeartbeats 4000000
namespace YtockeinpdioahaaAM
open Go Go.Proofs
attribute [local irreducible] foldN sortNK sortIK sortN sortI midLK insK rangeI goodJobs ordB lateM lateN sumL lng due mooJ mooT ftS longN byA mooA flL

theorem mooA_of {l : List S2} {k : Nat} (h : k = (byA l).length) : mooJ l k = mooA l := by rw [h]; unfold mooA; rfl
theorem implByA_call (l : List S2) (n : Nat) (hn : n = (rangeI l.length).length) (hg : goodJobs l = true) : ACall Try.prog 52 [.slice ⟨0, 0, 0, 2, 0⟩ l.length, .slice ⟨1, 0, 0, 1, 0⟩ n] [.arr true .s2 l, .arr true .int (rangeI l.length)] (Is (.slice ⟨2, 0, 0, 1, 0⟩ n) [.arr true .s2 l, .arr true .int (rangeI l.length), .arr false .int (byA l)]) := by
  have hgl := goodJobs_len hg
  unfold byA
  exact implByDueS2_call l (rangeI l.length) n hn hg (by rw [rangeI_length]; omega) (fun y hy => rangeI_mem.1 hy)
theorem specByA_call (l : List S2) (n : Nat) (hn : n = (rangeI l.length).length) (hg : goodJobs l = true) : ACall Try.prog 50 [.slice ⟨0, 0, 0, 2, 0⟩ l.length, .slice ⟨1, 0, 0, 1, 0⟩ n] [.arr true .s2 l, .arr true .int (rangeI l.length)] (Is (.slice ⟨2, 0, 0, 1, 0⟩ n) [.arr true .s2 l, .arr true .int (rangeI l.length), .arr false .int (byA l)]) := by
  have hgl := goodJobs_len hg
  unfold byA
  exact l12By2_call l (rangeI l.length) n hn hg (by rw [rangeI_length]; omega) (fun y hy => rangeI_mem.1 hy)

theorem fewestLate_call (l : List S2) (hg : goodJobs l = true) (hl : l.length ≤ 1048576) : ACall Try.prog 65 [.slice ⟨0, 0, 0, 2, 0⟩ l.length] [.arr true .s2 l] (Is (.slice ⟨1, 0, 0, 1, 0⟩ (mooA l).length) [.arr true .s2 l, .arr false .int (sortI (mooA l))]) := by
  refine ACall.walk T Try.func65 Try.ntmps65 Try.results65 rfl rfl rfl (Is.nv _ _) ?_
  repeat' (conv => whnf); first
    | refine AWP.seq ?_
    | refine AWP.reg T rfl ?_
    | refine AWP.drw T none rfl rfl rfl ?_
    | refine AWP.dep T none rfl rfl rfl rfl ?_
    | refine AWP.block ?_
    | refine AWP.condT rfl ?_
    | refine AWP.condF rfl ?_
    | refine AWP.cond rfl (fun hb => ?_) (fun hb => ?_)
    | refine AWP.ret ?_
    | refine AWP.exit ?_
    | refine AWP.skip ?_
    | refine GuardB.t ?_
    | refine GuardB.f ?_
    | refine GuardB.mk (fun hb => ?_) (fun hb => ?_)
    | refine NilQ.mk (fun hb => ?_) ?_
    | refine VC.mk Nat.zero_lt_one ?_
    | refine VC.mk rfl ?_
    | refine ACall.useIs [] (numbered_call _ ?_) rfl (.nil _) rfl ?_
    | refine ACall.useIs [0, 3] (implByA_call l l.length ?_ hg) rfl (.cons (.same rfl rfl) (.cons (.ro rfl rfl) (.nil _))) rfl ?_
    | refine AWP.while (ι := Nat) (fun i => St.of [(0, .slice ⟨0, 0, 0, 2, 0⟩ l.length), (3, .slice ⟨1, 0, 0, 1, 0⟩ (mooT l k).length), (4, .int .i64 (ftS l k + lng l ((byA l).getD k 0))), (15, .slice ⟨2, 0, 0, 1, 0⟩ l.length), (16, .int .i64 l.length), (17, .int .i64 k), (7, .int .i64 (longN (lng l) (mooT l k) i : Nat)), (39, .slice ⟨1, 0, 0, 1, 0⟩ (mooT l k).length), (40, .int .i64 (mooT l k).length), (41, .int .i64 i)] [.arr true .s2 l, .arr false .int (mooT l k), .arr true .int (byA l)]) (fun i => i ≤ (mooT l k).length) (fun i => (mooT l k).length - i) 0 (Nat.zero_le _)
        (Weak.of [0, 4, 2] (.cons rfl rfl (.s rfl ?_ rfl (.i rfl ?_ (.cons rfl rfl (.cons rfl rfl (.cons rfl rfl (.i rfl ?_ (.s rfl ?_ rfl (.i rfl ?_ (.cons rfl rfl .nil)))))))))) (.cons (.same rfl rfl) (.cons (.arr rfl ?_) (.cons (.same rfl rfl) (.nil _)))) rfl) (fun i hi => ?_)
    | refine AWP.while (ι := Nat) (fun k => St.of [(0, .slice ⟨0, 0, 0, 2, 0⟩ l.length), (3, .slice ⟨1, 0, 0, 1, 0⟩ (mooJ l k).length), (4, .int .i64 (ftS l k)), (15, .slice ⟨2, 0, 0, 1, 0⟩ l.length), (16, .int .i64 l.length), (17, .int .i64 k)] [.arr true .s2 l, .arr false .int (mooJ l k), .arr true .int (byA l)]) (fun k => k ≤ l.length) (fun k => l.length - k) 0 (Nat.zero_le _)
        (Weak.of [0, 2, 4] (.cons rfl rfl (.s rfl ?_ rfl (.i rfl ?_ (.s rfl ?_ rfl (.i rfl ?_ (.cons rfl rfl .nil)))))) (.cons (.same rfl rfl) (.cons (.arr rfl ?_) (.cons (.ro rfl rfl) (.nil _)))) rfl) (fun k hk => ?_)
    | refine roundEnd (i + 1) ?_ ?_ (Weak.of [0, 1, 2] (.cons rfl rfl (.s rfl ?_ rfl (.i rfl ?_ (.cons rfl rfl (.cons rfl rfl (.cons rfl rfl (.i rfl ?_ (.cons rfl rfl (.cons rfl rfl (.cons rfl rfl .nil)))))))))) (.cons (.same rfl rfl) (.cons (.same rfl rfl) (.cons (.same rfl rfl) (.nil _)))) rfl)
    | refine ACall.useIs [1] (delete_call (mooT l k) (longN (lng l) (mooT l k) i) _ ?_ ?_ ?_) rfl (.cons (.same rfl rfl) (.nil _)) rfl ?_
    | refine roundEnd (k + 1) ?_ ?_ (Weak.of [0, 1, 2] (.cons rfl rfl (.s rfl ?_ rfl (.i rfl ?_ (.cons rfl rfl (.cons rfl rfl (.cons rfl rfl .nil)))))) (.cons (.same rfl rfl) (.cons (.arr rfl ?_) (.cons (.same rfl rfl) (.nil _)))) rfl)
    | refine roundEnd (k + 1) ?_ ?_ (Weak.of [0, 4, 2] (.cons rfl rfl (.s rfl ?_ rfl (.i rfl ?_ (.cons rfl rfl (.cons rfl rfl (.cons rfl rfl .nil)))))) (.cons (.same rfl rfl) (.cons (.arr rfl ?_) (.cons (.same rfl rfl) (.nil _)))) rfl)
    | refine ACall.useIs [1] (sort_call _ _ ?_ ?_) rfl (.cons (.same rfl rfl) (.nil _)) rfl ?_
    | refine Ret.s [0, 1] rfl ?_ (.cons (.same rfl rfl) (.cons (.arr rfl ?_) (.nil _))) rfl
    | refine VC.mk ?_ ?_
  all_goals try simp only [decide_eq_true_eq, decide_eq_false_iff_not, Bool.not_eq_true', Bool.not_eq_false', cond_true, cond_false, eqB_true, eqB_false] at *
  all_goals try simp only [in64, idxAdd_zero_left, Int.toNat_natCast, fillTo_length, Int.ofNat_lt, Int.ofNat_le, Int.natCast_inj] at *
  all_goals try simp only [due_eq, lng_eq] at *
  all_goals try have hgl := goodJobs_len hg
  all_goals try have hbl := byA_len l
  all_goals try
    have hfr := ftS_rng hg (k := k) (by omega)
    have hjl := mooJ_len (l := l) (k := k) (by omega)
    have htl := mooT_len l k
  all_goals try
    have hk2 : k < (byA l).length := by omega
    have hba := byA_at hg hk2
    have hja := job_range hg hba
  all_goals try
    have hi2 : i < (mooT l k).length := by omega
    have hta := mooT_at hk2 hi2
    have hjt := job_range hg hta
  all_goals try
    have hlo : longN (lng l) (mooT l k) i < (mooT l k).length := by
      rcases Nat.eq_zero_or_pos i with h0 | h0
      · rw [h0, longN_zero]; omega
      · have := long_lt (l := l) (k := k) i h0; omega
    have htb := mooT_at hk2 hlo
    have hju := job_range hg htb
  all_goals try
    have hie : i = (mooT l k).length := by omega
    subst hie
  all_goals try
    have hlo : longN (lng l) (mooT l k) (mooT l k).length < (mooT l k).length := long_lt _ (by omega)
    have htb := mooT_at hk2 hlo
    have hju := job_range hg htb
    have hfn := ftS_not (l := l) (k := k) (by omega)
    have hmn := mooJ_not (l := l) (k := k) (by omega)
    have hel : ((mooT l k).eraseIdx (longN (lng l) (mooT l k) (mooT l k).length)).length = (mooT l k).length - 1 := List.length_eraseIdx_of_lt hlo
  all_goals try have hma := mooA_of (l := l) (k := k) (by omega)
  all_goals try have hff := ftS_fits (l := l) (k := k) (by omega)
  all_goals try have hmf := mooJ_fits (l := l) (k := k) (by omega)
  all_goals first
    | omega
    | rfl
    | exact hl
    | exact hg
    | assumption
    | exact ⟨by omega, by omega⟩
    | exact ⟨by omega, by omega, by omega⟩
    | (refine ⟨?_, ?_, ?_⟩ <;> first | omega | (simp; done) | (simp [sub]; done) | (simp [sub]; omega))
    | (rw [Int.toNat_natCast, rangeI_length]; omega)
    | (rw [rangeI_length]; omega)
    | exact (rangeI_length _).symm
    | exact (mooJ_zero _).symm
    | (rw [mooJ_zero]; done)
    | (rw [mooJ_zero]; rfl)
    | (rw [ftS_zero]; done)
    | exact (ftS_zero _).symm
    | exact (longN_zero _).symm
    | (rw [longN_zero]; done)
    | (rw [longN_zero]; rfl)
    | (rw [long_step (by omega)]; done)
    | (rw [long_stay (by omega)]; done)
    | (rw [mooT, sub_all' rfl]; done)
    | (rw [mooT, sub_all' rfl]; rfl)
    | (rw [mooT_len]; simp; done)
    | (rw [mooT_len]; simp [sub]; done)
    | (rw [hma]; done)
    | (rw [hmf]; done)
    | (rw [hmf, mooT, sub_all' rfl]; done)
    | (rw [hmf, mooT, sub_all' rfl]; rfl)
    | (rw [hmn]; done)
    | (rw [hmf, mooT_len]; done)
    | (rw [hmf, mooT_len]; simp; done)
    | (rw [hmf, mooT_len]; simp [sub]; done)

theorem implFewestLate_call (l : List S2) (hl : l.length ≤ 1048576) : ACall Try.prog 37 [.slice ⟨0, 0, 0, 2, 0⟩ l.length] [.arr true .s2 l] (Is (.tuple [.slice ⟨1, 0, 0, 1, 0⟩ (flL l).length, .bool (goodJobs l)]) [.arr true .s2 l, .arr false .int (flL l)]) := by
  refine ACall.walk T Try.func37 Try.ntmps37 Try.results37 rfl rfl rfl (Is.nv _ _) ?_
  repeat' (conv => whnf); first
    | refine AWP.seq ?_
    | refine AWP.reg T rfl ?_
    | refine AWP.drw T none rfl rfl rfl ?_
    | refine AWP.dep T none rfl rfl rfl rfl ?_
    | refine AWP.block ?_
    | refine AWP.condT rfl ?_
    | refine AWP.condF rfl ?_
    | refine AWP.cond rfl (fun hb => ?_) (fun hb => ?_)
    | refine AWP.ret ?_
    | refine AWP.exit ?_
    | refine AWP.skip ?_
    | refine GuardB.t ?_
    | refine GuardB.f ?_
    | refine GuardB.mk (fun hb => ?_) (fun hb => ?_)
    | refine NilQ.mk (fun hb => ?_) ?_
    | refine VC.mk Nat.zero_lt_one ?_
    | refine VC.mk rfl ?_
    | refine ACall.useIs [0] (implGoodJobs_call _ ?_) rfl (.cons (.same rfl rfl) (.nil _)) rfl ?_
    | refine ACall.useIs [0] (fewestLate_call l ?_ ?_) rfl (.cons (.same rfl rfl) (.nil _)) rfl ?_
    | refine Ret.sb [0, 2] rfl ?_ ?_ (.cons (.same rfl rfl) (.cons (.arr rfl ?_) (.nil _))) rfl
    | refine Ret.sb [0, 1] rfl ?_ ?_ (.cons (.same rfl rfl) (.cons (.arr rfl ?_) (.nil _))) rfl
    | refine VC.mk ?_ ?_
  all_goals try simp only [decide_eq_true_eq, decide_eq_false_iff_not, Bool.not_eq_true', Bool.not_eq_false', cond_true, cond_false, eqB_true, eqB_false] at *
  all_goals try simp only [in64, idxAdd_zero_left, Int.toNat_natCast, fillTo_length, Int.ofNat_lt, Int.ofNat_le, Int.natCast_inj] at *
  all_goals try
    have hg : goodJobs l = true := by assumption
    have hy := flL_yes hg
  all_goals first
    | exact hl
    | exact hg
    | assumption
    | omega
    | rfl
    | exact Eq.symm (by assumption)
    | (rw [flL_no (by assumption)]; done)
    | (rw [flL_no (by assumption)]; rfl)
    | (rw [hy]; done)
    | (rw [hy, sortI_len]; done)

theorem sortN_full (l : List Int) : sortN l l.length = sortI l := by unfold sortI; rfl
theorem era_sub {t : List Int} {i : Nat} (h : i < t.length) : t.eraseIdx i = sub (sub [] 0 0 ++ sub t 0 i) 0 (0 + i) ++ sub t ((i : Int) + 1).toNat (t.length - ((i : Int) + 1).toNat) := by
  have e : ((i : Int) + 1).toNat = i + 1 := by omega
  rw [e, List.eraseIdx_eq_take_drop_succ]
  have h1 : sub ([] : List Int) 0 0 ++ sub t 0 i = t.take i := by simp [sub]
  have h2 : sub (t.take i) 0 (0 + i) = t.take i := by rw [sub, Nat.zero_add, List.drop_zero, List.take_take, Nat.min_self]
  have h3 : sub t (i + 1) (t.length - (i + 1)) = t.drop (i + 1) := by rw [sub, List.take_of_length_le (by simp)]
  rw [h1, h2, h3]
theorem era_len {t : List Int} {i : Nat} (h : i < t.length) : (t.eraseIdx i).length = t.length - 1 := List.length_eraseIdx_of_lt h

theorem specFewestLate_call (l : List S2) (hl : l.length ≤ 1048576) : ACall Try.prog 36 [.slice ⟨0, 0, 0, 2, 0⟩ l.length] [.arr true .s2 l] (Is (.tuple [.slice ⟨1, 0, 0, 1, 0⟩ (flL l).length, .bool (goodJobs l)]) [.arr true .s2 l, .arr false .int (flL l)]) := by
  refine ACall.walk T Try.func36 Try.ntmps36 Try.results36 rfl rfl rfl (Is.nv _ _) ?_
  repeat' (conv => whnf); first
    | refine AWP.seq ?_
    | refine AWP.reg T rfl ?_
    | refine AWP.drw T none rfl rfl rfl ?_
    | refine AWP.dep T none rfl rfl rfl rfl ?_
    | refine AWP.block ?_
    | refine AWP.condT rfl ?_
    | refine AWP.condF rfl ?_
    | refine AWP.cond rfl (fun hb => ?_) (fun hb => ?_)
    | refine AWP.ret ?_
    | refine AWP.exit ?_
    | refine AWP.skip ?_
    | refine GuardB.t ?_
    | refine GuardB.f ?_
    | refine GuardB.mk (fun hb => ?_) (fun hb => ?_)
    | refine NilQ.mk (fun hb => ?_) ?_
    | refine VC.mk Nat.zero_lt_one ?_
    | refine VC.mk rfl ?_
    | refine ACall.useIs [0] (specGoodJobs_call _ ?_) rfl (.cons (.same rfl rfl) (.nil _)) rfl ?_
    | refine ACall.useIs [] (l12All_call _ ?_) rfl (.nil _) rfl ?_
    | refine ACall.useIs [0, 3] (specByA_call l l.length ?_ ?_) rfl (.cons (.same rfl rfl) (.cons (.ro rfl rfl) (.nil _))) rfl ?_
    | refine AWP.while (ι := Nat) (fun p => St.of [(11, .slice ⟨2, 0, 0, 1, 0⟩ (sortN (mooA l) p).length), (89, .slice ⟨1, 0, 0, 1, 0⟩ (mooA l).length), (90, .int .i64 (mooA l).length), (91, .int .i64 p)] [.arr true .s2 l, .arr false .int (mooA l), .arr false .int (sortN (mooA l) p)]) (fun p => p ≤ (mooA l).length) (fun p => (mooA l).length - p) 0 (Nat.zero_le _)
        (Weak.of [0, 1, 3] (.s rfl ?_ rfl (.s rfl ?_ rfl (.i rfl ?_ (.cons rfl rfl .nil)))) (.cons (.same rfl rfl) (.cons (.arr rfl ?_) (.cons (.arr rfl ?_) (.nil _)))) rfl) (fun p hp => ?_)
    | refine AWP.while (ι := Nat) (fun i => St.of [(0, .slice ⟨0, 0, 0, 2, 0⟩ l.length), (4, .slice ⟨1, 0, 0, 1, 0⟩ (mooT l k).length), (5, .int .i64 (ftS l k + lng l ((byA l).getD k 0))), (21, .slice ⟨2, 0, 0, 1, 0⟩ l.length), (22, .int .i64 l.length), (23, .int .i64 k), (8, .int .i64 (longN (lng l) (mooT l k) i : Nat)), (45, .slice ⟨1, 0, 0, 1, 0⟩ (mooT l k).length), (46, .int .i64 (mooT l k).length), (47, .int .i64 i)] [.arr true .s2 l, .arr false .int (mooT l k), .arr true .int (byA l)]) (fun i => i ≤ (mooT l k).length) (fun i => (mooT l k).length - i) 0 (Nat.zero_le _)
        (Weak.of [0, 4, 2] (.cons rfl rfl (.s rfl ?_ rfl (.i rfl ?_ (.cons rfl rfl (.cons rfl rfl (.cons rfl rfl (.i rfl ?_ (.s rfl ?_ rfl (.i rfl ?_ (.cons rfl rfl .nil)))))))))) (.cons (.same rfl rfl) (.cons (.arr rfl ?_) (.cons (.same rfl rfl) (.nil _)))) rfl) (fun i hi => ?_)
    | refine AWP.while (ι := Nat) (fun k => St.of [(0, .slice ⟨0, 0, 0, 2, 0⟩ l.length), (4, .slice ⟨1, 0, 0, 1, 0⟩ (mooJ l k).length), (5, .int .i64 (ftS l k)), (21, .slice ⟨2, 0, 0, 1, 0⟩ l.length), (22, .int .i64 l.length), (23, .int .i64 k)] [.arr true .s2 l, .arr false .int (mooJ l k), .arr true .int (byA l)]) (fun k => k ≤ l.length) (fun k => l.length - k) 0 (Nat.zero_le _)
        (Weak.of [0, 2, 4] (.cons rfl rfl (.s rfl ?_ rfl (.i rfl ?_ (.s rfl ?_ rfl (.i rfl ?_ (.cons rfl rfl .nil)))))) (.cons (.same rfl rfl) (.cons (.arr rfl ?_) (.cons (.ro rfl rfl) (.nil _)))) rfl) (fun k hk => ?_)
    | refine roundEnd (i + 1) ?_ ?_ (Weak.of [0, 1, 2] (.cons rfl rfl (.s rfl ?_ rfl (.i rfl ?_ (.cons rfl rfl (.cons rfl rfl (.cons rfl rfl (.i rfl ?_ (.cons rfl rfl (.cons rfl rfl (.cons rfl rfl .nil)))))))))) (.cons (.same rfl rfl) (.cons (.same rfl rfl) (.cons (.same rfl rfl) (.nil _)))) rfl)
    | refine ACall.useIs [2] (l7Put_call _ _ ?_ ?_) rfl (.cons (.same rfl rfl) (.nil _)) rfl ?_
    | refine roundEnd (p + 1) ?_ ?_ (Weak.of [0, 1, 3] (.s rfl ?_ rfl (.cons rfl rfl (.cons rfl rfl (.cons rfl rfl .nil)))) (.cons (.same rfl rfl) (.cons (.same rfl rfl) (.cons (.arr rfl ?_) (.nil _)))) rfl)
    | refine roundEnd (k + 1) ?_ ?_ (Weak.of [0, 5, 2] (.cons rfl rfl (.s rfl ?_ rfl (.i rfl ?_ (.cons rfl rfl (.cons rfl rfl (.cons rfl rfl .nil)))))) (.cons (.same rfl rfl) (.cons (.arr rfl ?_) (.cons (.same rfl rfl) (.nil _)))) rfl)
    | refine roundEnd (k + 1) ?_ ?_ (Weak.of [0, 4, 2] (.cons rfl rfl (.s rfl ?_ rfl (.i rfl ?_ (.cons rfl rfl (.cons rfl rfl (.cons rfl rfl .nil)))))) (.cons (.same rfl rfl) (.cons (.arr rfl ?_) (.cons (.same rfl rfl) (.nil _)))) rfl)
    | refine AWP.drw T (some [0]) rfl rfl rfl ?_
    | refine Ret.sb [0, 2] rfl ?_ ?_ (.cons (.same rfl rfl) (.cons (.arr rfl ?_) (.nil _))) rfl
    | refine Ret.sb [0, 1] rfl ?_ ?_ (.cons (.same rfl rfl) (.cons (.arr rfl ?_) (.nil _))) rfl
    | refine VC.mk ?_ ?_
  all_goals try simp only [decide_eq_true_eq, decide_eq_false_iff_not, Bool.not_eq_true', Bool.not_eq_false', cond_true, cond_false, eqB_true, eqB_false] at *
  all_goals try simp only [in64, idxAdd_zero_left, Int.toNat_natCast, fillTo_length, Int.ofNat_lt, Int.ofNat_le, Int.natCast_inj] at *
  all_goals try simp only [due_eq, lng_eq] at *
  all_goals try
    have hg : goodJobs l = true := by assumption
    have hgl := goodJobs_len hg
  all_goals try have hbl := byA_len l
  all_goals try
    have hfr := ftS_rng hg (k := k) (by omega)
    have hjl := mooJ_len (l := l) (k := k) (by omega)
    have htl := mooT_len l k
  all_goals try
    have hk2 : k < (byA l).length := by omega
    have hba := byA_at hg hk2
    have hja := job_range hg hba
  all_goals try
    have hi2 : i < (mooT l k).length := by omega
    have hta := mooT_at hk2 hi2
    have hjt := job_range hg hta
  all_goals try
    have hlo : longN (lng l) (mooT l k) i < (mooT l k).length := by
      rcases Nat.eq_zero_or_pos i with h0 | h0
      · rw [h0, longN_zero]; omega
      · have := long_lt (l := l) (k := k) i h0; omega
    have htb := mooT_at hk2 hlo
    have hju := job_range hg htb
  all_goals try
    have hie : i = (mooT l k).length := by omega
    subst hie
  all_goals try
    have hlo : longN (lng l) (mooT l k) (mooT l k).length < (mooT l k).length := long_lt _ (by omega)
    have htb := mooT_at hk2 hlo
    have hju := job_range hg htb
    have hfn := ftS_not (l := l) (k := k) (by omega)
    have hmn := mooJ_not (l := l) (k := k) (by omega)
    have hel : ((mooT l k).eraseIdx (longN (lng l) (mooT l k) (mooT l k).length)).length = (mooT l k).length - 1 := List.length_eraseIdx_of_lt hlo
  all_goals try have hma := mooA_of (l := l) (k := k) (by omega)
  all_goals try have hff := ftS_fits (l := l) (k := k) (by omega)
  all_goals try have hmf := mooJ_fits (l := l) (k := k) (by omega)
  all_goals try have hy := flL_yes (l := l) (by assumption)
  all_goals try
    have hp2 : p < (mooA l).length := by omega
    have hps := put_sort (mooA_nodup l) hp2
    have hsr := sortN_rise (mooA_nodup l) (by omega : p ≤ (mooA l).length)
    have hsl := sortN_len (l := mooA l) p (by omega)
    have hal := mooA_len l
  all_goals try have hpe : p = (mooA l).length := by omega
  all_goals first
    | exact hsr
    | (rw [hps]; done)
    | (rw [hpe, sortN_full, hy]; done)
    | (rw [hpe, sortN_full, hy, sortI_len]; done)
    | exact (sortN_zero _).symm
    | (rw [sortN_zero]; done)
    | (rw [sortN_zero]; rfl)
    | exact Eq.symm (by assumption)
    | (rw [flL_no (by assumption)]; done)
    | (rw [flL_no (by assumption)]; rfl)
    | (rw [hmn, era_sub hlo]; done)
    | (rw [hmn, era_len hlo]; omega)
    | omega
    | rfl
    | exact hl
    | exact hg
    | assumption
    | exact ⟨by omega, by omega⟩
    | exact ⟨by omega, by omega, by omega⟩
    | (refine ⟨?_, ?_, ?_⟩ <;> first | omega | (simp; done) | (simp [sub]; done) | (simp [sub]; omega))
    | (rw [Int.toNat_natCast, rangeI_length]; omega)
    | (rw [rangeI_length]; omega)
    | exact (rangeI_length _).symm
    | exact (mooJ_zero _).symm
    | (rw [mooJ_zero]; done)
    | (rw [mooJ_zero]; rfl)
    | (rw [ftS_zero]; done)
    | exact (ftS_zero _).symm
    | exact (longN_zero _).symm
    | (rw [longN_zero]; done)
    | (rw [longN_zero]; rfl)
    | (rw [long_step (by omega)]; done)
    | (rw [long_stay (by omega)]; done)
    | (rw [mooT, sub_all' rfl]; done)
    | (rw [mooT, sub_all' rfl]; rfl)
    | (rw [mooT_len]; simp; done)
    | (rw [mooT_len]; simp [sub]; done)
    | (rw [hma]; done)
    | (rw [hmf]; done)
    | (rw [hmf, mooT, sub_all' rfl]; done)
    | (rw [hmf, mooT, sub_all' rfl]; rfl)
    | (rw [hmn]; done)
    | (rw [hmf, mooT_len]; done)
    | (rw [hmf, mooT_len]; simp; done)
    | (rw [hmf, mooT_len]; simp [sub]; done)

theorem lawFewestLate_call (l : List S2) (hl : l.length ≤ 9223372036854775807) : ACall Try.prog 10 [.slice ⟨0, 0, 0, 2, 0⟩ l.length] [.arr true .s2 l] (Is (.bool true) [.arr true .s2 l]) := by
  refine ACall.walk T Try.func10 Try.ntmps10 Try.results10 rfl rfl rfl (Is.nv _ _) ?_
  repeat' (conv => whnf); first
    | refine AWP.seq ?_
    | refine AWP.reg T rfl ?_
    | refine AWP.drw T none rfl rfl rfl ?_
    | refine AWP.dep T none rfl rfl rfl rfl ?_
    | refine AWP.block ?_
    | refine AWP.condT rfl ?_
    | refine AWP.condF rfl ?_
    | refine AWP.cond rfl (fun hb => ?_) (fun hb => ?_)
    | refine AWP.ret ?_
    | refine AWP.exit ?_
    | refine AWP.skip ?_
    | refine GuardB.t ?_
    | refine GuardB.f ?_
    | refine GuardB.mk (fun hb => ?_) (fun hb => ?_)
    | refine NilQ.mk (fun hb => ?_) ?_
    | refine VC.mk Nat.zero_lt_one ?_
    | refine VC.mk rfl ?_
    | refine ACall.useIs [0] (szJobS_call _ _ ?_ ?_) rfl (.cons (.same rfl rfl) (.nil _)) rfl ?_
    | refine ACall.useIs [0] (toJobS_call _ ?_) rfl (.cons (.same rfl rfl) (.nil _)) rfl ?_
    | refine ACall.useIs [1] (specFewestLate_call _ ?_) rfl (.cons (.ro rfl rfl) (.nil _)) rfl ?_
    | refine ACall.useIs [3] (implFewestLate_call _ ?_) rfl (.cons (.ro rfl rfl) (.nil _)) rfl ?_
    | refine ACall.useIs [6] (implFewestLate_call _ ?_) rfl (.cons (.ro rfl rfl) (.nil _)) rfl ?_
    | refine ACall.useIs [4, 2] (eqIntS_call _ _ ?_) rfl (.cons (.ro rfl rfl) (.cons (.ro rfl rfl) (.nil _))) rfl ?_
    | refine ACall.useIs [7, 2] (eqIntS_call _ _ ?_) rfl (.cons (.ro rfl rfl) (.cons (.ro rfl rfl) (.nil _))) rfl ?_
    | refine ACall.useIs [3, 5] (eqJobS_call _ _ ?_) rfl (.cons (.ro rfl rfl) (.cons (.ro rfl rfl) (.nil _))) rfl ?_
    | refine ACall.useIs [3] (markJobS_call _ _ ?_ ?_) rfl (.cons (.same rfl rfl) (.nil _)) rfl ?_
    | refine ACall.useIs [4] (markIntS_call _ _ ?_ ?_) rfl (.cons (.same rfl rfl) (.nil _)) rfl ?_
    | refine ACall.useIs [4] (heldIntS_call _ _ ?_ ?_) rfl (.cons (.ro rfl rfl) (.nil _)) rfl ?_
    | refine Ret.bool [0] ?_ (.cons (.same rfl rfl) (.nil _)) rfl
    | refine VC.mk ?_ ?_
  all_goals try simp only [decide_eq_true_eq, decide_eq_false_iff_not, Bool.not_eq_true', Bool.not_eq_false', cond_true, cond_false, eqB_true, eqB_false] at *
  all_goals try simp only [in64, idxAdd_zero_left, Int.toNat_natCast, fillTo_length, Int.ofNat_lt, Int.ofNat_le, Int.natCast_inj] at *
  all_goals try simp only [marksI_length, marks2_length] at *
  all_goals try have hfact := flL_le l
  all_goals first
    | rfl
    | omega
    | exact leftOf_ok (by assumption) (by omega)
    | (have := leftOf_ok (by assumption) (by omega : (1048576 : Int) ≤ 1048576); omega)
    | (simp_all [eqB]; done)
    | (simp_all [eqB]; omega)

end YtockeinpdioahaaAM
