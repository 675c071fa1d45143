/- Contracts of functions of this seat. -/
import Derived.Test.YtgkpdnacfpdomaaAmTabPipes
import Derived.Test.YtgkpdnacfpdomaaAmModels
import Derived.Test.YtgkpdnacfpdomaaAmPipes2
set_option linter.unusedVariables false
set_option linter.unusedSimpArgs false
set_option maxRecDepth 100000
namespace YtgkpdnacfpdomaaAM
open Go Go.Proofs

theorem l8Out_call (l : List S3) (fl : List Int) (n : Int) (hg : goodPipes l = true) (hlen : fl.length = l.length) (hc : AllTo (capB l fl) l.length l.length) : ACall Try.prog 54 [.slice ⟨0, 0, 0, 3, 0⟩ l.length, .slice ⟨1, 0, 0, 1, 0⟩ fl.length, .int .i64 n] [.arr true .s3 l, .arr true .int fl] (Is (.int .i64 (outM l fl n)) [.arr true .s3 l, .arr true .int fl]) := by
  refine ACall.walk T Try.func54 Try.ntmps54 Try.results54 rfl rfl rfl (Is.nv _ _) ?_
  repeat' (conv => whnf); first
    | refine AWP.seq ?_
    | refine AWP.reg T rfl ?_
    | refine AWP.drw T none rfl rfl rfl ?_
    | refine AWP.dep T none rfl rfl rfl rfl ?_
    | refine AWP.block ?_
    | refine AWP.condT rfl ?_
    | refine AWP.condF rfl ?_
    | refine AWP.cond rfl (fun hb => ?_) (fun hb => ?_)
    | refine AWP.ret ?_
    | refine AWP.exit ?_
    | refine AWP.skip ?_
    | refine GuardB.t ?_
    | refine GuardB.f ?_
    | refine GuardB.mk (fun hb => ?_) (fun hb => ?_)
    | refine NilQ.mk (fun hb => ?_) ?_
    | refine VC.mk Nat.zero_lt_one ?_
    | refine VC.mk rfl ?_
    | refine AWP.while (ι := Nat) (fun k => St.of [(1, .slice ⟨1, 0, 0, 1, 0⟩ fl.length), (2, .int .i64 n), (7, .int .i64 (outN l fl n k)), (10, .slice ⟨0, 0, 0, 3, 0⟩ l.length), (11, .int .i64 l.length), (12, .int .i64 k)] [.arr true .s3 l, .arr true .int fl]) (fun k => k ≤ l.length) (fun k => l.length - k) 0 (Nat.zero_le _)
        (Weak.of [0, 1] (.cons rfl rfl (.cons rfl rfl (.cons rfl rfl (.cons rfl rfl (.cons rfl rfl (.cons rfl rfl .nil)))))) (.cons (.same rfl rfl) (.cons (.same rfl rfl) (.nil _))) rfl) (fun k hk => ?_)
    | refine Ret.int [0, 1] ?_ (.cons (.same rfl rfl) (.cons (.same rfl rfl) (.nil _))) rfl
    | refine roundEnd (k + 1) ?_ ?_ (Weak.of [0, 1] (.cons rfl rfl (.cons rfl rfl (.i rfl ?_ (.cons rfl rfl (.cons rfl rfl (.cons rfl rfl .nil)))))) (.cons (.same rfl rfl) (.cons (.same rfl rfl) (.nil _))) rfl)
    | refine VC.mk ?_ ?_
  all_goals try simp only [decide_eq_true_eq, decide_eq_false_iff_not, Bool.not_eq_true', Bool.not_eq_false', cond_true, cond_false, eqB_true, eqB_false] at *
  all_goals try simp only [in64, idxAdd_zero_left, Int.toNat_natCast, fillTo_length, Int.ofNat_lt, Int.ofNat_le, Int.natCast_inj] at *
  all_goals try
    have h2 : k < l.length := by omega
    have gp := goodPipes_at hg h2
    have hcap := capB_iff.1 (hc.2 k h2)
    have rg := out_range hg n k ⟨by omega, fun j hj => hc.2 j (by omega)⟩
    have hlr := goodPipes_len hg
  all_goals first
    | omega
    | (rw [outN_succ, outStep]; simp_all; done)
    | (rw [outN_succ, outStep]; split <;> split <;> omega)
    | (have e : k = l.length := by omega
       subst e
       rfl)

theorem outOf_call (l : List S3) (fl : List Int) (n : Int) (hg : goodPipes l = true) (hlen : fl.length = l.length) (hc : AllTo (capB l fl) l.length l.length) : ACall Try.prog 55 [.slice ⟨0, 0, 0, 3, 0⟩ l.length, .int .i64 n, .slice ⟨1, 0, 0, 1, 0⟩ fl.length] [.arr true .s3 l, .arr true .int fl] (Is (.int .i64 (outM l fl n)) [.arr true .s3 l, .arr true .int fl]) := by
  refine ACall.walk T Try.func55 Try.ntmps55 Try.results55 rfl rfl rfl (Is.nv _ _) ?_
  repeat' (conv => whnf); first
    | refine AWP.seq ?_
    | refine AWP.reg T rfl ?_
    | refine AWP.drw T none rfl rfl rfl ?_
    | refine AWP.dep T none rfl rfl rfl rfl ?_
    | refine AWP.block ?_
    | refine AWP.condT rfl ?_
    | refine AWP.condF rfl ?_
    | refine AWP.cond rfl (fun hb => ?_) (fun hb => ?_)
    | refine AWP.ret ?_
    | refine AWP.exit ?_
    | refine AWP.skip ?_
    | refine GuardB.t ?_
    | refine GuardB.f ?_
    | refine GuardB.mk (fun hb => ?_) (fun hb => ?_)
    | refine NilQ.mk (fun hb => ?_) ?_
    | refine VC.mk Nat.zero_lt_one ?_
    | refine VC.mk rfl ?_
    | refine AWP.while (ι := Nat) (fun k => St.of [(1, .int .i64 n), (2, .slice ⟨1, 0, 0, 1, 0⟩ fl.length), (7, .int .i64 (outN l fl n k)), (10, .slice ⟨0, 0, 0, 3, 0⟩ l.length), (11, .int .i64 l.length), (12, .int .i64 k)] [.arr true .s3 l, .arr true .int fl]) (fun k => k ≤ l.length) (fun k => l.length - k) 0 (Nat.zero_le _)
        (Weak.of [0, 1] (.cons rfl rfl (.cons rfl rfl (.cons rfl rfl (.cons rfl rfl (.cons rfl rfl (.cons rfl rfl .nil)))))) (.cons (.same rfl rfl) (.cons (.same rfl rfl) (.nil _))) rfl) (fun k hk => ?_)
    | refine Ret.int [0, 1] ?_ (.cons (.same rfl rfl) (.cons (.same rfl rfl) (.nil _))) rfl
    | refine roundEnd (k + 1) ?_ ?_ (Weak.of [0, 1] (.cons rfl rfl (.cons rfl rfl (.i rfl ?_ (.cons rfl rfl (.cons rfl rfl (.cons rfl rfl .nil)))))) (.cons (.same rfl rfl) (.cons (.same rfl rfl) (.nil _))) rfl)
    | refine VC.mk ?_ ?_
  all_goals try simp only [decide_eq_true_eq, decide_eq_false_iff_not, Bool.not_eq_true', Bool.not_eq_false', cond_true, cond_false, eqB_true, eqB_false] at *
  all_goals try simp only [in64, idxAdd_zero_left, Int.toNat_natCast, fillTo_length, Int.ofNat_lt, Int.ofNat_le, Int.natCast_inj] at *
  all_goals try
    have h2 : k < l.length := by omega
    have gp := goodPipes_at hg h2
    have hcap := capB_iff.1 (hc.2 k h2)
    have rg := out_range hg n k ⟨by omega, fun j hj => hc.2 j (by omega)⟩
    have hlr := goodPipes_len hg
  all_goals first
    | omega
    | (rw [outN_succ, outStep]; simp_all; done)
    | (rw [outN_succ, outStep]; split <;> split <;> omega)
    | (have e : k = l.length := by omega
       subst e
       rfl)

theorem l8Ask_call (l : List S3) (f t : Int) (hl : l.length ≤ 1048576) : ACall Try.prog 47 [.slice ⟨0, 0, 0, 3, 0⟩ l.length, .int .i64 f, .int .i64 t] [.arr true .s3 l] (Is (.bool (askB l f t)) [.arr true .s3 l]) := by
  refine ACall.walk T Try.func47 Try.ntmps47 Try.results47 rfl rfl rfl (Is.nv _ _) ?_
  repeat' (conv => whnf); first
    | refine AWP.seq ?_
    | refine AWP.reg T rfl ?_
    | refine AWP.drw T none rfl rfl rfl ?_
    | refine AWP.dep T none rfl rfl rfl rfl ?_
    | refine AWP.block ?_
    | refine AWP.condT rfl ?_
    | refine AWP.condF rfl ?_
    | refine AWP.cond rfl (fun hb => ?_) (fun hb => ?_)
    | refine AWP.ret ?_
    | refine AWP.exit ?_
    | refine AWP.skip ?_
    | refine GuardB.t ?_
    | refine GuardB.f ?_
    | refine GuardB.mk (fun hb => ?_) (fun hb => ?_)
    | refine NilQ.mk (fun hb => ?_) ?_
    | refine VC.mk Nat.zero_lt_one ?_
    | refine VC.mk rfl ?_
    | refine ACall.useIs [0] (specGoodPipes_call _ ?_) rfl (.cons (.same rfl rfl) (.nil _)) rfl ?_
    | refine ACall.useIs [] (l6Node_call _) rfl (.nil _) rfl ?_
    | refine Ret.bool [0] ?_ (.cons (.same rfl rfl) (.nil _)) rfl
    | refine VC.mk ?_ ?_
  all_goals try simp only [decide_eq_true_eq, decide_eq_false_iff_not, Bool.not_eq_true', Bool.not_eq_false', cond_true, cond_false, eqB_true, eqB_false] at *
  all_goals try simp only [in64, idxAdd_zero_left, Int.toNat_natCast, fillTo_length, Int.ofNat_lt, Int.ofNat_le, Int.natCast_inj] at *
  all_goals first
    | exact hl
    | (simp_all [askB]; done)

theorem l8Is_call (l : List S3) (f t : Int) (fl : List Int) (hg : goodPipes l = true) (hlen : fl.length = l.length) : ACall Try.prog 48 [.slice ⟨0, 0, 0, 3, 0⟩ l.length, .int .i64 f, .int .i64 t, .slice ⟨1, 0, 0, 1, 0⟩ fl.length] [.arr true .s3 l, .arr true .int fl] (Is (.bool (isB l f t fl)) [.arr true .s3 l, .arr true .int fl]) := by
  refine ACall.walk T Try.func48 Try.ntmps48 Try.results48 rfl rfl rfl (Is.nv _ _) ?_
  repeat' (conv => whnf); first
    | refine AWP.seq ?_
    | refine AWP.reg T rfl ?_
    | refine AWP.drw T none rfl rfl rfl ?_
    | refine AWP.dep T none rfl rfl rfl rfl ?_
    | refine AWP.block ?_
    | refine AWP.condT rfl ?_
    | refine AWP.condF rfl ?_
    | refine AWP.cond rfl (fun hb => ?_) (fun hb => ?_)
    | refine AWP.ret ?_
    | refine AWP.exit ?_
    | refine AWP.skip ?_
    | refine GuardB.t ?_
    | refine GuardB.f ?_
    | refine GuardB.mk (fun hb => ?_) (fun hb => ?_)
    | refine NilQ.mk (fun hb => ?_) ?_
    | refine VC.mk Nat.zero_lt_one ?_
    | refine VC.mk rfl ?_
    | refine AWP.while (ι := Nat) (fun k => St.of [(0, .slice ⟨0, 0, 0, 3, 0⟩ l.length), (1, .int .i64 f), (2, .int .i64 t), (3, .slice ⟨1, 0, 0, 1, 0⟩ fl.length), (12, .slice ⟨0, 0, 0, 3, 0⟩ l.length), (13, .int .i64 l.length), (14, .int .i64 k)] [.arr true .s3 l, .arr true .int fl]) (fun k => AllTo (capB l fl) l.length k) (fun k => l.length - k) 0 (AllTo.zero _ _)
        (Weak.of [0, 1] (.cons rfl rfl (.cons rfl rfl (.cons rfl rfl (.cons rfl rfl (.cons rfl rfl (.cons rfl rfl (.cons rfl rfl .nil))))))) (.cons (.same rfl rfl) (.cons (.same rfl rfl) (.nil _))) rfl) (fun k hk => ?_)
    | refine AWP.while (ι := Nat) (fun m => St.of [(0, .slice ⟨0, 0, 0, 3, 0⟩ l.length), (1, .int .i64 f), (2, .int .i64 t), (3, .slice ⟨1, 0, 0, 1, 0⟩ fl.length), (11, .int .i64 m)] [.arr true .s3 l, .arr true .int fl]) (fun m => AllTo (nodeB l f t fl) 8 m) (fun m => 8 - m) 0 (AllTo.zero _ _)
        (Weak.of [0, 1] (.cons rfl rfl (.cons rfl rfl (.cons rfl rfl (.cons rfl rfl (.cons rfl rfl .nil))))) (.cons (.same rfl rfl) (.cons (.same rfl rfl) (.nil _))) rfl) (fun m hm => ?_)
    | refine ACall.useIs [] (l1In_call _ _ _) rfl (.nil _) rfl ?_
    | refine ACall.useIs [0, 1] (l8Out_call _ _ _ ?_ ?_ ?_) rfl (.cons (.same rfl rfl) (.cons (.same rfl rfl) (.nil _))) rfl ?_
    | refine Ret.bool [0, 1] ?_ (.cons (.same rfl rfl) (.cons (.same rfl rfl) (.nil _))) rfl
    | refine roundEnd (k + 1) ?_ ?_ (Weak.of [0, 1] (.cons rfl rfl (.cons rfl rfl (.cons rfl rfl (.cons rfl rfl (.cons rfl rfl (.cons rfl rfl (.cons rfl rfl .nil))))))) (.cons (.same rfl rfl) (.cons (.same rfl rfl) (.nil _))) rfl)
    | refine roundEnd (m + 1) ?_ ?_ (Weak.of [0, 1] (.cons rfl rfl (.cons rfl rfl (.cons rfl rfl (.cons rfl rfl (.cons rfl rfl .nil))))) (.cons (.same rfl rfl) (.cons (.same rfl rfl) (.nil _))) rfl)
    | refine VC.mk ?_ ?_
  all_goals try simp only [decide_eq_true_eq, decide_eq_false_iff_not, Bool.not_eq_true', Bool.not_eq_false', cond_true, cond_false, eqB_true, eqB_false] at *
  all_goals try simp only [in64, idxAdd_zero_left, Int.toNat_natCast, fillTo_length, Int.ofNat_lt, Int.ofNat_le, Int.natCast_inj] at *
  all_goals try have hlr := goodPipes_len hg
  all_goals first
    | omega
    | exact hg
    | exact hlen
    | (have := hk.1; omega)
    | (have := hm.1; omega)
    | (exact ⟨Nat.le_refl _, fun j hj => hk.2 j (by omega)⟩)
    | (have h2 : k < l.length := by omega
       have h3 : capB l fl k = false := by simp_all [capB]
       have h4 : isB l f t fl = false := by rw [isB, not_all h2 h3, Bool.false_and]
       rw [h4])
    | (have h2 : k < l.length := by omega
       have h3 : capB l fl k = true := by simp_all [capB]
       exact hk.next h2 h3)
    | (have h2 : m < 8 := by omega
       have h3 : nodeB l f t fl m = false := by simp_all [nodeB]
       have h4 : isB l f t fl = false := by rw [isB, not_all h2 h3, Bool.and_false]
       rw [h4])
    | (have h2 : m < 8 := by omega
       have h3 : nodeB l f t fl m = true := by (simp only [nodeB]; grind)
       exact hm.next h2 h3)
    | (have e := hk.all (by omega)
       have e' := hm.all (by omega)
       have h4 : isB l f t fl = true := by rw [isB, e, e']; rfl
       rw [h4])

theorem isFlow_call (l : List S3) (f t : Int) (fl : List Int) (hg : goodPipes l = true) (hlen : fl.length = l.length) : ACall Try.prog 49 [.slice ⟨0, 0, 0, 3, 0⟩ l.length, .int .i64 f, .int .i64 t, .slice ⟨1, 0, 0, 1, 0⟩ fl.length] [.arr true .s3 l, .arr true .int fl] (Is (.bool (isB l f t fl)) [.arr true .s3 l, .arr true .int fl]) := by
  refine ACall.walk T Try.func49 Try.ntmps49 Try.results49 rfl rfl rfl (Is.nv _ _) ?_
  repeat' (conv => whnf); first
    | refine AWP.seq ?_
    | refine AWP.reg T rfl ?_
    | refine AWP.drw T none rfl rfl rfl ?_
    | refine AWP.dep T none rfl rfl rfl rfl ?_
    | refine AWP.block ?_
    | refine AWP.condT rfl ?_
    | refine AWP.condF rfl ?_
    | refine AWP.cond rfl (fun hb => ?_) (fun hb => ?_)
    | refine AWP.ret ?_
    | refine AWP.exit ?_
    | refine AWP.skip ?_
    | refine GuardB.t ?_
    | refine GuardB.f ?_
    | refine GuardB.mk (fun hb => ?_) (fun hb => ?_)
    | refine NilQ.mk (fun hb => ?_) ?_
    | refine VC.mk Nat.zero_lt_one ?_
    | refine VC.mk rfl ?_
    | refine AWP.while (ι := Nat) (fun k => St.of [(1, .int .i64 f), (2, .int .i64 t), (3, .slice ⟨1, 0, 0, 1, 0⟩ fl.length), (9, .ptr ⟨2, 0, 0, 1, 0⟩), (20, .slice ⟨0, 0, 0, 3, 0⟩ l.length), (21, .int .i64 l.length), (22, .int .i64 k)] [.arr true .s3 l, .arr true .int fl, .arr false .int (moreN l fl k)]) (fun k => AllTo (capB l fl) l.length k) (fun k => l.length - k) 0 (AllTo.zero _ _)
        (Weak.of [0, 1, 2] (.cons rfl rfl (.cons rfl rfl (.cons rfl rfl (.cons rfl rfl (.cons rfl rfl (.cons rfl rfl (.cons rfl rfl .nil))))))) (.cons (.same rfl rfl) (.cons (.same rfl rfl) (.cons (.same rfl rfl) (.nil _)))) rfl) (fun k hk => ?_)
    | refine AWP.while (ι := Nat) (fun m => St.of [(1, .int .i64 f), (2, .int .i64 t), (56, .vec (.ints (moreN l fl l.length))), (57, .int .i64 m)] [.arr true .s3 l, .arr true .int fl]) (fun m => AllTo (nodeB l f t fl) 8 m) (fun m => 8 - m) 0 (AllTo.zero _ _)
        (Weak.of [0, 1] (.cons rfl rfl (.cons rfl rfl (.cons ?_ rfl (.cons rfl rfl .nil)))) (.cons (.same rfl rfl) (.cons (.same rfl rfl) (.nil _))) rfl) (fun m hm => ?_)
    | refine ACall.useIs [] (within_call _ _ _) rfl (.nil _) rfl ?_
    | refine Ret.bool [0, 1] ?_ (.cons (.same rfl rfl) (.cons (.same rfl rfl) (.nil _))) rfl
    | refine roundEnd (k + 1) ?_ ?_ (Weak.of [0, 1, 2] (.cons rfl rfl (.cons rfl rfl (.cons rfl rfl (.cons rfl rfl (.cons rfl rfl (.cons rfl rfl (.cons rfl rfl .nil))))))) (.cons (.same rfl rfl) (.cons (.same rfl rfl) (.cons (.arr rfl ?_) (.nil _)))) rfl)
    | refine roundEnd (m + 1) ?_ ?_ (Weak.of [0, 1] (.cons rfl rfl (.cons rfl rfl (.cons rfl rfl (.cons rfl rfl .nil)))) (.cons (.same rfl rfl) (.cons (.same rfl rfl) (.nil _))) rfl)
    | refine VC.mk ?_ ?_
  all_goals try simp only [decide_eq_true_eq, decide_eq_false_iff_not, Bool.not_eq_true', Bool.not_eq_false', cond_true, cond_false, eqB_true, eqB_false] at *
  all_goals try simp only [in64, idxAdd_zero_left, Int.toNat_natCast, fillTo_length, Int.ofNat_lt, Int.ofNat_le, Int.natCast_inj] at *
  all_goals try have hlr := goodPipes_len hg
  all_goals try have ml := more_len l fl k
  all_goals try
    have h2 : k < l.length := by omega
    have gp := goodPipes_at hg h2
    have r1 := more_range (fl := fl) hg hk (n := (l.getD k ⟨0, 0, 0⟩).a.toNat) (by omega)
    have r2 := more_range hg hk (n := (l.getD k ⟨0, 0, 0⟩).b.toNat) (by omega)
  all_goals try simp only [List.length_set] at *
  all_goals first
    | omega
    | exact hg
    | exact hlen
    | exact more_len _ _ _
    | exact ⟨by omega, more_len _ _ _⟩
    | exact ⟨by omega, by omega, more_len _ _ _⟩
    | rfl
    | exact ⟨rfl, rfl⟩
    | (have hq := btw_iff.1 (by assumption); omega)
    | (have hq := btw_iff.1 (by assumption); rw [getD_setI (by rw [ml]; omega), if_neg (by omega)]; omega)
    | (have hq := btw_iff.1 (by assumption); exact ⟨by omega, by omega⟩)
    | (have := hk.1; omega)
    | (have := hm.1; omega)
    | (have h3 : capB l fl k = false := by simp_all [capB]
       have h4 : isB l f t fl = false := by rw [isB, not_all h2 h3, Bool.false_and]
       rw [h4])
    | (have h3 : capB l fl k = true := by simp_all [capB]
       exact hk.next h2 h3)
    | (have e : k = l.length := by have := hk.1; omega
       subst e
       rfl)
    | (have h2 : m < 8 := by omega
       have e := more_at (fl := fl) hg l.length (Nat.le_refl _) m h2
       have h3 : nodeB l f t fl m = false := by (simp only [nodeB, outM, Bool.or_eq_false_iff, decide_eq_false_iff_not]; exact ⟨⟨by omega, by omega⟩, decide_eq_false (by omega)⟩)
       have h4 : isB l f t fl = false := by rw [isB, not_all h2 h3, Bool.and_false]
       rw [h4])
    | (have h2 : m < 8 := by omega
       have e := more_at (fl := fl) hg l.length (Nat.le_refl _) m h2
       have h3 : nodeB l f t fl m = true := by (simp only [nodeB, outM, Bool.or_eq_true, decide_eq_true_eq]; first | exact .inl (.inl (by omega)) | exact .inl (.inr (by omega)) | exact .inr (decide_eq_true (by omega)))
       exact hm.next h2 h3)
    | (have e := hk.all (by omega)
       have e' := hm.all (by omega)
       have h4 : isB l f t fl = true := by rw [isB, e, e']; rfl
       rw [h4])

theorem specIsFlow_call (l : List S3) (f t : Int) (fl : List Int) (hl : l.length ≤ 1048576) (hf : fl.length ≤ 1048576) : ACall Try.prog 17 [.slice ⟨0, 0, 0, 3, 0⟩ l.length, .int .i64 f, .int .i64 t, .slice ⟨1, 0, 0, 1, 0⟩ fl.length] [.arr true .s3 l, .arr true .int fl] (Is (.tuple [.bool (isFl l f t fl), .bool (flowOk l f t fl)]) [.arr true .s3 l, .arr true .int fl]) := by
  refine ACall.walk T Try.func17 Try.ntmps17 Try.results17 rfl rfl rfl (Is.nv _ _) ?_
  repeat' (conv => whnf); first
    | refine AWP.seq ?_
    | refine AWP.reg T rfl ?_
    | refine AWP.drw T none rfl rfl rfl ?_
    | refine AWP.dep T none rfl rfl rfl rfl ?_
    | refine AWP.block ?_
    | refine AWP.condT rfl ?_
    | refine AWP.condF rfl ?_
    | refine AWP.cond rfl (fun hb => ?_) (fun hb => ?_)
    | refine AWP.ret ?_
    | refine AWP.exit ?_
    | refine AWP.skip ?_
    | refine GuardB.t ?_
    | refine GuardB.f ?_
    | refine GuardB.mk (fun hb => ?_) (fun hb => ?_)
    | refine NilQ.mk (fun hb => ?_) ?_
    | refine VC.mk Nat.zero_lt_one ?_
    | refine VC.mk rfl ?_
    | refine ACall.useIs [0] (l8Ask_call _ _ _ ?_) rfl (.cons (.same rfl rfl) (.nil _)) rfl ?_
    | refine ACall.useIs [0, 1] (l8Is_call _ _ _ _ ?_ ?_) rfl (.cons (.same rfl rfl) (.cons (.same rfl rfl) (.nil _))) rfl ?_
    | refine Ret.bb [0, 1] ?_ ?_ (.cons (.same rfl rfl) (.cons (.same rfl rfl) (.nil _))) rfl
    | refine VC.mk ?_ ?_
  all_goals try simp only [decide_eq_true_eq, decide_eq_false_iff_not, Bool.not_eq_true', Bool.not_eq_false', cond_true, cond_false, eqB_true, eqB_false] at *
  all_goals try simp only [in64, idxAdd_zero_left, Int.toNat_natCast, fillTo_length, Int.ofNat_lt, Int.ofNat_le, Int.natCast_inj] at *
  all_goals first
    | exact hl
    | (simp_all [isFl, flowOk, askB]; done)
    | (have hi : isFl l f t fl = true := by (simp_all [isFl, flowOk, askB]; done)
       have hs := isFl_spec hi
       first
       | exact hs.1
       | exact hs.2.2.2.2.1
       | exact hs.2.2.2.2.2.1)
    | (simp_all [isFl, flowOk, askB, flowM]; done)

theorem implIsFlow_call (l : List S3) (f t : Int) (fl : List Int) (hl : l.length ≤ 1048576) (hf : fl.length ≤ 1048576) : ACall Try.prog 19 [.slice ⟨0, 0, 0, 3, 0⟩ l.length, .int .i64 f, .int .i64 t, .slice ⟨1, 0, 0, 1, 0⟩ fl.length] [.arr true .s3 l, .arr true .int fl] (Is (.tuple [.bool (isFl l f t fl), .bool (flowOk l f t fl)]) [.arr true .s3 l, .arr true .int fl]) := by
  refine ACall.walk T Try.func19 Try.ntmps19 Try.results19 rfl rfl rfl (Is.nv _ _) ?_
  repeat' (conv => whnf); first
    | refine AWP.seq ?_
    | refine AWP.reg T rfl ?_
    | refine AWP.drw T none rfl rfl rfl ?_
    | refine AWP.dep T none rfl rfl rfl rfl ?_
    | refine AWP.block ?_
    | refine AWP.condT rfl ?_
    | refine AWP.condF rfl ?_
    | refine AWP.cond rfl (fun hb => ?_) (fun hb => ?_)
    | refine AWP.ret ?_
    | refine AWP.exit ?_
    | refine AWP.skip ?_
    | refine GuardB.t ?_
    | refine GuardB.f ?_
    | refine GuardB.mk (fun hb => ?_) (fun hb => ?_)
    | refine NilQ.mk (fun hb => ?_) ?_
    | refine VC.mk Nat.zero_lt_one ?_
    | refine VC.mk rfl ?_
    | refine ACall.useIs [0] (implGoodPipes_call _ ?_) rfl (.cons (.same rfl rfl) (.nil _)) rfl ?_
    | refine ACall.useIs [] (areUnlike_call _ _) rfl (.nil _) rfl ?_
    | refine ACall.useIs [0, 1] (isFlow_call _ _ _ _ ?_ ?_) rfl (.cons (.same rfl rfl) (.cons (.same rfl rfl) (.nil _))) rfl ?_
    | refine Ret.bb [0, 1] ?_ ?_ (.cons (.same rfl rfl) (.cons (.same rfl rfl) (.nil _))) rfl
    | refine VC.mk ?_ ?_
  all_goals try simp only [decide_eq_true_eq, decide_eq_false_iff_not, Bool.not_eq_true', Bool.not_eq_false', cond_true, cond_false, eqB_true, eqB_false] at *
  all_goals try simp only [in64, idxAdd_zero_left, Int.toNat_natCast, fillTo_length, Int.ofNat_lt, Int.ofNat_le, Int.natCast_inj] at *
  all_goals first
    | exact hl
    | (simp_all [isFl, flowOk, askB]; done)
    | (have hi : isFl l f t fl = true := by (simp_all [isFl, flowOk, askB]; done)
       have hs := isFl_spec hi
       first
       | exact hs.1
       | exact hs.2.2.2.2.1
       | exact hs.2.2.2.2.2.1)
    | (simp_all [isFl, flowOk, askB, flowM]; done)

theorem specFlowOf_call (l : List S3) (f t : Int) (fl : List Int) (hl : l.length ≤ 1048576) (hf : fl.length ≤ 1048576) : ACall Try.prog 23 [.slice ⟨0, 0, 0, 3, 0⟩ l.length, .int .i64 f, .int .i64 t, .slice ⟨1, 0, 0, 1, 0⟩ fl.length] [.arr true .s3 l, .arr true .int fl] (Is (.tuple [.int .i64 (flowM l f t fl), .bool (isFl l f t fl)]) [.arr true .s3 l, .arr true .int fl]) := by
  refine ACall.walk T Try.func23 Try.ntmps23 Try.results23 rfl rfl rfl (Is.nv _ _) ?_
  repeat' (conv => whnf); first
    | refine AWP.seq ?_
    | refine AWP.reg T rfl ?_
    | refine AWP.drw T none rfl rfl rfl ?_
    | refine AWP.dep T none rfl rfl rfl rfl ?_
    | refine AWP.block ?_
    | refine AWP.condT rfl ?_
    | refine AWP.condF rfl ?_
    | refine AWP.cond rfl (fun hb => ?_) (fun hb => ?_)
    | refine AWP.ret ?_
    | refine AWP.exit ?_
    | refine AWP.skip ?_
    | refine GuardB.t ?_
    | refine GuardB.f ?_
    | refine GuardB.mk (fun hb => ?_) (fun hb => ?_)
    | refine NilQ.mk (fun hb => ?_) ?_
    | refine VC.mk Nat.zero_lt_one ?_
    | refine VC.mk rfl ?_
    | refine ACall.useIs [0, 1] (specIsFlow_call _ _ _ _ ?_ ?_) rfl (.cons (.same rfl rfl) (.cons (.same rfl rfl) (.nil _))) rfl ?_
    | refine ACall.useIs [0, 1] (l8Out_call _ _ _ ?_ ?_ ?_) rfl (.cons (.same rfl rfl) (.cons (.same rfl rfl) (.nil _))) rfl ?_
    | refine Ret.ib [0, 1] ?_ ?_ (.cons (.same rfl rfl) (.cons (.same rfl rfl) (.nil _))) rfl
    | refine VC.mk ?_ ?_
  all_goals try simp only [decide_eq_true_eq, decide_eq_false_iff_not, Bool.not_eq_true', Bool.not_eq_false', cond_true, cond_false, eqB_true, eqB_false] at *
  all_goals try simp only [in64, idxAdd_zero_left, Int.toNat_natCast, fillTo_length, Int.ofNat_lt, Int.ofNat_le, Int.natCast_inj] at *
  all_goals first
    | exact hl
    | exact hf
    | (simp_all [isFl, flowOk, askB]; done)
    | (have hi : isFl l f t fl = true := by (simp_all [isFl, flowOk, askB]; done)
       have hs := isFl_spec hi
       first
       | exact hs.1
       | exact hs.2.2.2.2.1
       | exact hs.2.2.2.2.2.1)
    | (simp_all [isFl, flowOk, askB, flowM]; done)

theorem implFlowOf_call (l : List S3) (f t : Int) (fl : List Int) (hl : l.length ≤ 1048576) (hf : fl.length ≤ 1048576) : ACall Try.prog 24 [.slice ⟨0, 0, 0, 3, 0⟩ l.length, .int .i64 f, .int .i64 t, .slice ⟨1, 0, 0, 1, 0⟩ fl.length] [.arr true .s3 l, .arr true .int fl] (Is (.tuple [.int .i64 (flowM l f t fl), .bool (isFl l f t fl)]) [.arr true .s3 l, .arr true .int fl]) := by
  refine ACall.walk T Try.func24 Try.ntmps24 Try.results24 rfl rfl rfl (Is.nv _ _) ?_
  repeat' (conv => whnf); first
    | refine AWP.seq ?_
    | refine AWP.reg T rfl ?_
    | refine AWP.drw T none rfl rfl rfl ?_
    | refine AWP.dep T none rfl rfl rfl rfl ?_
    | refine AWP.block ?_
    | refine AWP.condT rfl ?_
    | refine AWP.condF rfl ?_
    | refine AWP.cond rfl (fun hb => ?_) (fun hb => ?_)
    | refine AWP.ret ?_
    | refine AWP.exit ?_
    | refine AWP.skip ?_
    | refine GuardB.t ?_
    | refine GuardB.f ?_
    | refine GuardB.mk (fun hb => ?_) (fun hb => ?_)
    | refine NilQ.mk (fun hb => ?_) ?_
    | refine VC.mk Nat.zero_lt_one ?_
    | refine VC.mk rfl ?_
    | refine ACall.useIs [0, 1] (implIsFlow_call _ _ _ _ ?_ ?_) rfl (.cons (.same rfl rfl) (.cons (.same rfl rfl) (.nil _))) rfl ?_
    | refine ACall.useIs [0, 1] (outOf_call _ _ _ ?_ ?_ ?_) rfl (.cons (.same rfl rfl) (.cons (.same rfl rfl) (.nil _))) rfl ?_
    | refine Ret.ib [0, 1] ?_ ?_ (.cons (.same rfl rfl) (.cons (.same rfl rfl) (.nil _))) rfl
    | refine VC.mk ?_ ?_
  all_goals try simp only [decide_eq_true_eq, decide_eq_false_iff_not, Bool.not_eq_true', Bool.not_eq_false', cond_true, cond_false, eqB_true, eqB_false] at *
  all_goals try simp only [in64, idxAdd_zero_left, Int.toNat_natCast, fillTo_length, Int.ofNat_lt, Int.ofNat_le, Int.natCast_inj] at *
  all_goals first
    | exact hl
    | exact hf
    | (simp_all [isFl, flowOk, askB]; done)
    | (have hi : isFl l f t fl = true := by (simp_all [isFl, flowOk, askB]; done)
       have hs := isFl_spec hi
       first
       | exact hs.1
       | exact hs.2.2.2.2.1
       | exact hs.2.2.2.2.2.1)
    | (simp_all [isFl, flowOk, askB, flowM]; done)

theorem lawIsFlow_call (l : List S3) (f t : Int) (fl : List Int) (hl : l.length ≤ 9223372036854775807) (hs : fl.length ≤ 9223372036854775807) : ACall Try.prog 4 [.slice ⟨0, 0, 0, 3, 0⟩ l.length, .int .i64 f, .int .i64 t, .slice ⟨1, 0, 0, 1, 0⟩ fl.length] [.arr true .s3 l, .arr true .int fl] (Is (.bool true) [.arr true .s3 l, .arr true .int fl]) := by
  refine ACall.walk T Try.func4 Try.ntmps4 Try.results4 rfl rfl rfl (Is.nv _ _) ?_
  repeat' (conv => whnf); first
    | refine AWP.seq ?_
    | refine AWP.reg T rfl ?_
    | refine AWP.drw T none rfl rfl rfl ?_
    | refine AWP.dep T none rfl rfl rfl rfl ?_
    | refine AWP.block ?_
    | refine AWP.condT rfl ?_
    | refine AWP.condF rfl ?_
    | refine AWP.cond rfl (fun hb => ?_) (fun hb => ?_)
    | refine AWP.ret ?_
    | refine AWP.exit ?_
    | refine AWP.skip ?_
    | refine GuardB.t ?_
    | refine GuardB.f ?_
    | refine GuardB.mk (fun hb => ?_) (fun hb => ?_)
    | refine NilQ.mk (fun hb => ?_) ?_
    | refine VC.mk Nat.zero_lt_one ?_
    | refine VC.mk rfl ?_
    | refine ACall.useIs [0] (szPipeS_call _ _ ?_ ?_) rfl (.cons (.same rfl rfl) (.nil _)) rfl ?_
    | refine ACall.useIs [0] (toPipeS_call _ ?_) rfl (.cons (.same rfl rfl) (.nil _)) rfl ?_
    | refine ACall.useIs [1] (toIntS_call _ ?_) rfl (.cons (.same rfl rfl) (.nil _)) rfl ?_
    | refine ACall.useIs [2, 3] (specIsFlow_call _ _ _ _ ?_ ?_) rfl (.cons (.ro rfl rfl) (.cons (.ro rfl rfl) (.nil _))) rfl ?_
    | refine ACall.useIs [4, 5] (implIsFlow_call _ _ _ _ ?_ ?_) rfl (.cons (.ro rfl rfl) (.cons (.ro rfl rfl) (.nil _))) rfl ?_
    | refine ACall.useIs [4, 6] (eqPipeS_call _ _ ?_) rfl (.cons (.ro rfl rfl) (.cons (.ro rfl rfl) (.nil _))) rfl ?_
    | refine ACall.useIs [5, 7] (eqIntS_call _ _ ?_) rfl (.cons (.ro rfl rfl) (.cons (.ro rfl rfl) (.nil _))) rfl ?_
    | refine Ret.bool [0, 1] ?_ (.cons (.same rfl rfl) (.cons (.same rfl rfl) (.nil _))) rfl
    | refine VC.mk ?_ ?_
  all_goals try simp only [decide_eq_true_eq, decide_eq_false_iff_not, Bool.not_eq_true', Bool.not_eq_false', cond_true, cond_false, eqB_true, eqB_false] at *
  all_goals try simp only [in64, idxAdd_zero_left, Int.toNat_natCast, fillTo_length, Int.ofNat_lt, Int.ofNat_le, Int.natCast_inj] at *
  all_goals first
    | rfl
    | omega
    | exact leftOf_ok (by assumption) (by omega)
    | simp_all [eqB]

theorem lawFlowOf_call (l : List S3) (f t : Int) (fl : List Int) (hl : l.length ≤ 9223372036854775807) (hs : fl.length ≤ 9223372036854775807) : ACall Try.prog 6 [.slice ⟨0, 0, 0, 3, 0⟩ l.length, .int .i64 f, .int .i64 t, .slice ⟨1, 0, 0, 1, 0⟩ fl.length] [.arr true .s3 l, .arr true .int fl] (Is (.bool true) [.arr true .s3 l, .arr true .int fl]) := by
  refine ACall.walk T Try.func6 Try.ntmps6 Try.results6 rfl rfl rfl (Is.nv _ _) ?_
  repeat' (conv => whnf); first
    | refine AWP.seq ?_
    | refine AWP.reg T rfl ?_
    | refine AWP.drw T none rfl rfl rfl ?_
    | refine AWP.dep T none rfl rfl rfl rfl ?_
    | refine AWP.block ?_
    | refine AWP.condT rfl ?_
    | refine AWP.condF rfl ?_
    | refine AWP.cond rfl (fun hb => ?_) (fun hb => ?_)
    | refine AWP.ret ?_
    | refine AWP.exit ?_
    | refine AWP.skip ?_
    | refine GuardB.t ?_
    | refine GuardB.f ?_
    | refine GuardB.mk (fun hb => ?_) (fun hb => ?_)
    | refine NilQ.mk (fun hb => ?_) ?_
    | refine VC.mk Nat.zero_lt_one ?_
    | refine VC.mk rfl ?_
    | refine ACall.useIs [0] (szPipeS_call _ _ ?_ ?_) rfl (.cons (.same rfl rfl) (.nil _)) rfl ?_
    | refine ACall.useIs [0] (toPipeS_call _ ?_) rfl (.cons (.same rfl rfl) (.nil _)) rfl ?_
    | refine ACall.useIs [1] (toIntS_call _ ?_) rfl (.cons (.same rfl rfl) (.nil _)) rfl ?_
    | refine ACall.useIs [2, 3] (specFlowOf_call _ _ _ _ ?_ ?_) rfl (.cons (.ro rfl rfl) (.cons (.ro rfl rfl) (.nil _))) rfl ?_
    | refine ACall.useIs [4, 5] (implFlowOf_call _ _ _ _ ?_ ?_) rfl (.cons (.ro rfl rfl) (.cons (.ro rfl rfl) (.nil _))) rfl ?_
    | refine ACall.useIs [4, 6] (eqPipeS_call _ _ ?_) rfl (.cons (.ro rfl rfl) (.cons (.ro rfl rfl) (.nil _))) rfl ?_
    | refine ACall.useIs [5, 7] (eqIntS_call _ _ ?_) rfl (.cons (.ro rfl rfl) (.cons (.ro rfl rfl) (.nil _))) rfl ?_
    | refine Ret.bool [0, 1] ?_ (.cons (.same rfl rfl) (.cons (.same rfl rfl) (.nil _))) rfl
    | refine VC.mk ?_ ?_
  all_goals try simp only [decide_eq_true_eq, decide_eq_false_iff_not, Bool.not_eq_true', Bool.not_eq_false', cond_true, cond_false, eqB_true, eqB_false] at *
  all_goals try simp only [in64, idxAdd_zero_left, Int.toNat_natCast, fillTo_length, Int.ofNat_lt, Int.ofNat_le, Int.natCast_inj] at *
  all_goals first
    | rfl
    | omega
    | exact leftOf_ok (by assumption) (by omega)
    | simp_all [eqB]

end YtgkpdnacfpdomaaAM
