/- Contracts of functions of this seat. -/
import Derived.Test.YtcljaokjjnmioaaAmTabRoads
import Derived.Test.YtcljaokjjnmioaaAmModels
import Derived.Test.YtcljaokjjnmioaaAmRoads1
set_option linter.unusedVariables false
set_option linter.unusedSimpArgs false
set_option maxRecDepth 100000
namespace YtcljaokjjnmioaaAM
open Go Go.Proofs

theorem settle_call (l : List S3) (c : List Int) (hg : goodRoads l = true) (hc : OkC c 0) : ACall Try.prog 52 [.slice ⟨0, 0, 0, 3, 0⟩ l.length, .slice ⟨1, 0, 0, 1, 0⟩ 8] [.arr true .s3 l, .arr false .int c] (Is (.bool (settleM l 9 c).2) [.arr true .s3 l, .arr false .int (settleM l 9 c).1]) := by
  refine ACall.walk T Try.func52 Try.ntmps52 Try.results52 rfl rfl rfl (Is.nv _ _) ?_
  repeat' (conv => whnf); first
    | refine AWP.seq ?_
    | refine AWP.reg T rfl ?_
    | refine AWP.drw T none rfl rfl rfl ?_
    | refine AWP.block ?_
    | refine AWP.condT rfl ?_
    | refine AWP.condF rfl ?_
    | refine AWP.cond rfl (fun hb => ?_) (fun hb => ?_)
    | refine AWP.ret ?_
    | refine AWP.exit ?_
    | refine AWP.skip ?_
    | refine GuardB.t ?_
    | refine GuardB.f ?_
    | refine GuardB.mk (fun hb => ?_) (fun hb => ?_)
    | refine VC.mk Nat.zero_lt_one ?_
    | refine VC.mk rfl ?_
    | refine AWP.while (ι := Nat) (fun k => St.of [(0, .slice ⟨0, 0, 0, 3, 0⟩ l.length), (1, .slice ⟨1, 0, 0, 1, 0⟩ 8), (5, .bool (foldTo relax (x.2, false) l k).2), (8, .int .i64 x.1), (10, .slice ⟨0, 0, 0, 3, 0⟩ l.length), (11, .int .i64 l.length), (12, .int .i64 k)] [.arr true .s3 l, .arr false .int (foldTo relax (x.2, false) l k).1]) (fun k => k ≤ l.length) (fun k => l.length - k) 0 (Nat.zero_le _)
        (Weak.of [0, 1] (.cons rfl rfl (.cons rfl rfl (.cons rfl rfl (.cons rfl rfl (.cons rfl rfl (.cons rfl rfl (.cons rfl rfl .nil))))))) (.cons (.same rfl rfl) (.cons (.same rfl rfl) (.nil _))) rfl) (fun k hk => ?_)
    | refine AWP.while (ι := Nat × List Int) (fun x => St.of [(0, .slice ⟨0, 0, 0, 3, 0⟩ l.length), (1, .slice ⟨1, 0, 0, 1, 0⟩ 8), (8, .int .i64 x.1)] [.arr true .s3 l, .arr false .int x.2]) (fun x => Round l c x.1 x.2) (fun x => 9 - x.1) (0, c) (Round.zero hc)
        (Weak.of [0, 1] (.cons rfl rfl (.cons rfl rfl (.cons rfl rfl .nil))) (.cons (.same rfl rfl) (.cons (.same rfl rfl) (.nil _))) rfl) (fun x hx => ?_)
    | refine Ret.bool [0, 1] ?_ (.cons (.same rfl rfl) (.cons (.arr rfl ?_) (.nil _))) rfl
    | refine roundEnd (k + 1) ?_ ?_ (Weak.of [0, 1] (.cons rfl rfl (.cons rfl rfl (.b rfl ?_ (.cons rfl rfl (.cons rfl rfl (.cons rfl rfl (.cons rfl rfl .nil))))))) (.cons (.same rfl rfl) (.cons (.arr rfl ?_) (.nil _))) rfl)
    | refine roundEnd (x.1 + 1, (foldTo relax (x.2, false) l l.length).1) ?_ ?_ (Weak.of [0, 1] (.cons rfl rfl (.cons rfl rfl (.cons rfl rfl .nil))) (.cons (.same rfl rfl) (.cons (.arr rfl ?_) (.nil _))) rfl)
    | refine VC.mk ?_ ?_
  all_goals try simp only [decide_eq_true_eq, decide_eq_false_iff_not, Bool.not_eq_true', Bool.not_eq_false', cond_true, cond_false, eqB_true, eqB_false] at *
  all_goals try simp only [in64, idxAdd_zero_left, Int.toNat_natCast, fillTo_length, Int.ofNat_lt, Int.ofNat_le, Int.natCast_inj] at *
  all_goals try
    have h2 : k < l.length := by omega
    simp only [getD_get h2] at *
    have gr := goodRoad_iff.1 (goodRoads_get hg h2)
    have ok := OkC.fold hg hx.ok (by omega) false k hk
    have lo := ok.lo l[k].a.toNat (by omega)
    have hi := ok.hi l[k].a.toNat (by omega)
    have hle := hx.le
    have hlen := ok.len
    have hfar : Far = 1000000000 := rfl
    have hlr := goodRoads_len hg
  all_goals first
    | omega
    | (have := hx.le; omega)
    | (have h3 := foldTo_succ relax (x.2, false) l h2
       rw [relax, if_pos ⟨by omega, by omega⟩] at h3
       rw [h3])
    | (have h3 := foldTo_succ relax (x.2, false) l h2
       rw [relax, if_neg (by omega)] at h3
       rw [h3])
    | (have e : k = l.length := by omega
       subst e
       first | rfl | rw [hx.rest (by omega) (by assumption)] | exact hx.next (by omega) hg (by assumption))
    | (obtain ⟨j, d⟩ := x; simp only at *; have e : j = 9 := by have := hx.le; omega
       subst e
       rw [hx.end])

theorem l11Relax_call (l : List S3) (c : List Int) (hg : goodRoads l = true) (hc : OkC c 0) : ACall Try.prog 66 [.slice ⟨0, 0, 0, 3, 0⟩ l.length, .slice ⟨1, 0, 0, 1, 0⟩ 8] [.arr true .s3 l, .arr true .int c] (Is (.tuple [.slice ⟨2, 0, 0, 1, 0⟩ 8, .bool (!(settleM l 9 c).2)]) [.arr true .s3 l, .arr true .int c, .arr false .int (settleM l 9 c).1]) := by
  refine ACall.walk T Try.func66 Try.ntmps66 Try.results66 rfl rfl rfl (Is.nv _ _) ?_
  repeat' (conv => whnf); first
    | refine AWP.seq ?_
    | refine AWP.reg T rfl ?_
    | refine AWP.drw T none rfl rfl rfl ?_
    | refine AWP.block ?_
    | refine AWP.condT rfl ?_
    | refine AWP.condF rfl ?_
    | refine AWP.cond rfl (fun hb => ?_) (fun hb => ?_)
    | refine AWP.ret ?_
    | refine AWP.exit ?_
    | refine AWP.skip ?_
    | refine GuardB.t ?_
    | refine GuardB.f ?_
    | refine GuardB.mk (fun hb => ?_) (fun hb => ?_)
    | refine VC.mk Nat.zero_lt_one ?_
    | refine VC.mk rfl ?_
    | refine AWP.while (ι := Nat) (fun k => St.of [(0, .slice ⟨0, 0, 0, 3, 0⟩ l.length), (6, .slice ⟨2, 0, 0, 1, 0⟩ 8), (7, .int .i64 x.1), (8, .bool (foldTo relax (x.2, false) l k).2), (18, .slice ⟨0, 0, 0, 3, 0⟩ l.length), (19, .int .i64 l.length), (20, .int .i64 k)] [.arr true .s3 l, .arr true .int c, .arr false .int (foldTo relax (x.2, false) l k).1]) (fun k => k ≤ l.length) (fun k => l.length - k) 0 (Nat.zero_le _)
        (Weak.of [0, 1, 2] (.cons rfl rfl (.cons rfl rfl (.cons rfl rfl (.cons rfl rfl (.cons rfl rfl (.cons rfl rfl (.cons rfl rfl .nil))))))) (.cons (.same rfl rfl) (.cons (.same rfl rfl) (.cons (.same rfl rfl) (.nil _)))) rfl) (fun k hk => ?_)
    | refine AWP.while (ι := Nat × List Int) (fun x => St.of [(0, .slice ⟨0, 0, 0, 3, 0⟩ l.length), (6, .slice ⟨2, 0, 0, 1, 0⟩ 8), (7, .int .i64 x.1)] [.arr true .s3 l, .arr true .int c, .arr false .int x.2]) (fun x => Round l c x.1 x.2) (fun x => 9 - x.1) (0, c) (Round.zero hc)
        (Weak.of [0, 1, 4] (.cons rfl rfl (.cons rfl rfl (.cons rfl rfl .nil))) (.cons (.same rfl rfl) (.cons (.same rfl rfl) (.cons (.arr rfl (by have := hc.len; simp [sub, ← this])) (.nil _)))) rfl) (fun x hx => ?_)
    | refine Ret.vb [0, 1, 2] rfl ?_ (.cons (.same rfl rfl) (.cons (.same rfl rfl) (.cons (.arr rfl ?_) (.nil _)))) rfl
    | refine roundEnd (k + 1) ?_ ?_ (Weak.of [0, 1, 2] (.cons rfl rfl (.cons rfl rfl (.cons rfl rfl (.b rfl ?_ (.cons rfl rfl (.cons rfl rfl (.cons rfl rfl .nil))))))) (.cons (.same rfl rfl) (.cons (.same rfl rfl) (.cons (.arr rfl ?_) (.nil _)))) rfl)
    | refine roundEnd (x.1 + 1, (foldTo relax (x.2, false) l l.length).1) ?_ ?_ (Weak.of [0, 1, 2] (.cons rfl rfl (.cons rfl rfl (.cons rfl rfl .nil))) (.cons (.same rfl rfl) (.cons (.same rfl rfl) (.cons (.arr rfl ?_) (.nil _)))) rfl)
    | refine VC.mk ?_ ?_
  all_goals try have hclen := hc.len
  all_goals try simp only [decide_eq_true_eq, decide_eq_false_iff_not, Bool.not_eq_true', Bool.not_eq_false', cond_true, cond_false, eqB_true, eqB_false] at *
  all_goals try simp only [in64, idxAdd_zero_left, Int.toNat_natCast, fillTo_length, Int.ofNat_lt, Int.ofNat_le, Int.natCast_inj] at *
  all_goals try
    have h2 : k < l.length := by omega
    simp only [getD_get h2] at *
    have gr := goodRoad_iff.1 (goodRoads_get hg h2)
    have ok := OkC.fold hg hx.ok (by omega) false k hk
    have lo := ok.lo l[k].a.toNat (by omega)
    have hi := ok.hi l[k].a.toNat (by omega)
    have hle := hx.le
    have hlen := ok.len
    have hfar : Far = 1000000000 := rfl
    have hlr := goodRoads_len hg
  all_goals first
    | omega
    | (simp; omega)
    | (have := hx.le; omega)
    | (have h3 := foldTo_succ relax (x.2, false) l h2
       rw [relax, if_pos ⟨by omega, by omega⟩] at h3
       rw [h3])
    | (have h3 := foldTo_succ relax (x.2, false) l h2
       rw [relax, if_neg (by omega)] at h3
       rw [h3])
    | (have e : k = l.length := by omega
       subst e
       first | rfl | (rw [hx.rest (by omega) (by assumption)]; done) | (rw [hx.rest (by omega) (by assumption)]; rfl) | exact hx.next (by omega) hg (by assumption))
    | (obtain ⟨j, d⟩ := x; simp only at *; have e : j = 9 := by have := hx.le; omega
       subst e
       first | (rw [hx.end]; done) | (rw [hx.end]; rfl))

theorem implHasGain_call (l : List S3) (hl : l.length ≤ 1048576) : ACall Try.prog 18 [.slice ⟨0, 0, 0, 3, 0⟩ l.length] [.arr true .s3 l] (Is (.tuple [.bool (hasGain l), .bool (goodRoads l)]) [.arr true .s3 l]) := by
  refine ACall.walk T Try.func18 Try.ntmps18 Try.results18 rfl rfl rfl (Is.nv _ _) ?_
  repeat' (conv => whnf); first
    | refine AWP.seq ?_
    | refine AWP.reg T rfl ?_
    | refine AWP.drw T none rfl rfl rfl ?_
    | refine AWP.block ?_
    | refine AWP.condT rfl ?_
    | refine AWP.condF rfl ?_
    | refine AWP.cond rfl (fun hb => ?_) (fun hb => ?_)
    | refine AWP.ret ?_
    | refine AWP.exit ?_
    | refine AWP.skip ?_
    | refine GuardB.t ?_
    | refine GuardB.f ?_
    | refine GuardB.mk (fun hb => ?_) (fun hb => ?_)
    | refine VC.mk Nat.zero_lt_one ?_
    | refine VC.mk rfl ?_
    | refine ACall.useIs [0] (implGoodRoads_call _ ?_) rfl (.cons (.same rfl rfl) (.nil _)) rfl ?_
    | refine ACall.useIs [0, 1] (settle_call _ zeros ?_ OkC.zeros) rfl (.cons (.same rfl rfl) (.cons (.same rfl rfl) (.nil _))) rfl ?_
    | refine Ret.bb [0] ?_ ?_ (.cons (.same rfl rfl) (.nil _)) rfl
    | refine VC.mk ?_ ?_
  all_goals try simp only [decide_eq_true_eq, decide_eq_false_iff_not, Bool.not_eq_true', Bool.not_eq_false', cond_true, cond_false, eqB_true, eqB_false] at *
  all_goals try simp only [in64, idxAdd_zero_left, Int.toNat_natCast, fillTo_length, Int.ofNat_lt, Int.ofNat_le, Int.natCast_inj] at *
  all_goals first
    | exact hl
    | exact OkC.zeros
    | (rw [potOf_length (by simp_all)]; done)
    | (simp_all [potOf]; done)
    | (simp_all [hasGain, fine]; done)
    | (simp_all [hasGain, fine, potOf]; done)

theorem l11Potentials_call (l : List S3) (hg : goodRoads l = true) : ACall Try.prog 51 [.slice ⟨0, 0, 0, 3, 0⟩ l.length] [.arr true .s3 l] (Is (.tuple [.slice ⟨1, 0, 0, 1, 0⟩ 8, .bool (!(settleM l 9 zeros).2)]) [.arr true .s3 l, .arr false .int (settleM l 9 zeros).1]) := by
  refine ACall.walk T Try.func51 Try.ntmps51 Try.results51 rfl rfl rfl (Is.nv _ _) ?_
  repeat' (conv => whnf); first
    | refine AWP.seq ?_
    | refine AWP.reg T rfl ?_
    | refine AWP.drw T none rfl rfl rfl ?_
    | refine AWP.block ?_
    | refine AWP.condT rfl ?_
    | refine AWP.condF rfl ?_
    | refine AWP.cond rfl (fun hb => ?_) (fun hb => ?_)
    | refine AWP.ret ?_
    | refine AWP.exit ?_
    | refine AWP.skip ?_
    | refine GuardB.t ?_
    | refine GuardB.f ?_
    | refine GuardB.mk (fun hb => ?_) (fun hb => ?_)
    | refine VC.mk Nat.zero_lt_one ?_
    | refine VC.mk rfl ?_
    | refine ACall.useIs [0, 2] (l11Relax_call _ zeros hg OkC.zeros) rfl (.cons (.same rfl rfl) (.cons (.ro rfl rfl) (.nil _))) rfl ?_
    | refine Ret.vb [0, 3] rfl rfl (.cons (.same rfl rfl) (.cons (.same rfl rfl) (.nil _))) rfl
    | refine VC.mk ?_ ?_
  all_goals try simp only [decide_eq_true_eq, decide_eq_false_iff_not, Bool.not_eq_true', Bool.not_eq_false', cond_true, cond_false, eqB_true, eqB_false] at *
  all_goals try simp only [in64, idxAdd_zero_left, Int.toNat_natCast, fillTo_length, Int.ofNat_lt, Int.ofNat_le, Int.natCast_inj] at *
  all_goals first
    | exact hl
    | exact OkC.zeros
    | (rw [potOf_length (by simp_all)]; done)
    | (simp_all [potOf]; done)
    | (simp_all [hasGain, fine]; done)
    | (simp_all [hasGain, fine, potOf]; done)

theorem specHasGain_call (l : List S3) (hl : l.length ≤ 1048576) : ACall Try.prog 17 [.slice ⟨0, 0, 0, 3, 0⟩ l.length] [.arr true .s3 l] (Is (.tuple [.bool (hasGain l), .bool (goodRoads l)]) [.arr true .s3 l]) := by
  refine ACall.walk T Try.func17 Try.ntmps17 Try.results17 rfl rfl rfl (Is.nv _ _) ?_
  repeat' (conv => whnf); first
    | refine AWP.seq ?_
    | refine AWP.reg T rfl ?_
    | refine AWP.drw T none rfl rfl rfl ?_
    | refine AWP.block ?_
    | refine AWP.condT rfl ?_
    | refine AWP.condF rfl ?_
    | refine AWP.cond rfl (fun hb => ?_) (fun hb => ?_)
    | refine AWP.ret ?_
    | refine AWP.exit ?_
    | refine AWP.skip ?_
    | refine GuardB.t ?_
    | refine GuardB.f ?_
    | refine GuardB.mk (fun hb => ?_) (fun hb => ?_)
    | refine VC.mk Nat.zero_lt_one ?_
    | refine VC.mk rfl ?_
    | refine ACall.useIs [0] (specGoodRoads_call _ ?_) rfl (.cons (.same rfl rfl) (.nil _)) rfl ?_
    | refine ACall.useIs [0] (l11Potentials_call _ ?_) rfl (.cons (.same rfl rfl) (.nil _)) rfl ?_
    | refine Ret.bb [0] ?_ ?_ (.cons (.same rfl rfl) (.nil _)) rfl
    | refine VC.mk ?_ ?_
  all_goals try simp only [decide_eq_true_eq, decide_eq_false_iff_not, Bool.not_eq_true', Bool.not_eq_false', cond_true, cond_false, eqB_true, eqB_false] at *
  all_goals try simp only [in64, idxAdd_zero_left, Int.toNat_natCast, fillTo_length, Int.ofNat_lt, Int.ofNat_le, Int.natCast_inj] at *
  all_goals first
    | exact hl
    | exact OkC.zeros
    | (rw [potOf_length (by simp_all)]; done)
    | (simp_all [potOf]; done)
    | (simp_all [hasGain, fine]; done)
    | (simp_all [hasGain, fine, potOf]; done)

theorem calm_call (l : List S3) (hl : l.length ≤ 1048576) : ACall Try.prog 55 [.slice ⟨0, 0, 0, 3, 0⟩ l.length] [.arr true .s3 l] (Is (.bool (fine l)) [.arr true .s3 l]) := by
  refine ACall.walk T Try.func55 Try.ntmps55 Try.results55 rfl rfl rfl (Is.nv _ _) ?_
  repeat' (conv => whnf); first
    | refine AWP.seq ?_
    | refine AWP.reg T rfl ?_
    | refine AWP.drw T none rfl rfl rfl ?_
    | refine AWP.block ?_
    | refine AWP.condT rfl ?_
    | refine AWP.condF rfl ?_
    | refine AWP.cond rfl (fun hb => ?_) (fun hb => ?_)
    | refine AWP.ret ?_
    | refine AWP.exit ?_
    | refine AWP.skip ?_
    | refine GuardB.t ?_
    | refine GuardB.f ?_
    | refine GuardB.mk (fun hb => ?_) (fun hb => ?_)
    | refine VC.mk Nat.zero_lt_one ?_
    | refine VC.mk rfl ?_
    | refine ACall.useIs [0] (implHasGain_call _ ?_) rfl (.cons (.same rfl rfl) (.nil _)) rfl ?_
    | refine Ret.bool [0] ?_ (.cons (.same rfl rfl) (.nil _)) rfl
    | refine VC.mk ?_ ?_
  all_goals try simp only [decide_eq_true_eq, decide_eq_false_iff_not, Bool.not_eq_true', Bool.not_eq_false', cond_true, cond_false, eqB_true, eqB_false] at *
  all_goals try simp only [in64, idxAdd_zero_left, Int.toNat_natCast, fillTo_length, Int.ofNat_lt, Int.ofNat_le, Int.natCast_inj] at *
  all_goals first
    | exact hl
    | exact OkC.zeros
    | (rw [potOf_length (by simp_all)]; done)
    | (simp_all [potOf]; done)
    | (simp_all [hasGain, fine]; done)
    | (simp_all [hasGain, fine, potOf]; done)

theorem l11Fine_call (l : List S3) (hl : l.length ≤ 1048576) : ACall Try.prog 53 [.slice ⟨0, 0, 0, 3, 0⟩ l.length] [.arr true .s3 l] (Is (.bool (fine l)) [.arr true .s3 l]) := by
  refine ACall.walk T Try.func53 Try.ntmps53 Try.results53 rfl rfl rfl (Is.nv _ _) ?_
  repeat' (conv => whnf); first
    | refine AWP.seq ?_
    | refine AWP.reg T rfl ?_
    | refine AWP.drw T none rfl rfl rfl ?_
    | refine AWP.block ?_
    | refine AWP.condT rfl ?_
    | refine AWP.condF rfl ?_
    | refine AWP.cond rfl (fun hb => ?_) (fun hb => ?_)
    | refine AWP.ret ?_
    | refine AWP.exit ?_
    | refine AWP.skip ?_
    | refine GuardB.t ?_
    | refine GuardB.f ?_
    | refine GuardB.mk (fun hb => ?_) (fun hb => ?_)
    | refine VC.mk Nat.zero_lt_one ?_
    | refine VC.mk rfl ?_
    | refine ACall.useIs [0] (specHasGain_call _ ?_) rfl (.cons (.same rfl rfl) (.nil _)) rfl ?_
    | refine Ret.bool [0] ?_ (.cons (.same rfl rfl) (.nil _)) rfl
    | refine VC.mk ?_ ?_
  all_goals try simp only [decide_eq_true_eq, decide_eq_false_iff_not, Bool.not_eq_true', Bool.not_eq_false', cond_true, cond_false, eqB_true, eqB_false] at *
  all_goals try simp only [in64, idxAdd_zero_left, Int.toNat_natCast, fillTo_length, Int.ofNat_lt, Int.ofNat_le, Int.natCast_inj] at *
  all_goals first
    | exact hl
    | exact OkC.zeros
    | (rw [potOf_length (by simp_all)]; done)
    | (simp_all [potOf]; done)
    | (simp_all [hasGain, fine]; done)
    | (simp_all [hasGain, fine, potOf]; done)

theorem specPotentialsOf_call (l : List S3) (hl : l.length ≤ 1048576) : ACall Try.prog 19 [.slice ⟨0, 0, 0, 3, 0⟩ l.length] [.arr true .s3 l] (Is (.tuple [.slice ⟨1, 0, 0, 1, 0⟩ (potOf l).length, .bool (fine l)]) [.arr true .s3 l, .arr false .int (potOf l)]) := by
  refine ACall.walk T Try.func19 Try.ntmps19 Try.results19 rfl rfl rfl (Is.nv _ _) ?_
  repeat' (conv => whnf); first
    | refine AWP.seq ?_
    | refine AWP.reg T rfl ?_
    | refine AWP.drw T none rfl rfl rfl ?_
    | refine AWP.block ?_
    | refine AWP.condT rfl ?_
    | refine AWP.condF rfl ?_
    | refine AWP.cond rfl (fun hb => ?_) (fun hb => ?_)
    | refine AWP.ret ?_
    | refine AWP.exit ?_
    | refine AWP.skip ?_
    | refine GuardB.t ?_
    | refine GuardB.f ?_
    | refine GuardB.mk (fun hb => ?_) (fun hb => ?_)
    | refine VC.mk Nat.zero_lt_one ?_
    | refine VC.mk rfl ?_
    | refine ACall.useIs [0] (l11Fine_call _ ?_) rfl (.cons (.same rfl rfl) (.nil _)) rfl ?_
    | refine ACall.useIs [0] (l11Potentials_call _ ?_) rfl (.cons (.same rfl rfl) (.nil _)) rfl ?_
    | refine Ret.sb [0, 2] rfl ?_ ?_ (.cons (.same rfl rfl) (.cons (.arr rfl ?_) (.nil _))) rfl
    | refine VC.mk ?_ ?_
  all_goals try simp only [decide_eq_true_eq, decide_eq_false_iff_not, Bool.not_eq_true', Bool.not_eq_false', cond_true, cond_false, eqB_true, eqB_false] at *
  all_goals try simp only [in64, idxAdd_zero_left, Int.toNat_natCast, fillTo_length, Int.ofNat_lt, Int.ofNat_le, Int.natCast_inj] at *
  all_goals first
    | exact hl
    | exact OkC.zeros
    | (rw [potOf_length (by simp_all)]; done)
    | (simp_all [potOf]; done)
    | (simp_all [hasGain, fine]; done)
    | (simp_all [hasGain, fine, potOf]; done)

end YtcljaokjjnmioaaAM
