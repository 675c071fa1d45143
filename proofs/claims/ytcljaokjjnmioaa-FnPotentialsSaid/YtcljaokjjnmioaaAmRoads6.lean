/- Contracts of functions of this seat. -/
import Derived.Test.YtcljaokjjnmioaaAmTabRoads
import Derived.Test.YtcljaokjjnmioaaAmModels
import Derived.Test.YtcljaokjjnmioaaAmRevModels
set_option linter.unusedVariables false
set_option linter.unusedSimpArgs false
set_option maxRecDepth 100000
set_option maxHeartbeats 2000000
namespace YtcljaokjjnmioaaAM
open Go Go.Proofs
attribute [local irreducible] foldN wbN wbE wbL wbOk pickR pickP goW stW costFrom idxF hasB fine okWay wayL revN

theorem Fit1.celli {φ : Nat → Nat} {N : Nat} {ro : Bool} {k : IntKind} {v v' : Int} (h : v' = v) : Fit1 φ N (some (.arr ro (.raw 1) [[.int k v]])) (.arr ro (.raw 1) [[.int k v']]) := by subst h; exact .same rfl rfl
theorem ok_at {c : List Int} (ok : OkC c 18000) (i : Int) (h : 0 ≤ i ∧ i < 8) : -18000 ≤ c.getD i.toNat 0 ∧ c.getD i.toNat 0 ≤ Far := ⟨ok.lo _ (by omega), ok.hi _ (by omega)⟩
theorem has_call' (l : List Int) (m : Int) (n : Nat) (hn : n = l.length) (hl : n ≤ 1048576) : ACall Try.prog 61 [.slice ⟨0, 0, 0, 1, 0⟩ n, .int .i64 m] [.arr true .int l] (Is (.bool (hasB l m)) [.arr true .int l]) := by subst hn; exact slicesContains_call l m hl
theorem l1Has_call' (l : List Int) (m : Int) (n : Nat) (hn : n = l.length) (hl : n ≤ 1048576) : ACall Try.prog 58 [.slice ⟨0, 0, 0, 1, 0⟩ n, .int .i64 m] [.arr true .int l] (Is (.bool (hasB l m)) [.arr true .int l]) := by subst hn; exact l1Has_call l m hl

theorem wbHit_call (r : S3) (c : List Int) (s : WS) (n : Nat) (hn : n = s.met.length) (hm : n ≤ 1048576) (ok : OkC c 18000) (hs : 0 ≤ s.at' ∧ s.at' < 8) (hr : (0 ≤ r.a ∧ r.a < 8) ∧ (0 ≤ r.b ∧ r.b < 8) ∧ (-100 ≤ r.c ∧ r.c ≤ 100)) : ACall Try.prog 60 [s3V r, .ptr ⟨0, 0, 0, 1, 0⟩, .ptr ⟨1, 0, 0, 1, 0⟩, .ptr ⟨2, 0, 0, 1, 0⟩] [.arr false (.raw 1) [[.int .i64 s.at']], .arr false (.raw 1) [[.slice ⟨3, 0, 0, 1, 0⟩ 8]], .arr false (.raw 1) [[.slice ⟨4, 0, 0, 1, 0⟩ n]], .arr false .int c, .arr false .int s.met] (Is (.bool (pickP c s r)) [.arr false (.raw 1) [[.int .i64 s.at']], .arr false (.raw 1) [[.slice ⟨3, 0, 0, 1, 0⟩ 8]], .arr false (.raw 1) [[.slice ⟨4, 0, 0, 1, 0⟩ n]], .arr false .int c, .arr false .int s.met]) := by
  refine ACall.walk T Try.func60 Try.ntmps60 Try.results60 rfl rfl rfl (Is.nv _ _) ?_
  repeat' (conv => whnf); first
    | refine AWP.seq ?_
    | refine AWP.reg T rfl ?_
    | refine AWP.drw T none rfl rfl rfl ?_
    | refine AWP.dep T none rfl rfl rfl rfl ?_
    | refine AWP.block ?_
    | refine AWP.condT rfl ?_
    | refine AWP.condF rfl ?_
    | refine AWP.cond rfl (fun hb => ?_) (fun hb => ?_)
    | refine AWP.ret ?_
    | refine AWP.exit ?_
    | refine AWP.skip ?_
    | refine GuardB.t ?_
    | refine GuardB.f ?_
    | refine GuardB.mk (fun hb => ?_) (fun hb => ?_)
    | refine NilQ.mk (fun hb => ?_) ?_
    | refine VC.mk Nat.zero_lt_one ?_
    | refine VC.mk rfl ?_
    | refine AWP.drw T (some [0, 1, 2, 3, 5]) rfl rfl rfl ?_
    | refine ACall.useIs [4] (has_call' _ _ _ ?_ ?_) rfl (.cons (.ro rfl rfl) (.nil _)) rfl ?_
    | refine Ret.bool [0, 1, 2, 3, 4] ?_ (.cons (.same rfl rfl) (.cons (.same rfl rfl) (.cons (.same rfl rfl) (.cons (.same rfl rfl) (.cons (.same rfl rfl) (.nil _)))))) rfl
    | refine VC.mk ?_ ?_
  all_goals try simp only [decide_eq_true_eq, decide_eq_false_iff_not, Bool.not_eq_true', Bool.not_eq_false', cond_true, cond_false, eqB_true, eqB_false] at *
  all_goals try simp only [in64, idxAdd_zero_left, Int.toNat_natCast, fillTo_length, Int.ofNat_lt, Int.ofNat_le, Int.natCast_inj] at *
  all_goals try have hA := ok_at ok _ hr.1
  all_goals try have hB := ok_at ok _ hs
  all_goals try have hlen := ok.len
  all_goals try unfold Far at *
  all_goals first
    | omega
    | exact ⟨by omega, by omega⟩
    | exact ⟨rfl, trivial⟩
    | exact hn
    | (simp_all [pickP, Far]; done)
    | (simp_all [pickP, Far]; omega)

theorem idxHit_call (c : List Int) (s : WS) (n : Nat) (hn : n = s.met.length) (hm : n ≤ 1048576) (ok : OkC c 18000) (hs : 0 ≤ s.at' ∧ s.at' < 8) (l : List S3) (hg : goodRoads l = true) (hl : l.length ≤ 1048576) : ACall Try.prog 59 [.slice ⟨0, 0, 0, 3, 0⟩ l.length, .func 60 [.ptr ⟨1, 0, 0, 1, 0⟩, .ptr ⟨2, 0, 0, 1, 0⟩, .ptr ⟨3, 0, 0, 1, 0⟩]] [.arr true .s3 l, .arr false (.raw 1) [[.int .i64 s.at']], .arr false (.raw 1) [[.slice ⟨4, 0, 0, 1, 0⟩ 8]], .arr false (.raw 1) [[.slice ⟨5, 0, 0, 1, 0⟩ n]], .arr false .int c, .arr false .int s.met] (Is (.int .i64 (idxF (pickP c s) l)) [.arr true .s3 l, .arr false (.raw 1) [[.int .i64 s.at']], .arr false (.raw 1) [[.slice ⟨4, 0, 0, 1, 0⟩ 8]], .arr false (.raw 1) [[.slice ⟨5, 0, 0, 1, 0⟩ n]], .arr false .int c, .arr false .int s.met]) := by
  refine ACall.walk T Try.func59 Try.ntmps59 Try.results59 rfl rfl rfl (Is.nv _ _) ?_
  repeat' (conv => whnf); first
    | refine AWP.seq ?_
    | refine AWP.reg T rfl ?_
    | refine AWP.drw T none rfl rfl rfl ?_
    | refine AWP.dep T none rfl rfl rfl rfl ?_
    | refine AWP.block ?_
    | refine AWP.condT rfl ?_
    | refine AWP.condF rfl ?_
    | refine AWP.cond rfl (fun hb => ?_) (fun hb => ?_)
    | refine AWP.ret ?_
    | refine AWP.exit ?_
    | refine AWP.skip ?_
    | refine GuardB.t ?_
    | refine GuardB.f ?_
    | refine GuardB.mk (fun hb => ?_) (fun hb => ?_)
    | refine NilQ.mk (fun hb => ?_) ?_
    | refine VC.mk Nat.zero_lt_one ?_
    | refine VC.mk rfl ?_
    | refine AWP.while (ι := Nat) (fun k => St.of [(0, .slice ⟨0, 0, 0, 3, 0⟩ l.length), (1, .func 60 [.ptr ⟨1, 0, 0, 1, 0⟩, .ptr ⟨2, 0, 0, 1, 0⟩, .ptr ⟨3, 0, 0, 1, 0⟩]), (7, .int .i64 l.length), (8, .int .i64 k)] [.arr true .s3 l, .arr false (.raw 1) [[.int .i64 s.at']], .arr false (.raw 1) [[.slice ⟨4, 0, 0, 1, 0⟩ 8]], .arr false (.raw 1) [[.slice ⟨5, 0, 0, 1, 0⟩ n]], .arr false .int c, .arr false .int s.met]) (fun k => NoneTo (pickP c s) l k) (fun k => l.length - k) 0 (NoneTo.zero _ _)
        (Weak.of [0, 1, 2, 3, 4, 5] (.cons rfl rfl (.cons rfl rfl (.cons rfl rfl (.cons rfl rfl .nil)))) (.cons (.same rfl rfl) (.cons (.same rfl rfl) (.cons (.same rfl rfl) (.cons (.same rfl rfl) (.cons (.same rfl rfl) (.cons (.same rfl rfl) (.nil _))))))) rfl) (fun k hk => ?_)
    | refine ACall.useIs [1, 2, 3, 4, 5] (wbHit_call _ c s n hn hm ok hs (road_rng hg _)) rfl (.cons (.same rfl rfl) (.cons (.same rfl rfl) (.cons (.same rfl rfl) (.cons (.same rfl rfl) (.cons (.same rfl rfl) (.nil _)))))) rfl ?_
    | refine Ret.int [0, 1, 2, 3, 4, 5] ?_ (.cons (.same rfl rfl) (.cons (.same rfl rfl) (.cons (.same rfl rfl) (.cons (.same rfl rfl) (.cons (.same rfl rfl) (.cons (.same rfl rfl) (.nil _))))))) rfl
    | refine roundEnd (_ + 1) ?_ ?_ (Weak.of [0, 1, 2, 3, 4, 5] (.cons rfl rfl (.cons rfl rfl (.cons rfl rfl (.cons rfl rfl .nil)))) (.cons (.same rfl rfl) (.cons (.same rfl rfl) (.cons (.same rfl rfl) (.cons (.same rfl rfl) (.cons (.same rfl rfl) (.cons (.same rfl rfl) (.nil _))))))) rfl)
    | refine VC.mk ?_ ?_
  all_goals try simp only [decide_eq_true_eq, decide_eq_false_iff_not, Bool.not_eq_true', Bool.not_eq_false', cond_true, cond_false, eqB_true, eqB_false] at *
  all_goals try simp only [in64, idxAdd_zero_left, Int.toNat_natCast, fillTo_length, Int.ofNat_lt, Int.ofNat_le, Int.natCast_inj] at *
  all_goals first
    | omega
    | (have := hk.1; omega)
    | exact idxF_none (fun j hj => hk.2 j hj (by omega))
    | (have h2 : k < l.length := by omega
       simp only [getD_get h2] at *
       first
       | exact hk.next h2 (by simp_all)
       | exact idxF_here h2 (fun j hj => hk.2 j (by omega) hj) (by simp_all))

theorem reverse_call (l : List Int) (n : Nat) (hn : n = l.length) (hl : n ≤ 1048576) : ACall Try.prog 62 [.slice ⟨0, 0, 0, 1, 0⟩ n] [.arr false .int l] (Is (.tuple []) [.arr false .int l.reverse]) := by
  refine ACall.walk T Try.func62 Try.ntmps62 Try.results62 rfl rfl rfl (Is.nv _ _) ?_
  repeat' (conv => whnf); first
    | refine AWP.seq ?_
    | refine AWP.reg T rfl ?_
    | refine AWP.drw T none rfl rfl rfl ?_
    | refine AWP.dep T none rfl rfl rfl rfl ?_
    | refine AWP.block ?_
    | refine AWP.condT rfl ?_
    | refine AWP.condF rfl ?_
    | refine AWP.cond rfl (fun hb => ?_) (fun hb => ?_)
    | refine AWP.ret ?_
    | refine AWP.exit ?_
    | refine AWP.skip ?_
    | refine GuardB.t ?_
    | refine GuardB.f ?_
    | refine GuardB.mk (fun hb => ?_) (fun hb => ?_)
    | refine NilQ.mk (fun hb => ?_) ?_
    | refine VC.mk Nat.zero_lt_one ?_
    | refine VC.mk rfl ?_
    | refine AWP.while (ι := Nat) (fun k => St.of [(0, .slice ⟨0, 0, 0, 1, 0⟩ n), (2, .int .i64 k), (3, .int .i64 (n - 1 - k : Int))] [.arr false .int (revN l k)]) (fun k => 2 * k ≤ n + 1) (fun k => n - k) 0 (Nat.zero_le _)
        (Weak.of [0] (.cons rfl rfl (.cons rfl rfl (.i rfl ?_ .nil))) (.cons (.arr rfl ?_) (.nil _)) rfl) (fun k hk => ?_)
    | refine AWP.drw T (some [0]) rfl rfl rfl ?_
    | refine roundEnd (k + 1) ?_ ?_ (Weak.of [0] (.cons rfl rfl (.cons rfl rfl (.i rfl ?_ .nil))) (.cons (.arr rfl ?_) (.nil _)) rfl)
    | refine Ret.is [0] rfl (.cons (.arr rfl ?_) (.nil _)) rfl
    | refine VC.mk ?_ ?_
  all_goals try simp only [decide_eq_true_eq, decide_eq_false_iff_not, Bool.not_eq_true', Bool.not_eq_false', cond_true, cond_false, eqB_true, eqB_false] at *
  all_goals try simp only [in64, idxAdd_zero_left, Int.toNat_natCast, fillTo_length, Int.ofNat_lt, Int.ofNat_le, Int.natCast_inj] at *
  all_goals subst hn
  all_goals try have hrl := revN_len l k
  all_goals first
    | omega
    | exact ⟨by omega, by omega⟩
    | exact ⟨rfl, trivial⟩
    | exact revN_zero l
    | exact (revN_zero l).symm
    | exact (revN_all (by omega) (by omega)).symm
    | exact revN_all (by omega) (by omega)
    | (rw [revN_succ, show ((l.length : Int) - 1 - (k : Int)).toNat = l.length - 1 - k by omega]; done)
    | (simp; omega)

theorem implWay_call (l : List S3) (f t : Int) (hl : l.length ≤ 1048576) : ACall Try.prog 36 [.slice ⟨0, 0, 0, 3, 0⟩ l.length, .int .i64 f, .int .i64 t] [.arr true .s3 l] (Is (.tuple [.slice ⟨1, 0, 0, 1, 0⟩ (wayL l f t).length, .bool (okWay l f t)]) [.arr true .s3 l, .arr false .int (wayL l f t)]) := by
  refine ACall.walk T Try.func36 Try.ntmps36 Try.results36 rfl rfl rfl (Is.nv _ _) ?_
  repeat' (conv => whnf); first
    | refine AWP.seq ?_
    | refine AWP.reg T rfl ?_
    | refine AWP.drw T none rfl rfl rfl ?_
    | refine AWP.dep T none rfl rfl rfl rfl ?_
    | refine AWP.block ?_
    | refine AWP.condT rfl ?_
    | refine AWP.condF rfl ?_
    | refine AWP.cond rfl (fun hb => ?_) (fun hb => ?_)
    | refine AWP.ret ?_
    | refine AWP.exit ?_
    | refine AWP.skip ?_
    | refine GuardB.t ?_
    | refine GuardB.f ?_
    | refine GuardB.mk (fun hb => ?_) (fun hb => ?_)
    | refine NilQ.mk (fun hb => ?_) ?_
    | refine VC.mk Nat.zero_lt_one ?_
    | refine VC.mk rfl ?_
    | refine ACall.useIs [0] (calm_call _ ?_) rfl (.cons (.same rfl rfl) (.nil _)) rfl ?_
    | refine ACall.useIs [] (isNode_call _) rfl (.nil _) rfl ?_
    | refine ACall.useIs [0] (costFrom_call _ _ ?_ ?_) rfl (.cons (.same rfl rfl) (.nil _)) rfl ?_
    | refine AWP.while (ι := Nat) (fun j => St.of [(0, .slice ⟨0, 0, 0, 3, 0⟩ l.length), (1, .int .i64 f), (8, .ptr ⟨4, 0, 0, 1, 0⟩), (9, .slice ⟨2, 0, 0, 1, 0⟩ j), (10, .ptr ⟨5, 0, 0, 1, 0⟩), (11, .ptr ⟨6, 0, 0, 1, 0⟩)] [.arr true .s3 l, .arr false .int (costFrom l f.toNat), .arr false .int (wbN l (costFrom l f.toNat) f t j).row, .arr false .int (wbN l (costFrom l f.toNat) f t j).met, .arr false (.raw 1) [[.slice ⟨1, 0, 0, 1, 0⟩ 8]], .arr false (.raw 1) [[.slice ⟨3, 0, 0, 1, 0⟩ (j + 1)]], .arr false (.raw 1) [[.int .i64 (wbN l (costFrom l f.toNat) f t j).at']]]) (fun j => ∃ (hf : fine l = true) (h1 : 0 ≤ f ∧ f < 8) (h2 : 0 ≤ t ∧ t < 8), ToW l (costFrom l f.toNat) f t j) (fun j => 8 - j) 0 ?_
        (Weak.of [0, 2, 3, 4, 5, 6, 7] (.cons rfl rfl (.cons rfl rfl (.cons rfl rfl (.cons rfl rfl (.cons rfl rfl (.cons rfl rfl .nil)))))) (.cons (.same rfl rfl) (.cons (.same rfl rfl) (.cons (.arr rfl ?_) (.cons (.arr rfl ?_) (.cons (.same rfl rfl) (.cons (.same rfl rfl) (.cons (.celli ?_) (.nil _)))))))) rfl) (fun j hj => ?_)
    | refine ACall.useIs [0, 6, 4, 5, 1, 3] (idxHit_call (costFrom l f.toNat) (wbN l (costFrom l f.toNat) f t j) (j + 1) ?_ ?_ ?_ ?_ l ?_ ?_) rfl (.cons (.same rfl rfl) (.cons (.same rfl rfl) (.cons (.same rfl rfl) (.cons (.same rfl rfl) (.cons (.same rfl rfl) (.cons (.same rfl rfl) (.nil _))))))) rfl ?_
    | refine ACall.useIs [2] (reverse_call _ j ?_ ?_) rfl (.cons (.same rfl rfl) (.nil _)) rfl ?_
    | refine roundEnd (j + 1) ?_ ?_ (Weak.of [0, 1, 8, 10, 4, 5, 11] (.cons rfl rfl (.cons rfl rfl (.cons rfl rfl (.cons rfl rfl (.cons rfl rfl (.cons rfl rfl .nil)))))) (.cons (.same rfl rfl) (.cons (.same rfl rfl) (.cons (.arr rfl ?_) (.cons (.arr rfl ?_) (.cons (.same rfl rfl) (.cons (.same rfl rfl) (.cons (.celli ?_) (.nil _)))))))) rfl)
    | refine Ret.sb [0, 2] rfl ?_ ?_ (.cons (.same rfl rfl) (.cons (.arr rfl ?_) (.nil _))) rfl
    | refine Ret.sb [0, 7] rfl ?_ ?_ (.cons (.same rfl rfl) (.cons (.arr rfl ?_) (.nil _))) rfl
    | refine VC.mk ?_ ?_
  all_goals try simp only [decide_eq_true_eq, decide_eq_false_iff_not, Bool.not_eq_true', Bool.not_eq_false', cond_true, cond_false, eqB_true, eqB_false] at *
  all_goals try simp only [in64, idxAdd_zero_left, Int.toNat_natCast, fillTo_length, Int.ofNat_lt, Int.ofNat_le, Int.natCast_inj] at *
  all_goals try
    obtain ⟨hf, h1, h2, hj⟩ := hj
    have hgd := fine_good hf
    have ok := costFrom_ok hgd f.toNat
    have inv := wbN_inv hgd h2 j hj
    have hle := inv.le
    have hml := inv.ml
    have hrl := inv.rl
    have hat := inv.range
    have hwe := (way_eq (l := l) (f := f) (t := t) (by simp [hf, btw_iff]; omega))
    rw [hwe.1, hwe.2] at *
  all_goals try simp only [pickR_eq, sub_one] at *
  all_goals try have hp := pick_lt (l := l) (c := costFrom l f.toNat) (wbN l (costFrom l f.toNat) f t j)
  all_goals first
    | exact hl
    | omega
    | rfl
    | exact ok
    | exact hgd
    | exact hat
    | exact wbN_zero3.1
    | exact wbN_zero3.2.1
    | exact wbN_zero3.2.2
    | exact fine_good (by simp_all)
    | exact ⟨by assumption, by simp_all [btw_iff]; omega, by simp_all [btw_iff]; omega, ToW.zero⟩
    | (rw [(way_none (by simp_all; done)).1]; done)
    | (rw [(way_none (by simp_all; done)).2]; done)
    | (rw [(way_none (by simp_all; done)).2]; rfl)
    | exact ⟨by omega, by omega⟩
    | (rw [(hj.no hgd h2 (by assumption) (by assumption)).1]; done)
    | (rw [(hj.no hgd h2 (by assumption) (by assumption)).2]; done)
    | (rw [(hj.no hgd h2 (by assumption) (by assumption)).2]; rfl)
    | (rw [(hj.yes hgd h2 (by assumption)).1]; done)
    | (rw [(hj.yes hgd h2 (by assumption)).2]; done)
    | (rw [(hj.yes hgd h2 (by assumption)).2, List.length_reverse, hrl]; done)
    | exact ⟨hf, h1, h2, hj.next (by assumption) (by assumption)⟩
    | (rw [ToW.row_next (by assumption) (by assumption), sub_whole hrl]; done)
    | (rw [ToW.met_next (by assumption) (by assumption), ToW.at_next (by assumption) (by assumption), sub_whole hml]; done)
    | exact ToW.at_next (by assumption) (by assumption)
    | (simp_all [btw_iff]; omega)

theorem specWay_call (l : List S3) (f t : Int) (hl : l.length ≤ 1048576) : ACall Try.prog 35 [.slice ⟨0, 0, 0, 3, 0⟩ l.length, .int .i64 f, .int .i64 t] [.arr true .s3 l] (Is (.tuple [.slice ⟨1, 0, 0, 1, 0⟩ (wayL l f t).length, .bool (okWay l f t)]) [.arr true .s3 l, .arr false .int (wayL l f t)]) := by
  refine ACall.walk T Try.func35 Try.ntmps35 Try.results35 rfl rfl rfl (Is.nv _ _) ?_
  repeat' (conv => whnf); first
    | refine AWP.seq ?_
    | refine AWP.reg T rfl ?_
    | refine AWP.drw T none rfl rfl rfl ?_
    | refine AWP.dep T none rfl rfl rfl rfl ?_
    | refine AWP.block ?_
    | refine AWP.condT rfl ?_
    | refine AWP.condF rfl ?_
    | refine AWP.cond rfl (fun hb => ?_) (fun hb => ?_)
    | refine AWP.ret ?_
    | refine AWP.exit ?_
    | refine AWP.skip ?_
    | refine GuardB.t ?_
    | refine GuardB.f ?_
    | refine GuardB.mk (fun hb => ?_) (fun hb => ?_)
    | refine NilQ.mk (fun hb => ?_) ?_
    | refine VC.mk Nat.zero_lt_one ?_
    | refine VC.mk rfl ?_
    | refine ACall.useIs [0] (l11Fine_call _ ?_) rfl (.cons (.same rfl rfl) (.nil _)) rfl ?_
    | refine ACall.useIs [] (l6Node_call _) rfl (.nil _) rfl ?_
    | refine ACall.useIs [0] (l11From_call _ _ ?_ ?_) rfl (.cons (.same rfl rfl) (.nil _)) rfl ?_
    | refine AWP.while (ι := Nat) (fun k => St.of [(0, .slice ⟨0, 0, 0, 3, 0⟩ l.length), (1, .int .i64 f), (8, .slice ⟨1, 0, 0, 1, 0⟩ 8), (9, .slice ⟨2, 0, 0, 1, 0⟩ j), (10, .slice ⟨3, 0, 0, 1, 0⟩ (j + 1)), (11, .int .i64 (wbN l (costFrom l f.toNat) f t j).at'), (12, .int .i64 (idxF (pickP (costFrom l f.toNat) (wbN l (costFrom l f.toNat) f t j)) (l.take k))), (42, .slice ⟨0, 0, 0, 3, 0⟩ l.length), (43, .int .i64 l.length), (44, .int .i64 k)] [.arr true .s3 l, .arr false .int (costFrom l f.toNat), .arr false .int (wbN l (costFrom l f.toNat) f t j).row.reverse, .arr false .int (wbN l (costFrom l f.toNat) f t j).met]) (fun k => k ≤ l.length) (fun k => l.length - k) 0 (Nat.zero_le _)
        (Weak.of [0, 1, 2, 3] (.cons rfl rfl (.cons rfl rfl (.cons rfl rfl (.cons rfl rfl (.cons rfl rfl (.cons rfl rfl (.i rfl ?_ (.cons rfl rfl (.cons rfl rfl (.cons rfl rfl .nil)))))))))) (.cons (.same rfl rfl) (.cons (.same rfl rfl) (.cons (.same rfl rfl) (.cons (.same rfl rfl) (.nil _))))) rfl) (fun k hk => ?_)
    | refine AWP.while (ι := Nat) (fun j => St.of [(0, .slice ⟨0, 0, 0, 3, 0⟩ l.length), (1, .int .i64 f), (8, .slice ⟨1, 0, 0, 1, 0⟩ 8), (9, .slice ⟨2, 0, 0, 1, 0⟩ j), (10, .slice ⟨3, 0, 0, 1, 0⟩ (j + 1)), (11, .int .i64 (wbN l (costFrom l f.toNat) f t j).at')] [.arr true .s3 l, .arr false .int (costFrom l f.toNat), .arr false .int (wbN l (costFrom l f.toNat) f t j).row.reverse, .arr false .int (wbN l (costFrom l f.toNat) f t j).met]) (fun j => ∃ (hf : fine l = true) (h1 : 0 ≤ f ∧ f < 8) (h2 : 0 ≤ t ∧ t < 8), ToW l (costFrom l f.toNat) f t j) (fun j => 8 - j) 0 ?_
        (Weak.of [0, 2, 3, 4] (.cons rfl rfl (.cons rfl rfl (.cons rfl rfl (.cons rfl rfl (.cons rfl rfl (.i rfl ?_ .nil)))))) (.cons (.same rfl rfl) (.cons (.same rfl rfl) (.cons (.arr rfl ?_) (.cons (.arr rfl ?_) (.nil _))))) rfl) (fun j hj => ?_)
    | refine AWP.drw T (some [1, 4]) rfl rfl rfl ?_
    | refine ACall.useIs [3] (l1Has_call' _ _ _ ?_ ?_) rfl (.cons (.ro rfl rfl) (.nil _)) rfl ?_
    | refine roundEnd (k + 1) ?_ ?_ (Weak.of [0, 1, 2, 3] (.cons rfl rfl (.cons rfl rfl (.cons rfl rfl (.cons rfl rfl (.cons rfl rfl (.cons rfl rfl (.i rfl ?_ (.cons rfl rfl (.cons rfl rfl (.cons rfl rfl .nil)))))))))) (.cons (.same rfl rfl) (.cons (.same rfl rfl) (.cons (.same rfl rfl) (.cons (.same rfl rfl) (.nil _))))) rfl)
    | refine roundEnd (j + 1) ?_ ?_ (Weak.of [0, 1, 5, 7] (.cons rfl rfl (.cons rfl rfl (.cons rfl rfl (.s rfl ?_ rfl (.cons rfl rfl (.i rfl ?_ .nil)))))) (.cons (.same rfl rfl) (.cons (.same rfl rfl) (.cons (.arr rfl ?_) (.cons (.arr rfl ?_) (.nil _))))) rfl)
    | refine Ret.sb [0, 2] rfl ?_ ?_ (.cons (.same rfl rfl) (.cons (.arr rfl ?_) (.nil _))) rfl
    | refine Ret.sb [0, 3] rfl ?_ ?_ (.cons (.same rfl rfl) (.cons (.arr rfl ?_) (.nil _))) rfl
    | refine Ret.sb [0, 4] rfl ?_ ?_ (.cons (.same rfl rfl) (.cons (.arr rfl ?_) (.nil _))) rfl
    | refine VC.mk ?_ ?_
  all_goals try simp only [decide_eq_true_eq, decide_eq_false_iff_not, Bool.not_eq_true', Bool.not_eq_false', cond_true, cond_false, eqB_true, eqB_false] at *
  all_goals try simp only [in64, idxAdd_zero_left, Int.toNat_natCast, fillTo_length, Int.ofNat_lt, Int.ofNat_le, Int.natCast_inj] at *
  all_goals try
    obtain ⟨hf, h1, h2, hj⟩ := hj
    have hgd := fine_good hf
    have ok := costFrom_ok hgd f.toNat
    have inv := wbN_inv hgd h2 j hj
    have hle := inv.le
    have hml := inv.ml
    have hrl := inv.rl
    have hat := inv.range
    have hwe := (way_eq (l := l) (f := f) (t := t) (by simp [hf, btw_iff]; omega))
    rw [hwe.1, hwe.2] at *
  all_goals try simp only [sub_one] at *
  all_goals try
    have hk2 : k < l.length := by omega
    have hr := road_rng hgd k
    have hA := ok_at ok _ hr.1
    have hB := ok_at ok _ hat
    have hlen := ok.len
    have hfar : Far = 1000000000 := rfl
  all_goals try
    have hall := pick_all (c := costFrom l f.toNat) (s := wbN l (costFrom l f.toNat) f t j) (by assumption : k ≤ l.length) (by omega)
    simp only [hall] at *
  all_goals try have hp := pick_lt (l := l) (c := costFrom l f.toNat) (wbN l (costFrom l f.toNat) f t j)
  all_goals first
    | (have hfa := way_far (l := l) (f := f) (t := t) (by assumption) (by simp_all [btw_iff]; omega) (by simp_all [btw_iff]; omega) (by assumption)
       have hwe := way_eq (l := l) (f := f) (t := t) (by simp_all)
       first
       | (rw [hwe.1, hfa.1]; done)
       | (rw [hwe.2, hfa.2]; done)
       | (rw [hwe.2, hfa.2]; rfl))
    | exact hl
    | omega
    | rfl
    | exact ok
    | exact hgd
    | exact hat
    | exact wbN_zero3.1
    | (rw [wbN_zero3.1]; rfl)
    | exact wbN_zero3.2.1
    | exact wbN_zero3.2.2
    | exact wbN_zero3.2.2.symm
    | exact (idx_take0 _ _).symm
    | exact fine_good (by simp_all)
    | exact ⟨by assumption, by simp_all [btw_iff]; omega, by simp_all [btw_iff]; omega, ToW.zero⟩
    | (rw [(way_none (by simp_all; done)).1]; done)
    | (rw [(way_none (by simp_all; done)).2]; done)
    | (rw [(way_none (by simp_all; done)).2]; rfl)
    | exact ⟨by omega, by omega⟩
    | exact ⟨rfl, trivial⟩
    | exact hml.symm
    | exact pick_yes hk2 (by assumption) (by assumption) (by assumption) (by assumption) (by assumption)
    | exact pick_no (d := ⟨0, 0, 0⟩) hk2 (by omega) (by rintro ⟨x1, x2, x3, x4, x5⟩; first | omega | simp_all)
    | (rw [(hj.no hgd h2 (by assumption) (by assumption)).1]; done)
    | (rw [(hj.no hgd h2 (by assumption) (by assumption)).2]; done)
    | (rw [(hj.no hgd h2 (by assumption) (by assumption)).2]; rfl)
    | (rw [(hj.yes hgd h2 (by assumption)).1]; done)
    | (rw [(hj.yes hgd h2 (by assumption)).2]; done)
    | (rw [(hj.yes hgd h2 (by assumption)).2, List.length_reverse, hrl]; done)
    | exact ⟨hf, h1, h2, hj.next (by assumption) (by assumption)⟩
    | (rw [ToW.row_next (by assumption) (by assumption), List.reverse_append, sub_whole (by rw [List.length_reverse]; exact hrl)]; rfl)
    | (rw [ToW.met_next (by assumption) (by assumption), ToW.at_next (by assumption) (by assumption), sub_whole hml]; done)
    | exact ToW.at_next (by assumption) (by assumption)
    | exact (ToW.at_next (by assumption) (by assumption)).symm
    | (have := (costFrom_ok (fine_good (by assumption : fine l = true)) f.toNat).len
       simp_all [btw_iff]; omega)
    | (simp_all [btw_iff]; omega)

theorem lawWayBetween_call (l : List S3) (f t : Int) (hl : l.length ≤ 9223372036854775807) : ACall Try.prog 9 [.slice ⟨0, 0, 0, 3, 0⟩ l.length, .int .i64 f, .int .i64 t] [.arr true .s3 l] (Is (.bool true) [.arr true .s3 l]) := by
  refine ACall.walk T Try.func9 Try.ntmps9 Try.results9 rfl rfl rfl (Is.nv _ _) ?_
  repeat' (conv => whnf); first
    | refine AWP.seq ?_
    | refine AWP.reg T rfl ?_
    | refine AWP.drw T none rfl rfl rfl ?_
    | refine AWP.dep T none rfl rfl rfl rfl ?_
    | refine AWP.block ?_
    | refine AWP.condT rfl ?_
    | refine AWP.condF rfl ?_
    | refine AWP.cond rfl (fun hb => ?_) (fun hb => ?_)
    | refine AWP.ret ?_
    | refine AWP.exit ?_
    | refine AWP.skip ?_
    | refine GuardB.t ?_
    | refine GuardB.f ?_
    | refine GuardB.mk (fun hb => ?_) (fun hb => ?_)
    | refine NilQ.mk (fun hb => ?_) ?_
    | refine VC.mk Nat.zero_lt_one ?_
    | refine VC.mk rfl ?_
    | refine ACall.useIs [0] (szRoadS_call _ _ ?_ ?_) rfl (.cons (.same rfl rfl) (.nil _)) rfl ?_
    | refine ACall.useIs [0] (toRoadS_call _ ?_) rfl (.cons (.same rfl rfl) (.nil _)) rfl ?_
    | refine ACall.useIs [1] (specWay_call _ _ _ ?_) rfl (.cons (.ro rfl rfl) (.nil _)) rfl ?_
    | refine ACall.useIs [3] (implWay_call _ _ _ ?_) rfl (.cons (.ro rfl rfl) (.nil _)) rfl ?_
    | refine ACall.useIs [6] (implWay_call _ _ _ ?_) rfl (.cons (.ro rfl rfl) (.nil _)) rfl ?_
    | refine ACall.useIs [4, 2] (eqIntS_call _ _ ?_) rfl (.cons (.ro rfl rfl) (.cons (.ro rfl rfl) (.nil _))) rfl ?_
    | refine ACall.useIs [7, 2] (eqIntS_call _ _ ?_) rfl (.cons (.ro rfl rfl) (.cons (.ro rfl rfl) (.nil _))) rfl ?_
    | refine ACall.useIs [3, 5] (eqRoadS_call _ _ ?_) rfl (.cons (.ro rfl rfl) (.cons (.ro rfl rfl) (.nil _))) rfl ?_
    | refine ACall.useIs [3] (markRoadS_call _ _ ?_ ?_) rfl (.cons (.same rfl rfl) (.nil _)) rfl ?_
    | refine ACall.useIs [4] (markIntS_call _ _ ?_ ?_) rfl (.cons (.same rfl rfl) (.nil _)) rfl ?_
    | refine ACall.useIs [4] (heldIntS_call _ _ ?_ ?_) rfl (.cons (.ro rfl rfl) (.nil _)) rfl ?_
    | refine Ret.bool [0] ?_ (.cons (.same rfl rfl) (.nil _)) rfl
    | refine VC.mk ?_ ?_
  all_goals try simp only [decide_eq_true_eq, decide_eq_false_iff_not, Bool.not_eq_true', Bool.not_eq_false', cond_true, cond_false, eqB_true, eqB_false] at *
  all_goals try simp only [in64, idxAdd_zero_left, Int.toNat_natCast, fillTo_length, Int.ofNat_lt, Int.ofNat_le, Int.natCast_inj] at *
  all_goals try simp only [marksI_length, marks3_length] at *
  all_goals first
    | rfl
    | omega
    | (have := leftOf_ok (by assumption) (by omega : (1048576 : Int) ≤ 1048576); omega)
    | (have := wayL_le l f t; omega)
    | (simp_all [eqB]; done)
    | (have := wayL_le l f t; simp_all [eqB]; omega)

end YtcljaokjjnmioaaAM
