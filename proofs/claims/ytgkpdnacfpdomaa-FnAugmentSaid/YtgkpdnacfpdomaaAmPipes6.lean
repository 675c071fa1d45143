/- Contracts of functions of this seat. -/
import Derived.Test.YtgkpdnacfpdomaaAmTabPipes
import Derived.Test.YtgkpdnacfpdomaaAmModels
import Derived.Test.YtgkpdnacfpdomaaAmPipes4
import Derived.Test.YtgkpdnacfpdomaaAmPipes5
set_option linter.unusedVariables false
set_option linter.unusedSimpArgs false
set_option maxRecDepth 100000
set_option maxHeartbeats 1000000
namespace YtgkpdnacfpdomaaAM
open Go Go.Proofs
attribute [local irreducible] srchN innerN srch byOf stp rnd foldN nodeN minN mostN upN dist augM augF augO outN outM grN grM

theorem augment_call (l : List S3) (fl : List Int) (u t : Int) (hg : goodPipes l = true) (hlen : fl.length = l.length) (hc : AllTo (capB l fl) l.length l.length) (hu : 0 ≤ u ∧ u ≤ 7) (htt : 0 ≤ t ∧ t ≤ 7) (hut : u ≠ t) : ACall Try.prog 60 [.slice ⟨0, 0, 0, 3, 0⟩ l.length, .int .i64 u, .int .i64 t, .slice ⟨1, 0, 0, 1, 0⟩ fl.length] [.arr true .s3 l, .arr false .int fl] (Is (.int .i64 (augM l fl u t)) [.arr true .s3 l, .arr false .int (augF l fl u t)]) := by
  refine ACall.walk T Try.func60 Try.ntmps60 Try.results60 rfl rfl rfl (Is.nv _ _) ?_
  repeat' (conv => whnf); first
    | refine AWP.seq ?_
    | refine AWP.reg T rfl ?_
    | refine AWP.drw T none rfl rfl rfl ?_
    | refine AWP.dep T none rfl rfl rfl rfl ?_
    | refine AWP.block ?_
    | refine AWP.condT rfl ?_
    | refine AWP.condF rfl ?_
    | refine AWP.cond rfl (fun hb => ?_) (fun hb => ?_)
    | refine AWP.ret ?_
    | refine AWP.exit ?_
    | refine AWP.skip ?_
    | refine GuardB.t ?_
    | refine GuardB.f ?_
    | refine GuardB.mk (fun hb => ?_) (fun hb => ?_)
    | refine NilQ.mk (fun hb => ?_) ?_
    | refine VC.mk Nat.zero_lt_one ?_
    | refine VC.mk rfl ?_
    | refine ACall.useIs [0, 1] (search_call _ _ _ ?_ ?_ ?_ ?_) rfl (.cons (.same rfl rfl) (.cons (.ro rfl rfl) (.nil _))) rfl ?_
    | refine ACall.useIs [2] (slicesContains_call _ _ ?_) rfl (.cons (.ro rfl rfl) (.nil _)) rfl ?_
    | refine AWP.while (ι := Nat) (fun k => St.of [(0, .slice ⟨0, 0, 0, 3, 0⟩ l.length), (1, .int .i64 u), (2, .int .i64 t), (3, .slice ⟨1, 0, 0, 1, 0⟩ fl.length), (10, .ptr ⟨2, 0, 0, 3, 0⟩), (11, .int .i64 (minN l fl (srch l fl u).2 t k)), (12, .int .i64 (nodeN (srch l fl u).2 t k))] [.arr true .s3 l, .arr false .int fl, .arr false .hop (srch l fl u).2]) (fun k => k ≤ (dist (srch l fl u).2 u t)) (fun k => (dist (srch l fl u).2 u t) - k) 0 (Nat.zero_le _)
        (Weak.of [0, 1, 3] (.cons rfl rfl (.cons rfl rfl (.cons rfl rfl (.cons rfl rfl (.cons rfl rfl (.i rfl ?_ (.i rfl ?_ .nil))))))) (.cons (.same rfl rfl) (.cons (.same rfl rfl) (.cons (.same rfl rfl) (.nil _)))) rfl) (fun k hk => ?_)
    | refine AWP.while (ι := Nat) (fun k => St.of [(1, .int .i64 u), (3, .slice ⟨1, 0, 0, 1, 0⟩ fl.length), (10, .ptr ⟨2, 0, 0, 3, 0⟩), (11, .int .i64 (augM l fl u t)), (15, .int .i64 (nodeN (srch l fl u).2 t k))] [.arr true .s3 l, .arr false .int (upN fl (srch l fl u).2 t (augM l fl u t) k), .arr false .hop (srch l fl u).2]) (fun k => k ≤ (dist (srch l fl u).2 u t)) (fun k => (dist (srch l fl u).2 u t) - k) 0 (Nat.zero_le _)
        (Weak.of [0, 1, 2] (.cons rfl rfl (.cons rfl rfl (.cons rfl rfl (.i rfl ?_ (.i rfl ?_ .nil))))) (.cons (.same rfl rfl) (.cons (.arr rfl ?_) (.cons (.same rfl rfl) (.nil _)))) rfl) (fun k hk => ?_)
    | refine roundEnd (k + 1) ?_ ?_ (Weak.of [0, 1, 2] (.cons rfl rfl (.cons rfl rfl (.cons rfl rfl (.cons rfl rfl (.cons rfl rfl (.i rfl ?_ (.i rfl ?_ .nil))))))) (.cons (.same rfl rfl) (.cons (.same rfl rfl) (.cons (.same rfl rfl) (.nil _)))) rfl)
    | refine roundEnd (k + 1) ?_ ?_ (Weak.of [0, 1, 2] (.cons rfl rfl (.cons rfl rfl (.cons rfl rfl (.cons rfl rfl (.i rfl ?_ .nil))))) (.cons (.same rfl rfl) (.cons (.arr rfl ?_) (.cons (.same rfl rfl) (.nil _)))) rfl)
    | refine Ret.int [0, 1] ?_ (.cons (.same rfl rfl) (.cons (.arr rfl ?_) (.nil _))) rfl
    | refine VC.mk ?_ ?_
  all_goals try simp only [decide_eq_true_eq, decide_eq_false_iff_not, Bool.not_eq_true', Bool.not_eq_false', cond_true, cond_false, eqB_true, eqB_false] at *
  all_goals try simp only [in64, idxAdd_zero_left, Int.toNat_natCast, fillTo_length, Int.ofNat_lt, Int.ofNat_le, Int.natCast_inj] at *
  all_goals try have hlr := goodPipes_len hg
  all_goals try have ht : hasB (srch l fl u).1 t = true := by assumption
  all_goals try have ht : hasB (srch l fl u).1 t = true := has_of hg hu htt (by assumption)
  all_goals try
    have hM := most_of hg hu hut hlen hc ht hk
    have hB := back_of hg hu ht hk
    obtain ⟨hm1, hm2, hm3, hm4, hm5, hm6⟩ := hM
    obtain ⟨hb1, hb2, hb3⟩ := hB
  all_goals try
    have hkD : k < dist (srch l fl u).2 u t := by
      rcases Nat.lt_or_ge k (dist (srch l fl u).2 u t) with h | h
      · exact h
      · exact absurd (hb2.2 (by omega)) (by assumption)
    have hd := mid_of hg hu hut hlen hc ht hkD
    have hrv := hd.roomV
    have hul := upN_len fl (srch l fl u).2 t (augM l fl u t) k
    obtain ⟨d1, d2, d3, d4, d5, d6, d7⟩ := hd
  all_goals try simp only [hopN, h0] at d1 d2 d4 d5 d6 d7
  all_goals try rw [room] at d4
  all_goals first
    | omega
    | exact hg
    | exact hlen
    | exact hc
    | exact hu
    | rfl
    | exact (minN_zero _ _ _ _).symm
    | exact (nodeN_zero _ _).symm
    | exact (upN_zero _ _ _ _).symm
    | exact minN_zero _ _ _ _
    | exact nodeN_zero _ _
    | exact upN_zero _ _ _ _
    | exact nodeN_succ _ _ _
    | exact (nodeN_succ _ _ _).symm
    | exact ⟨by omega, by omega⟩
    | exact ⟨rfl, by omega⟩
    | (have := (srch_inv fl hg hu).len; omega)
    | (have := (srch_inv fl hg hu).hlen; show (srch l fl u).2.length * 3 = 24 ∧ _; exact ⟨by omega, rfl⟩)
    | (rw [minN_succ, room, if_pos (by assumption)]; done)
    | (rw [minN_succ, room, if_neg (by simp_all)]; done)
    | (rw [upN_succ, if_pos (by assumption)]; done)
    | (rw [upN_succ, if_neg (by simp_all)]; rfl)
    | (have hx := hb2.1 (by assumption)
       first
       | (rw [hm5, ← hx]; done)
       | (rw [augF_at ht hx]; done)
       | (exact (augF_at ht hx).symm)
       | omega)
    | (rw [augM_no (by assumption)]; done)
    | (rw [augF_no (by assumption)]; done)

theorem l8Augment_call (l : List S3) (fl : List Int) (u t : Int) (hg : goodPipes l = true) (hlen : fl.length = l.length) (hc : AllTo (capB l fl) l.length l.length) (hu : 0 ≤ u ∧ u ≤ 7) (htt : 0 ≤ t ∧ t ≤ 7) (hut : u ≠ t) : ACall Try.prog 58 [.slice ⟨0, 0, 0, 3, 0⟩ l.length, .int .i64 u, .int .i64 t, .slice ⟨1, 0, 0, 1, 0⟩ fl.length] [.arr true .s3 l, .arr true .int fl] (Is (.tuple [.slice ⟨2, 0, 0, 1, 0⟩ (augO l fl u t).length, .int .i64 (augM l fl u t)]) [.arr true .s3 l, .arr true .int fl, .arr false .int (augO l fl u t)]) := by
  refine ACall.walk T Try.func58 Try.ntmps58 Try.results58 rfl rfl rfl (Is.nv _ _) ?_
  repeat' (conv => whnf); first
    | refine AWP.seq ?_
    | refine AWP.reg T rfl ?_
    | refine AWP.drw T none rfl rfl rfl ?_
    | refine AWP.dep T none rfl rfl rfl rfl ?_
    | refine AWP.block ?_
    | refine AWP.condT rfl ?_
    | refine AWP.condF rfl ?_
    | refine AWP.cond rfl (fun hb => ?_) (fun hb => ?_)
    | refine AWP.ret ?_
    | refine AWP.exit ?_
    | refine AWP.skip ?_
    | refine GuardB.t ?_
    | refine GuardB.f ?_
    | refine GuardB.mk (fun hb => ?_) (fun hb => ?_)
    | refine NilQ.mk (fun hb => ?_) ?_
    | refine VC.mk Nat.zero_lt_one ?_
    | refine VC.mk rfl ?_
    | refine ACall.useIs [0, 1] (l8Search_call _ _ _ ?_ ?_ ?_ ?_) rfl (.cons (.same rfl rfl) (.cons (.same rfl rfl) (.nil _))) rfl ?_
    | refine ACall.useIs [] (l8Room_call _ _ _ ?_ ?_) rfl (.nil _) rfl ?_
    | refine AWP.while (ι := Nat) (fun k => St.of [(0, .slice ⟨0, 0, 0, 3, 0⟩ l.length), (1, .int .i64 u), (2, .int .i64 t), (3, .slice ⟨1, 0, 0, 1, 0⟩ fl.length), (10, .slice ⟨2, 0, 0, 1, 0⟩ 8), (11, .int .i64 (mostN l fl (srch l fl u).2 t k)), (12, .int .i64 (nodeN (srch l fl u).2 t k))] [.arr true .s3 l, .arr true .int fl, .arr false .int (byOf u (srch l fl u))]) (fun k => k ≤ (dist (srch l fl u).2 u t)) (fun k => (dist (srch l fl u).2 u t) - k) 0 (Nat.zero_le _)
        (Weak.of [0, 1, 3] (.cons rfl rfl (.cons rfl rfl (.cons rfl rfl (.cons rfl rfl (.cons rfl rfl (.i rfl ?_ (.i rfl ?_ .nil))))))) (.cons (.same rfl rfl) (.cons (.same rfl rfl) (.cons (.same rfl rfl) (.nil _)))) rfl) (fun k hk => ?_)
    | refine AWP.while (ι := Nat) (fun k => St.of [(0, .slice ⟨0, 0, 0, 3, 0⟩ l.length), (1, .int .i64 u), (10, .slice ⟨2, 0, 0, 1, 0⟩ 8), (11, .int .i64 (augM l fl u t)), (17, .slice ⟨3, 0, 0, 1, 0⟩ fl.length), (18, .int .i64 (nodeN (srch l fl u).2 t k))] [.arr true .s3 l, .arr true .int fl, .arr false .int (byOf u (srch l fl u)), .arr false .int (upN fl (srch l fl u).2 t (augM l fl u t) k)]) (fun k => k ≤ (dist (srch l fl u).2 u t)) (fun k => (dist (srch l fl u).2 u t) - k) 0 (Nat.zero_le _)
        (Weak.of [0, 1, 2, 4] (.cons rfl rfl (.cons rfl rfl (.cons rfl rfl (.i rfl ?_ (.s rfl ?_ rfl (.i rfl ?_ .nil)))))) (.cons (.same rfl rfl) (.cons (.same rfl rfl) (.cons (.same rfl rfl) (.cons (.arr rfl ?_) (.nil _))))) rfl) (fun k hk => ?_)
    | refine roundEnd (k + 1) ?_ ?_ (Weak.of [0, 1, 2] (.cons rfl rfl (.cons rfl rfl (.cons rfl rfl (.cons rfl rfl (.cons rfl rfl (.i rfl ?_ (.i rfl ?_ .nil))))))) (.cons (.same rfl rfl) (.cons (.same rfl rfl) (.cons (.same rfl rfl) (.nil _)))) rfl)
    | refine roundEnd (k + 1) ?_ ?_ (Weak.of [0, 1, 2, 3] (.cons rfl rfl (.cons rfl rfl (.cons rfl rfl (.cons rfl rfl (.cons rfl rfl (.i rfl ?_ .nil)))))) (.cons (.same rfl rfl) (.cons (.same rfl rfl) (.cons (.same rfl rfl) (.cons (.arr rfl ?_) (.nil _))))) rfl)
    | refine Ret.si [0, 1, 3] rfl ?_ ?_ (.cons (.same rfl rfl) (.cons (.same rfl rfl) (.cons (.arr rfl ?_) (.nil _)))) rfl
    | refine Ret.si [0, 1, 4] rfl ?_ ?_ (.cons (.same rfl rfl) (.cons (.same rfl rfl) (.cons (.arr rfl ?_) (.nil _)))) rfl
    | refine VC.mk ?_ ?_
  all_goals try simp only [decide_eq_true_eq, decide_eq_false_iff_not, Bool.not_eq_true', Bool.not_eq_false', cond_true, cond_false, eqB_true, eqB_false] at *
  all_goals try simp only [in64, idxAdd_zero_left, Int.toNat_natCast, fillTo_length, Int.ofNat_lt, Int.ofNat_le, Int.natCast_inj] at *
  all_goals try have hlr := goodPipes_len hg
  all_goals try have ht : hasB (srch l fl u).1 t = true := by assumption
  all_goals try have ht : hasB (srch l fl u).1 t = true := has_of hg hu htt (by assumption)
  all_goals try
    have hM := most_of hg hu hut hlen hc ht hk
    have hB := back_of hg hu ht hk
    obtain ⟨hm1, hm2, hm3, hm4, hm5, hm6⟩ := hM
    obtain ⟨hb1, hb2, hb3⟩ := hB
  all_goals try
    have hkD : k < dist (srch l fl u).2 u t := by
      rcases Nat.lt_or_ge k (dist (srch l fl u).2 u t) with h | h
      · exact h
      · exact absurd (hb2.2 (by omega)) (by assumption)
    have hd := mid_of hg hu hut hlen hc ht hkD
    have hrv := hd.roomV
    have hul := upN_len fl (srch l fl u).2 t (augM l fl u t) k
    obtain ⟨d1, d2, d3, d4, d5, d6, d7⟩ := hd
  all_goals try simp only [d2] at *
  all_goals try have hbl := byOf_len u (srch l fl u)
  all_goals first
    | omega
    | exact hg
    | exact hlen
    | exact hc
    | exact hu
    | rfl
    | exact (mostN_zero _ _ _ _).symm
    | exact (nodeN_zero _ _).symm
    | exact nodeN_zero _ _
    | exact mostN_zero _ _ _ _
    | exact ⟨by omega, by omega⟩
    | exact ⟨by simp, by simp, by omega⟩
    | (rw [upN_zero]; simp [sub]; done)
    | (rcases d3 with ⟨e1, e2, e3⟩ | ⟨e1, e2, e3⟩ <;> first | omega | (rw [← e2]; first | rfl | omega))
    | (have eb : (l.getD (hopN (srch l fl u).2 t k).a.toNat ⟨0, 0, 0⟩).b = nodeN (srch l fl u).2 t (k + 1) := by
         rcases d3 with ⟨e1, e2, e3⟩ | ⟨e1, e2, e3⟩ <;> first | exact e2 | (exfalso; omega)
       first
       | exact most_take eb hrv (.inl (by assumption))
       | exact most_take eb hrv (.inr (by assumption))
       | exact most_keep eb hrv (by assumption) (by assumption))
    | (have eb : (l.getD (hopN (srch l fl u).2 t k).a.toNat ⟨0, 0, 0⟩).a = nodeN (srch l fl u).2 t (k + 1) := by
         rcases d3 with ⟨e1, e2, e3⟩ | ⟨e1, e2, e3⟩ <;> first | exact e2 | (exfalso; omega)
       first
       | exact most_take eb hrv (.inl (by assumption))
       | exact most_take eb hrv (.inr (by assumption))
       | exact most_keep eb hrv (by assumption) (by assumption))
    | (rcases d3 with ⟨e1, e2, e3⟩ | ⟨e1, e2, e3⟩
       · first
         | (exfalso; omega)
         | (rw [upN_succ, if_pos e1]; done)
       · first
         | (exfalso; omega)
         | (rw [upN_succ, if_neg (by rw [e1]; simp)]; rfl))
    | (have hx := hb2.1 (by assumption)
       first
       | (rw [hm5, ← hx, hm3 (by omega)]; done)
       | (rw [augO_at ht hx]; done)
       | (exact (augO_at ht hx).symm)
       | (rw [← augO_at ht hx, upN_len]; done)
       | omega)
    | (have h1 := (by_no hg hu htt).1 (by assumption)
       first
       | (rw [augM_no h1]; done)
       | (rw [augO_no h1]; done)
       | (rw [augO_no h1]; rfl))

end YtgkpdnacfpdomaaAM
