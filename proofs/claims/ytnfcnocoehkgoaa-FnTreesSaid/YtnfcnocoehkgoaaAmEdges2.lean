/- Contracts of functions of this seat. -/
import Derived.Test.YtnfcnocoehkgoaaAmTabEdges
import Derived.Test.YtnfcnocoehkgoaaAmModels
import Derived.Test.YtnfcnocoehkgoaaAmEdgeModels
set_option linter.unusedVariables false
set_option linter.unusedSimpArgs false
set_option maxRecDepth 100000
set_option maxHeartbeats 2000000
namespace YtnfcnocoehkgoaaAM
open Go Go.Proofs

theorem specCutOf_call (l : List S3) (s : List Int) (hl : l.length ≤ 1048576) (hs : s.length ≤ 1048576) : ACall Try.prog 11 [.slice ⟨0, 0, 0, 3, 0⟩ l.length, .slice ⟨1, 0, 0, 1, 0⟩ s.length] [.arr true .s3 l, .arr true .int s] (Is (.tuple [.slice ⟨2, 0, 0, 1, 0⟩ (cutsM l s).length, .bool (cutOkE l s)]) [.arr true .s3 l, .arr true .int s, .arr false .int (cutsM l s)]) := by
  refine ACall.walk T Try.func11 Try.ntmps11 Try.results11 rfl rfl rfl (Is.nv _ _) ?_
  repeat' (conv => whnf); first
    | refine AWP.seq ?_
    | refine AWP.reg T rfl ?_
    | refine AWP.drw T none rfl rfl rfl ?_
    | refine AWP.dep T none rfl rfl rfl rfl ?_
    | refine AWP.block ?_
    | refine AWP.condT rfl ?_
    | refine AWP.condF rfl ?_
    | refine AWP.cond rfl (fun hb => ?_) (fun hb => ?_)
    | refine AWP.ret ?_
    | refine AWP.exit ?_
    | refine AWP.skip ?_
    | refine GuardB.t ?_
    | refine GuardB.f ?_
    | refine GuardB.mk (fun hb => ?_) (fun hb => ?_)
    | refine NilQ.mk (fun hb => ?_) ?_
    | refine VC.mk Nat.zero_lt_one ?_
    | refine VC.mk rfl ?_
    | refine ACall.useIs [0] (specGoodEdges_call _ ?_) rfl (.cons (.same rfl rfl) (.nil _)) rfl ?_
    | refine ACall.useIs [1] (l1Some_call _ _ ?_) rfl (.cons (.same rfl rfl) (.nil _)) rfl ?_
    | refine AWP.while (ι := Nat) (fun k => St.of [(1, .slice ⟨1, 0, 0, 1, 0⟩ s.length), (6, .slice ⟨2, 0, 0, 1, 0⟩ (cutsN l s k).length), (17, .slice ⟨0, 0, 0, 3, 0⟩ l.length), (18, .int .i64 l.length), (19, .int .i64 k)] [.arr true .s3 l, .arr true .int s, .arr false .int (cutsN l s k)]) (fun k => k ≤ l.length) (fun k => l.length - k) 0 (Nat.zero_le _)
        (Weak.of [0, 1, 3] (.cons rfl rfl (.cons rfl rfl (.cons rfl rfl (.cons rfl rfl (.cons rfl rfl .nil))))) (.cons (.same rfl rfl) (.cons (.same rfl rfl) (.cons (.same rfl rfl) (.nil _)))) rfl) (fun k hk => ?_)
    | refine AWP.drw T (some [3]) rfl rfl rfl ?_
    | refine ACall.useIs [1] (l1Has_call _ _ ?_) rfl (.cons (.same rfl rfl) (.nil _)) rfl ?_
    | refine roundEnd (k + 1) ?_ ?_ (Weak.of [0, 1, 5] (.cons rfl rfl (.s rfl ?_ rfl (.cons rfl rfl (.cons rfl rfl (.cons rfl rfl .nil))))) (.cons (.same rfl rfl) (.cons (.same rfl rfl) (.cons (.arr rfl ?_) (.nil _)))) rfl)
    | refine roundEnd (k + 1) ?_ ?_ (Weak.of [0, 1, 2] (.cons rfl rfl (.s rfl ?_ rfl (.cons rfl rfl (.cons rfl rfl (.cons rfl rfl .nil))))) (.cons (.same rfl rfl) (.cons (.same rfl rfl) (.cons (.arr rfl ?_) (.nil _)))) rfl)
    | refine Ret.sb [0, 1, 2] rfl ?_ ?_ (.cons (.same rfl rfl) (.cons (.same rfl rfl) (.cons (.arr rfl ?_) (.nil _)))) rfl
    | refine Ret.sb [0, 1, 3] rfl ?_ ?_ (.cons (.same rfl rfl) (.cons (.same rfl rfl) (.cons (.arr rfl ?_) (.nil _)))) rfl
    | refine VC.mk ?_ ?_
  all_goals try simp only [decide_eq_true_eq, decide_eq_false_iff_not, Bool.not_eq_true', Bool.not_eq_false', cond_true, cond_false, eqB_true, eqB_false] at *
  all_goals try simp only [in64, idxAdd_zero_left, Int.toNat_natCast, fillTo_length, Int.ofNat_lt, Int.ofNat_le, Int.natCast_inj] at *
  all_goals try
    have hg : goodEdges l = true := by assumption
    have hlr := goodEdges_len hg
    have hcl := cutsN_len l s k
  all_goals first
    | exact hl
    | exact hs
    | omega
    | rfl
    | exact StabL.one rfl
    | exact ⟨rfl, trivial⟩
    | exact ⟨by simp, by omega, by omega⟩
    | (simp_all [cutsM, cutOkE]; done)
    | (have hc : cutB l s k = true := by simp_all [cutB]
       rw [cutsN_succ, if_pos hc]
       first
       | (rw [sub_snoc']; done)
       | (simp; done))
    | (have hc : cutB l s k = false := by simp_all [cutB]
       rw [cutsN_succ, if_neg (by rw [hc]; simp)])
    | (have e : k = l.length := by omega
       subst e
       simp_all [cutsM, cutOkE]; done)

theorem implCutOf_call (l : List S3) (s : List Int) (hl : l.length ≤ 1048576) (hs : s.length ≤ 1048576) : ACall Try.prog 14 [.slice ⟨0, 0, 0, 3, 0⟩ l.length, .slice ⟨1, 0, 0, 1, 0⟩ s.length] [.arr true .s3 l, .arr true .int s] (Is (.tuple [.slice ⟨2, 0, 0, 1, 0⟩ (cutsM l s).length, .bool (cutOkE l s)]) [.arr true .s3 l, .arr true .int s, .arr false .int (cutsM l s)]) := by
  refine ACall.walk T Try.func14 Try.ntmps14 Try.results14 rfl rfl rfl (Is.nv _ _) ?_
  repeat' (conv => whnf); first
    | refine AWP.seq ?_
    | refine AWP.reg T rfl ?_
    | refine AWP.drw T none rfl rfl rfl ?_
    | refine AWP.dep T none rfl rfl rfl rfl ?_
    | refine AWP.block ?_
    | refine AWP.condT rfl ?_
    | refine AWP.condF rfl ?_
    | refine AWP.cond rfl (fun hb => ?_) (fun hb => ?_)
    | refine AWP.ret ?_
    | refine AWP.exit ?_
    | refine AWP.skip ?_
    | refine GuardB.t ?_
    | refine GuardB.f ?_
    | refine GuardB.mk (fun hb => ?_) (fun hb => ?_)
    | refine NilQ.mk (fun hb => ?_) ?_
    | refine VC.mk Nat.zero_lt_one ?_
    | refine VC.mk rfl ?_
    | refine ACall.useIs [0] (implGoodEdges_call _ ?_) rfl (.cons (.same rfl rfl) (.nil _)) rfl ?_
    | refine ACall.useIs [1] (rise_call _ _ ?_) rfl (.cons (.same rfl rfl) (.nil _)) rfl ?_
    | refine AWP.while (ι := Nat) (fun k => St.of [(1, .slice ⟨1, 0, 0, 1, 0⟩ s.length), (6, .slice ⟨2, 0, 0, 1, 0⟩ (cutsN l s k).length), (18, .slice ⟨0, 0, 0, 3, 0⟩ l.length), (19, .int .i64 l.length), (20, .int .i64 k)] [.arr true .s3 l, .arr true .int s, .arr false .int (cutsN l s k)]) (fun k => k ≤ l.length) (fun k => l.length - k) 0 (Nat.zero_le _)
        (Weak.of [0, 1, 3] (.cons rfl rfl (.cons rfl rfl (.cons rfl rfl (.cons rfl rfl (.cons rfl rfl .nil))))) (.cons (.same rfl rfl) (.cons (.same rfl rfl) (.cons (.same rfl rfl) (.nil _)))) rfl) (fun k hk => ?_)
    | refine AWP.drw T (some [3]) rfl rfl rfl ?_
    | refine ACall.useIs [1] (slicesContains_call _ _ ?_) rfl (.cons (.same rfl rfl) (.nil _)) rfl ?_
    | refine roundEnd (k + 1) ?_ ?_ (Weak.of [0, 1, 5] (.cons rfl rfl (.s rfl ?_ rfl (.cons rfl rfl (.cons rfl rfl (.cons rfl rfl .nil))))) (.cons (.same rfl rfl) (.cons (.same rfl rfl) (.cons (.arr rfl ?_) (.nil _)))) rfl)
    | refine roundEnd (k + 1) ?_ ?_ (Weak.of [0, 1, 2] (.cons rfl rfl (.s rfl ?_ rfl (.cons rfl rfl (.cons rfl rfl (.cons rfl rfl .nil))))) (.cons (.same rfl rfl) (.cons (.same rfl rfl) (.cons (.arr rfl ?_) (.nil _)))) rfl)
    | refine Ret.sb [0, 1, 2] rfl ?_ ?_ (.cons (.same rfl rfl) (.cons (.same rfl rfl) (.cons (.arr rfl ?_) (.nil _)))) rfl
    | refine Ret.sb [0, 1, 3] rfl ?_ ?_ (.cons (.same rfl rfl) (.cons (.same rfl rfl) (.cons (.arr rfl ?_) (.nil _)))) rfl
    | refine VC.mk ?_ ?_
  all_goals try simp only [decide_eq_true_eq, decide_eq_false_iff_not, Bool.not_eq_true', Bool.not_eq_false', cond_true, cond_false, eqB_true, eqB_false] at *
  all_goals try simp only [in64, idxAdd_zero_left, Int.toNat_natCast, fillTo_length, Int.ofNat_lt, Int.ofNat_le, Int.natCast_inj] at *
  all_goals try
    have hg : goodEdges l = true := by assumption
    have hlr := goodEdges_len hg
    have hcl := cutsN_len l s k
  all_goals first
    | exact hl
    | exact hs
    | omega
    | rfl
    | exact StabL.one rfl
    | exact ⟨rfl, trivial⟩
    | exact ⟨by simp, by omega, by omega⟩
    | (simp_all [cutsM, cutOkE]; done)
    | (have hc : cutB l s k = true := by simp_all [cutB]
       rw [cutsN_succ, if_pos hc]
       first
       | (rw [sub_snoc']; done)
       | (simp; done))
    | (have hc : cutB l s k = false := by simp_all [cutB]
       rw [cutsN_succ, if_neg (by rw [hc]; simp)])
    | (have e : k = l.length := by omega
       subst e
       simp_all [cutsM, cutOkE]; done)

theorem alone_call  : ACall Try.prog 45 [] [] (Is (.ptr ⟨0, 0, 0, 1, 0⟩) [.arr false .int upTo8]) := by
  refine ACall.walk T Try.func45 Try.ntmps45 Try.results45 rfl rfl rfl (Is.nv _ _) ?_
  repeat' (conv => whnf); first
    | refine AWP.seq ?_
    | refine AWP.reg T rfl ?_
    | refine AWP.drw T none rfl rfl rfl ?_
    | refine AWP.dep T none rfl rfl rfl rfl ?_
    | refine AWP.block ?_
    | refine AWP.condT rfl ?_
    | refine AWP.condF rfl ?_
    | refine AWP.cond rfl (fun hb => ?_) (fun hb => ?_)
    | refine AWP.ret ?_
    | refine AWP.exit ?_
    | refine AWP.skip ?_
    | refine GuardB.t ?_
    | refine GuardB.f ?_
    | refine GuardB.mk (fun hb => ?_) (fun hb => ?_)
    | refine NilQ.mk (fun hb => ?_) ?_
    | refine VC.mk Nat.zero_lt_one ?_
    | refine VC.mk rfl ?_
    | refine AWP.while (ι := Nat) (fun k => St.of [(1, .ptr ⟨0, 0, 0, 1, 0⟩), (5, .int .i64 k)] [.arr false .int (fillTo upTo8 k 0)]) (fun k => k ≤ 8) (fun k => 8 - k) 0 (Nat.zero_le _)
        (Weak.of [0] (.cons rfl rfl (.cons rfl rfl .nil)) (.cons (.same rfl rfl) (.nil _)) rfl) (fun k hk => ?_)
    | refine roundEnd (k + 1) ?_ ?_ (Weak.of [0] (.cons rfl rfl (.cons rfl rfl .nil)) (.cons (.arr rfl ?_) (.nil _)) rfl)
    | refine Ret.is [0] rfl (.cons (.arr rfl ?_) (.nil _)) rfl
    | refine VC.mk ?_ ?_
  all_goals try simp only [decide_eq_true_eq, decide_eq_false_iff_not, Bool.not_eq_true', Bool.not_eq_false', cond_true, cond_false, eqB_true, eqB_false] at *
  all_goals try simp only [in64, idxAdd_zero_left, Int.toNat_natCast, fillTo_length, Int.ofNat_lt, Int.ofNat_le, Int.natCast_inj] at *
  all_goals first
    | omega
    | rfl
    | exact ⟨rfl, rfl⟩
    | (show k < 8; omega)
    | exact fill8 k (by omega)
    | exact ⟨by omega, by omega⟩
    | (have e : k = 8 := by omega
       subst e
       rfl)

theorem link_call (p : List Int) (a b : Int) (hp : p.length = 8) (ha : 0 ≤ a ∧ a ≤ 7) (hb : 0 ≤ b ∧ b ≤ 7) : ACall Try.prog 46 [.ptr ⟨0, 0, 0, 1, 0⟩, .int .i64 a, .int .i64 b] [.arr false .int p] (Is (.bool (!decide ((min (p.getD a.toNat 0) (p.getD b.toNat 0)) = (max (p.getD a.toNat 0) (p.getD b.toNat 0))))) [.arr false .int (linkP p a b)]) := by
  refine ACall.walk T Try.func46 Try.ntmps46 Try.results46 rfl rfl rfl (Is.nv _ _) ?_
  repeat' (conv => whnf); first
    | refine AWP.seq ?_
    | refine AWP.reg T rfl ?_
    | refine AWP.drw T none rfl rfl rfl ?_
    | refine AWP.dep T none rfl rfl rfl rfl ?_
    | refine AWP.block ?_
    | refine AWP.condT rfl ?_
    | refine AWP.condF rfl ?_
    | refine AWP.cond rfl (fun hb => ?_) (fun hb => ?_)
    | refine AWP.ret ?_
    | refine AWP.exit ?_
    | refine AWP.skip ?_
    | refine GuardB.t ?_
    | refine GuardB.f ?_
    | refine GuardB.mk (fun hb => ?_) (fun hb => ?_)
    | refine NilQ.mk (fun hb => ?_) ?_
    | refine VC.mk Nat.zero_lt_one ?_
    | refine VC.mk rfl ?_
    | refine AWP.while (ι := Nat) (fun k => St.of [(0, .ptr ⟨0, 0, 0, 1, 0⟩), (7, .int .i64 (min (p.getD a.toNat 0) (p.getD b.toNat 0))), (8, .int .i64 (max (p.getD a.toNat 0) (p.getD b.toNat 0))), (32, .int .i64 k)] [.arr false .int (mixTo (relab (min (p.getD a.toNat 0) (p.getD b.toNat 0)) (max (p.getD a.toNat 0) (p.getD b.toNat 0)) p) p k)]) (fun k => k ≤ 8) (fun k => 8 - k) 0 (Nat.zero_le _)
        (Weak.of [0] (.cons rfl rfl (.cons rfl rfl (.cons rfl rfl (.cons rfl rfl .nil)))) (.cons (.arr rfl (mixTo_zero _ _)) (.nil _)) rfl) (fun k hk => ?_)
    | refine roundEnd (k + 1) ?_ ?_ (Weak.of [0] (.cons rfl rfl (.cons rfl rfl (.cons rfl rfl (.cons rfl rfl .nil)))) (.cons (.arr rfl ?_) (.nil _)) rfl)
    | refine Ret.bool [0] ?_ (.cons (.arr rfl ?_) (.nil _)) rfl
    | refine VC.mk ?_ ?_
  all_goals try simp only [decide_eq_true_eq, decide_eq_false_iff_not, Bool.not_eq_true', Bool.not_eq_false', cond_true, cond_false, eqB_true, eqB_false] at *
  all_goals try simp only [in64, idxAdd_zero_left, Int.toNat_natCast, fillTo_length, Int.ofNat_lt, Int.ofNat_le, Int.natCast_inj] at *
  all_goals try have ml := mixTo_length (relab_len (min (p.getD a.toNat 0) (p.getD b.toNat 0)) (max (p.getD a.toNat 0) (p.getD b.toNat 0)) p) (show k ≤ p.length by omega)
  all_goals first
    | omega
    | rfl
    | exact ⟨by omega, by omega⟩
    | exact mixTo_all (by simp) (by omega)
    | exact (mixTo_all (by simp) (by omega)).symm
    | exact relab_hit (by omega) (by assumption)
    | exact relab_miss (by omega) (by assumption)
    | (simp; omega)

theorem slicesClone_call (l : List Int) (n : Nat) (hl : l.length ≤ 1048576) (hn : n = l.length) : ACall Try.prog 47 [.slice ⟨0, 0, 0, 1, 0⟩ n] [.arr true .int l] (Is (.slice ⟨1, 0, 0, 1, 0⟩ n) [.arr true .int l, .arr false .int l]) := by
  refine ACall.walk T Try.func47 Try.ntmps47 Try.results47 rfl rfl rfl (Is.nv _ _) ?_
  repeat' (conv => whnf); first
    | refine AWP.seq ?_
    | refine AWP.reg T rfl ?_
    | refine AWP.drw T none rfl rfl rfl ?_
    | refine AWP.dep T none rfl rfl rfl rfl ?_
    | refine AWP.block ?_
    | refine AWP.condT rfl ?_
    | refine AWP.condF rfl ?_
    | refine AWP.cond rfl (fun hb => ?_) (fun hb => ?_)
    | refine AWP.ret ?_
    | refine AWP.exit ?_
    | refine AWP.skip ?_
    | refine GuardB.t ?_
    | refine GuardB.f ?_
    | refine GuardB.mk (fun hb => ?_) (fun hb => ?_)
    | refine NilQ.mk (fun hb => ?_) ?_
    | refine VC.mk Nat.zero_lt_one ?_
    | refine VC.mk rfl ?_
    | refine Ret.s [0, 1] rfl ?_ (.cons (.same rfl rfl) (.cons (.arr rfl ?_) (.nil _))) rfl
    | refine Ret.s [0, 2] rfl ?_ (.cons (.same rfl rfl) (.cons (.arr rfl ?_) (.nil _))) rfl
    | refine Ret.s [0, 3] rfl ?_ (.cons (.same rfl rfl) (.cons (.arr rfl ?_) (.nil _))) rfl
    | refine VC.mk ?_ ?_
  all_goals try simp only [decide_eq_true_eq, decide_eq_false_iff_not, Bool.not_eq_true', Bool.not_eq_false', cond_true, cond_false, eqB_true, eqB_false] at *
  all_goals try simp only [in64, idxAdd_zero_left, Int.toNat_natCast, fillTo_length, Int.ofNat_lt, Int.ofNat_le, Int.natCast_inj] at *
  all_goals first
    | omega
    | rfl
    | exact ⟨by omega, by simp, by omega⟩
    | (subst hn; simp [sub]; done)
    | (have e : l = [] := List.eq_nil_of_length_eq_zero (by omega)
       rw [e])

theorem l7Parts_call (l : List S3) (s : List Int) (hg : goodEdges l = true) (hs : someB s l.length = true) : ACall Try.prog 44 [.slice ⟨0, 0, 0, 3, 0⟩ l.length, .slice ⟨1, 0, 0, 1, 0⟩ s.length] [.arr true .s3 l, .arr true .int s] (Is (.slice ⟨2, 0, 0, 1, 0⟩ 8) [.arr true .s3 l, .arr true .int s, .arr false .int (partsN l s s.length)]) := by
  refine ACall.walk T Try.func44 Try.ntmps44 Try.results44 rfl rfl rfl (Is.nv _ _) ?_
  repeat' (conv => whnf); first
    | refine AWP.seq ?_
    | refine AWP.reg T rfl ?_
    | refine AWP.drw T none rfl rfl rfl ?_
    | refine AWP.dep T none rfl rfl rfl rfl ?_
    | refine AWP.block ?_
    | refine AWP.condT rfl ?_
    | refine AWP.condF rfl ?_
    | refine AWP.cond rfl (fun hb => ?_) (fun hb => ?_)
    | refine AWP.ret ?_
    | refine AWP.exit ?_
    | refine AWP.skip ?_
    | refine GuardB.t ?_
    | refine GuardB.f ?_
    | refine GuardB.mk (fun hb => ?_) (fun hb => ?_)
    | refine NilQ.mk (fun hb => ?_) ?_
    | refine VC.mk Nat.zero_lt_one ?_
    | refine VC.mk rfl ?_
    | refine AWP.while (ι := Nat) (fun k => St.of [(0, .slice ⟨0, 0, 0, 3, 0⟩ l.length), (1, .slice ⟨1, 0, 0, 1, 0⟩ s.length), (5, .slice ⟨2, 0, 0, 1, 0⟩ k), (6, .int .i64 k)] [.arr true .s3 l, .arr true .int s, .arr false .int (upTo8.take k)]) (fun k => k ≤ 8) (fun k => 8 - k) 0 (Nat.zero_le _)
        (Weak.of [0, 1, 3] (.cons rfl rfl (.cons rfl rfl (.cons rfl rfl (.cons rfl rfl .nil)))) (.cons (.same rfl rfl) (.cons (.same rfl rfl) (.cons (.same rfl rfl) (.nil _)))) rfl) (fun k hk => ?_)
    | refine AWP.while (ι := Nat) (fun m => St.of [(0, .slice ⟨0, 0, 0, 3, 0⟩ l.length), (5, .slice ⟨2, 0, 0, 1, 0⟩ 8), (21, .slice ⟨1, 0, 0, 1, 0⟩ s.length), (22, .int .i64 s.length), (23, .int .i64 m)] [.arr true .s3 l, .arr true .int s, .arr false .int (partsN l s m)]) (fun m => m ≤ s.length) (fun m => s.length - m) 0 (Nat.zero_le _)
        (Weak.of [0, 1, 2] (.cons rfl rfl (.s rfl ?_ rfl (.cons rfl rfl (.cons rfl rfl (.cons rfl rfl .nil))))) (.cons (.same rfl rfl) (.cons (.same rfl rfl) (.cons (.arr rfl ?_) (.nil _)))) rfl) (fun m hm => ?_)
    | refine AWP.while (ι := Nat) (fun q => St.of [(0, .slice ⟨0, 0, 0, 3, 0⟩ l.length), (5, .slice ⟨2, 0, 0, 1, 0⟩ 8), (9, .int .i64 (min ((partsN l s m).getD ((l.getD (s.getD m 0).toNat ⟨0, 0, 0⟩).a).toNat 0) ((partsN l s m).getD ((l.getD (s.getD m 0).toNat ⟨0, 0, 0⟩).b).toNat 0))), (10, .int .i64 (max ((partsN l s m).getD ((l.getD (s.getD m 0).toNat ⟨0, 0, 0⟩).a).toNat 0) ((partsN l s m).getD ((l.getD (s.getD m 0).toNat ⟨0, 0, 0⟩).b).toNat 0))), (21, .slice ⟨1, 0, 0, 1, 0⟩ s.length), (22, .int .i64 s.length), (23, .int .i64 m), (49, .slice ⟨2, 0, 0, 1, 0⟩ 8), (50, .int .i64 8), (51, .int .i64 q)] [.arr true .s3 l, .arr true .int s, .arr false .int (mixTo (relab (min ((partsN l s m).getD ((l.getD (s.getD m 0).toNat ⟨0, 0, 0⟩).a).toNat 0) ((partsN l s m).getD ((l.getD (s.getD m 0).toNat ⟨0, 0, 0⟩).b).toNat 0)) (max ((partsN l s m).getD ((l.getD (s.getD m 0).toNat ⟨0, 0, 0⟩).a).toNat 0) ((partsN l s m).getD ((l.getD (s.getD m 0).toNat ⟨0, 0, 0⟩).b).toNat 0)) (partsN l s m)) (partsN l s m) q)]) (fun q => q ≤ 8) (fun q => 8 - q) 0 (Nat.zero_le _)
        (Weak.of [0, 1, 2] (.cons rfl rfl (.cons rfl rfl (.i rfl ?_ (.i rfl ?_ (.cons rfl rfl (.cons rfl rfl (.cons rfl rfl (.cons rfl rfl (.cons rfl rfl (.cons rfl rfl .nil)))))))))) (.cons (.same rfl rfl) (.cons (.same rfl rfl) (.cons (.arr rfl (mixTo_zero _ _)) (.nil _)))) rfl) (fun q hq => ?_)
    | refine roundEnd (k + 1) ?_ ?_ (Weak.of [0, 1, 4] (.cons rfl rfl (.cons rfl rfl (.cons rfl rfl (.cons rfl rfl .nil)))) (.cons (.same rfl rfl) (.cons (.same rfl rfl) (.cons (.arr rfl ?_) (.nil _)))) rfl)
    | refine roundEnd (q + 1) ?_ ?_ (Weak.of [0, 1, 2] (.cons rfl rfl (.cons rfl rfl (.cons rfl rfl (.cons rfl rfl (.cons rfl rfl (.cons rfl rfl (.cons rfl rfl (.cons rfl rfl (.cons rfl rfl (.cons rfl rfl .nil)))))))))) (.cons (.same rfl rfl) (.cons (.same rfl rfl) (.cons (.arr rfl ?_) (.nil _)))) rfl)
    | refine roundEnd (m + 1) ?_ ?_ (Weak.of [0, 1, 2] (.cons rfl rfl (.cons rfl rfl (.cons rfl rfl (.cons rfl rfl (.cons rfl rfl .nil))))) (.cons (.same rfl rfl) (.cons (.same rfl rfl) (.cons (.arr rfl ?_) (.nil _)))) rfl)
    | refine Ret.s [0, 1, 2] rfl ?_ (.cons (.same rfl rfl) (.cons (.same rfl rfl) (.cons (.arr rfl ?_) (.nil _)))) rfl
    | refine VC.mk ?_ ?_
  all_goals try simp only [decide_eq_true_eq, decide_eq_false_iff_not, Bool.not_eq_true', Bool.not_eq_false', cond_true, cond_false, eqB_true, eqB_false] at *
  all_goals try simp only [in64, idxAdd_zero_left, Int.toNat_natCast, fillTo_length, Int.ofNat_lt, Int.ofNat_le, Int.natCast_inj] at *
  all_goals try have hlr := goodEdges_len hg
  all_goals try have hsl := someB_len hs
  all_goals try have h8 := partsN_len l s m
  all_goals try
    have hm2 : m < s.length := by omega
    have hat := someB_at hs hm2
    have ge := goodEdges_at hg (k := (s.getD m 0).toNat) (by omega)
  all_goals try
    have ml := mixTo_length (relab_len (min ((partsN l s m).getD ((l.getD (s.getD m 0).toNat ⟨0, 0, 0⟩).a).toNat 0) ((partsN l s m).getD ((l.getD (s.getD m 0).toNat ⟨0, 0, 0⟩).b).toNat 0)) (max ((partsN l s m).getD ((l.getD (s.getD m 0).toNat ⟨0, 0, 0⟩).a).toNat 0) ((partsN l s m).getD ((l.getD (s.getD m 0).toNat ⟨0, 0, 0⟩).b).toNat 0)) (partsN l s m)) (show q ≤ (partsN l s m).length by omega)
  all_goals first
    | omega
    | rfl
    | exact take8 k (by omega)
    | exact ⟨by simp, by simp [upTo8]; omega, by omega⟩
    | exact ⟨by omega, by omega⟩
    | (have e : k = 8 := by omega
       subst e
       rfl)
    | (have e : m = s.length := by omega
       subst e
       rfl)
    | exact mixTo_all (by simp) (by omega)
    | exact (mixTo_all (by simp) (by omega)).symm
    | exact relab_hit (by omega) (by assumption)
    | exact relab_miss (by omega) (by assumption)
    | (simp; omega)

theorem specPartsOf_call (l : List S3) (s : List Int) (hl : l.length ≤ 1048576) (hs : s.length ≤ 1048576) : ACall Try.prog 20 [.slice ⟨0, 0, 0, 3, 0⟩ l.length, .slice ⟨1, 0, 0, 1, 0⟩ s.length] [.arr true .s3 l, .arr true .int s] (Is (.tuple [.slice ⟨2, 0, 0, 1, 0⟩ (partsM l s).length, .bool (partsOk l s)]) [.arr true .s3 l, .arr true .int s, .arr false .int (partsM l s)]) := by
  refine ACall.walk T Try.func20 Try.ntmps20 Try.results20 rfl rfl rfl (Is.nv _ _) ?_
  repeat' (conv => whnf); first
    | refine AWP.seq ?_
    | refine AWP.reg T rfl ?_
    | refine AWP.drw T none rfl rfl rfl ?_
    | refine AWP.dep T none rfl rfl rfl rfl ?_
    | refine AWP.block ?_
    | refine AWP.condT rfl ?_
    | refine AWP.condF rfl ?_
    | refine AWP.cond rfl (fun hb => ?_) (fun hb => ?_)
    | refine AWP.ret ?_
    | refine AWP.exit ?_
    | refine AWP.skip ?_
    | refine GuardB.t ?_
    | refine GuardB.f ?_
    | refine GuardB.mk (fun hb => ?_) (fun hb => ?_)
    | refine NilQ.mk (fun hb => ?_) ?_
    | refine VC.mk Nat.zero_lt_one ?_
    | refine VC.mk rfl ?_
    | refine ACall.useIs [0] (specGoodEdges_call _ ?_) rfl (.cons (.same rfl rfl) (.nil _)) rfl ?_
    | refine ACall.useIs [1] (l1Some_call _ _ ?_) rfl (.cons (.same rfl rfl) (.nil _)) rfl ?_
    | refine ACall.useIs [0, 1] (l7Parts_call _ _ ?_ ?_) rfl (.cons (.same rfl rfl) (.cons (.same rfl rfl) (.nil _))) rfl ?_
    | refine Ret.sb [0, 1, 3] rfl ?_ ?_ (.cons (.same rfl rfl) (.cons (.same rfl rfl) (.cons (.arr rfl ?_) (.nil _)))) rfl
    | refine VC.mk ?_ ?_
  all_goals try simp only [decide_eq_true_eq, decide_eq_false_iff_not, Bool.not_eq_true', Bool.not_eq_false', cond_true, cond_false, eqB_true, eqB_false] at *
  all_goals try simp only [in64, idxAdd_zero_left, Int.toNat_natCast, fillTo_length, Int.ofNat_lt, Int.ofNat_le, Int.natCast_inj] at *
  all_goals first
    | exact hl
    | exact hs
    | omega
    | rfl
    | (have h8 := partsN_len l s k
       omega)
    | (simp_all [partsM, partsOk]; done)

theorem implPartsOf_call (l : List S3) (s : List Int) (hl : l.length ≤ 1048576) (hs : s.length ≤ 1048576) : ACall Try.prog 21 [.slice ⟨0, 0, 0, 3, 0⟩ l.length, .slice ⟨1, 0, 0, 1, 0⟩ s.length] [.arr true .s3 l, .arr true .int s] (Is (.tuple [.slice ⟨2, 0, 0, 1, 0⟩ (partsM l s).length, .bool (partsOk l s)]) [.arr true .s3 l, .arr true .int s, .arr false .int (partsM l s)]) := by
  refine ACall.walk T Try.func21 Try.ntmps21 Try.results21 rfl rfl rfl (Is.nv _ _) ?_
  repeat' (conv => whnf); first
    | refine AWP.regX (id := 9) T 2 rfl ?_
    | refine AWP.seq ?_
    | refine AWP.reg T rfl ?_
    | refine AWP.drw T none rfl rfl rfl ?_
    | refine AWP.dep T none rfl rfl rfl rfl ?_
    | refine AWP.block ?_
    | refine AWP.condT rfl ?_
    | refine AWP.condF rfl ?_
    | refine AWP.cond rfl (fun hb => ?_) (fun hb => ?_)
    | refine AWP.ret ?_
    | refine AWP.exit ?_
    | refine AWP.skip ?_
    | refine GuardB.t ?_
    | refine GuardB.f ?_
    | refine GuardB.mk (fun hb => ?_) (fun hb => ?_)
    | refine NilQ.mk (fun hb => ?_) ?_
    | refine VC.mk Nat.zero_lt_one ?_
    | refine VC.mk rfl ?_
    | refine ACall.useIs [0] (implGoodEdges_call _ ?_) rfl (.cons (.same rfl rfl) (.nil _)) rfl ?_
    | refine ACall.useIs [1] (rise_call _ _ ?_) rfl (.cons (.same rfl rfl) (.nil _)) rfl ?_
    | refine ACall.useIs [] (alone_call) rfl (.nil _) rfl ?_
    | refine AWP.while (ι := Nat) (fun k => St.of [(0, .slice ⟨0, 0, 0, 3, 0⟩ l.length), (6, .ptr ⟨2, 0, 0, 1, 0⟩), (20, .slice ⟨1, 0, 0, 1, 0⟩ s.length), (21, .int .i64 s.length), (22, .int .i64 k)] [.arr true .s3 l, .arr true .int s, .arr false .int (partsN l s k)]) (fun k => k ≤ s.length) (fun k => s.length - k) 0 (Nat.zero_le _)
        (Weak.of [0, 1, 3] (.cons rfl rfl (.cons rfl rfl (.cons rfl rfl (.cons rfl rfl (.cons rfl rfl .nil))))) (.cons (.same rfl rfl) (.cons (.same rfl rfl) (.cons (.same rfl rfl) (.nil _)))) rfl) (fun k hk => ?_)
    | refine ACall.useIs [2] (link_call _ _ _ ?_ ?_ ?_) rfl (.cons (.same rfl rfl) (.nil _)) rfl ?_
    | refine ACall.useIs [2] (slicesClone_call _ _ ?_ ?_) rfl (.cons (.ro rfl rfl) (.nil _)) rfl ?_
    | refine XGoal.slc rfl ?_
    | refine roundEnd (k + 1) ?_ ?_ (Weak.of [0, 1, 2] (.cons rfl rfl (.cons rfl rfl (.cons rfl rfl (.cons rfl rfl (.cons rfl rfl .nil))))) (.cons (.same rfl rfl) (.cons (.same rfl rfl) (.cons (.arr rfl ?_) (.nil _)))) rfl)
    | refine Ret.sb [0, 1, 3] rfl ?_ ?_ (.cons (.same rfl rfl) (.cons (.same rfl rfl) (.cons (.arr rfl ?_) (.nil _)))) rfl
    | refine VC.mk ?_ ?_
  all_goals try simp only [decide_eq_true_eq, decide_eq_false_iff_not, Bool.not_eq_true', Bool.not_eq_false', cond_true, cond_false, eqB_true, eqB_false] at *
  all_goals try simp only [in64, idxAdd_zero_left, Int.toNat_natCast, fillTo_length, Int.ofNat_lt, Int.ofNat_le, Int.natCast_inj] at *
  all_goals try
    have hg : goodEdges l = true := by assumption
    have hsm : someB s l.length = true := by assumption
    have hlr := goodEdges_len hg
    have hsl := someB_len hsm
    have h8 := partsN_len l s k
  all_goals try
    have hk2 : k < s.length := by omega
    have hat := someB_at hsm hk2
    have ge := goodEdges_at hg (k := (s.getD k 0).toNat) (by omega)
  all_goals first
    | exact hl
    | exact hs
    | omega
    | rfl
    | exact ⟨by omega, by omega⟩
    | (simp_all [partsM, partsOk]; done)
    | (have e : k = s.length := by omega
       subst e
       simp_all [partsM, partsOk]; done)

theorem lawCutOf_call (l : List S3) (s : List Int) (hl : l.length ≤ 9223372036854775807) (hs : s.length ≤ 9223372036854775807) : ACall Try.prog 3 [.slice ⟨0, 0, 0, 3, 0⟩ l.length, .slice ⟨1, 0, 0, 1, 0⟩ s.length] [.arr true .s3 l, .arr true .int s] (Is (.bool true) [.arr true .s3 l, .arr true .int s]) := by
  refine ACall.walk T Try.func3 Try.ntmps3 Try.results3 rfl rfl rfl (Is.nv _ _) ?_
  repeat' (conv => whnf); first
    | refine AWP.seq ?_
    | refine AWP.reg T rfl ?_
    | refine AWP.drw T none rfl rfl rfl ?_
    | refine AWP.dep T none rfl rfl rfl rfl ?_
    | refine AWP.block ?_
    | refine AWP.condT rfl ?_
    | refine AWP.condF rfl ?_
    | refine AWP.cond rfl (fun hb => ?_) (fun hb => ?_)
    | refine AWP.ret ?_
    | refine AWP.exit ?_
    | refine AWP.skip ?_
    | refine GuardB.t ?_
    | refine GuardB.f ?_
    | refine GuardB.mk (fun hb => ?_) (fun hb => ?_)
    | refine NilQ.mk (fun hb => ?_) ?_
    | refine VC.mk Nat.zero_lt_one ?_
    | refine VC.mk rfl ?_
    | refine ACall.useIs [0] (szEdgeS_call _ _ ?_ ?_) rfl (.cons (.same rfl rfl) (.nil _)) rfl ?_
    | refine ACall.useIs [0] (toEdgeS_call _ ?_) rfl (.cons (.same rfl rfl) (.nil _)) rfl ?_
    | refine ACall.useIs [1] (toIntS_call _ ?_) rfl (.cons (.same rfl rfl) (.nil _)) rfl ?_
    | refine ACall.useIs [2, 3] (specCutOf_call _ _ ?_ ?_) rfl (.cons (.ro rfl rfl) (.cons (.ro rfl rfl) (.nil _))) rfl ?_
    | refine ACall.useIs [5, 6] (implCutOf_call _ _ ?_ ?_) rfl (.cons (.ro rfl rfl) (.cons (.ro rfl rfl) (.nil _))) rfl ?_
    | refine ACall.useIs [10, 11] (implCutOf_call _ _ ?_ ?_) rfl (.cons (.ro rfl rfl) (.cons (.ro rfl rfl) (.nil _))) rfl ?_
    | refine ACall.useIs [7, 4] (eqIntS_call _ _ ?_) rfl (.cons (.ro rfl rfl) (.cons (.ro rfl rfl) (.nil _))) rfl ?_
    | refine ACall.useIs [5, 8] (eqEdgeS_call _ _ ?_) rfl (.cons (.ro rfl rfl) (.cons (.ro rfl rfl) (.nil _))) rfl ?_
    | refine ACall.useIs [6, 9] (eqIntS_call _ _ ?_) rfl (.cons (.ro rfl rfl) (.cons (.ro rfl rfl) (.nil _))) rfl ?_
    | refine ACall.useIs [12, 4] (eqIntS_call _ _ ?_) rfl (.cons (.ro rfl rfl) (.cons (.ro rfl rfl) (.nil _))) rfl ?_
    | refine ACall.useIs [5] (markEdgeS_call _ _ ?_ ?_) rfl (.cons (.same rfl rfl) (.nil _)) rfl ?_
    | refine ACall.useIs [6] (markIntS_call _ _ ?_ ?_) rfl (.cons (.same rfl rfl) (.nil _)) rfl ?_
    | refine ACall.useIs [7] (markIntS_call _ _ ?_ ?_) rfl (.cons (.same rfl rfl) (.nil _)) rfl ?_
    | refine ACall.useIs [7] (heldIntS_call _ _ ?_ ?_) rfl (.cons (.ro rfl rfl) (.nil _)) rfl ?_
    | refine Ret.bool [0, 1] ?_ (.cons (.same rfl rfl) (.cons (.same rfl rfl) (.nil _))) rfl
    | refine VC.mk ?_ ?_
  all_goals try simp only [decide_eq_true_eq, decide_eq_false_iff_not, Bool.not_eq_true', Bool.not_eq_false', cond_true, cond_false, eqB_true, eqB_false] at *
  all_goals try simp only [in64, idxAdd_zero_left, Int.toNat_natCast, fillTo_length, Int.ofNat_lt, Int.ofNat_le, Int.natCast_inj] at *
  all_goals try simp only [marksI_length, marks3_length] at *
  all_goals try have hfact := cutsM_le l s
  all_goals first
    | rfl
    | omega
    | exact leftOf_ok (by assumption) (by omega)
    | (have := leftOf_ok (by assumption) (by omega : (1048576 : Int) ≤ 1048576); omega)
    | (simp_all [eqB]; done)
    | (simp_all [eqB]; omega)

theorem lawPartsOf_call (l : List S3) (s : List Int) (hl : l.length ≤ 9223372036854775807) (hs : s.length ≤ 9223372036854775807) : ACall Try.prog 4 [.slice ⟨0, 0, 0, 3, 0⟩ l.length, .slice ⟨1, 0, 0, 1, 0⟩ s.length] [.arr true .s3 l, .arr true .int s] (Is (.bool true) [.arr true .s3 l, .arr true .int s]) := by
  refine ACall.walk T Try.func4 Try.ntmps4 Try.results4 rfl rfl rfl (Is.nv _ _) ?_
  repeat' (conv => whnf); first
    | refine AWP.seq ?_
    | refine AWP.reg T rfl ?_
    | refine AWP.drw T none rfl rfl rfl ?_
    | refine AWP.dep T none rfl rfl rfl rfl ?_
    | refine AWP.block ?_
    | refine AWP.condT rfl ?_
    | refine AWP.condF rfl ?_
    | refine AWP.cond rfl (fun hb => ?_) (fun hb => ?_)
    | refine AWP.ret ?_
    | refine AWP.exit ?_
    | refine AWP.skip ?_
    | refine GuardB.t ?_
    | refine GuardB.f ?_
    | refine GuardB.mk (fun hb => ?_) (fun hb => ?_)
    | refine NilQ.mk (fun hb => ?_) ?_
    | refine VC.mk Nat.zero_lt_one ?_
    | refine VC.mk rfl ?_
    | refine ACall.useIs [0] (szEdgeS_call _ _ ?_ ?_) rfl (.cons (.same rfl rfl) (.nil _)) rfl ?_
    | refine ACall.useIs [0] (toEdgeS_call _ ?_) rfl (.cons (.same rfl rfl) (.nil _)) rfl ?_
    | refine ACall.useIs [1] (toIntS_call _ ?_) rfl (.cons (.same rfl rfl) (.nil _)) rfl ?_
    | refine ACall.useIs [2, 3] (specPartsOf_call _ _ ?_ ?_) rfl (.cons (.ro rfl rfl) (.cons (.ro rfl rfl) (.nil _))) rfl ?_
    | refine ACall.useIs [5, 6] (implPartsOf_call _ _ ?_ ?_) rfl (.cons (.ro rfl rfl) (.cons (.ro rfl rfl) (.nil _))) rfl ?_
    | refine ACall.useIs [10, 11] (implPartsOf_call _ _ ?_ ?_) rfl (.cons (.ro rfl rfl) (.cons (.ro rfl rfl) (.nil _))) rfl ?_
    | refine ACall.useIs [7, 4] (eqIntS_call _ _ ?_) rfl (.cons (.ro rfl rfl) (.cons (.ro rfl rfl) (.nil _))) rfl ?_
    | refine ACall.useIs [5, 8] (eqEdgeS_call _ _ ?_) rfl (.cons (.ro rfl rfl) (.cons (.ro rfl rfl) (.nil _))) rfl ?_
    | refine ACall.useIs [6, 9] (eqIntS_call _ _ ?_) rfl (.cons (.ro rfl rfl) (.cons (.ro rfl rfl) (.nil _))) rfl ?_
    | refine ACall.useIs [12, 4] (eqIntS_call _ _ ?_) rfl (.cons (.ro rfl rfl) (.cons (.ro rfl rfl) (.nil _))) rfl ?_
    | refine ACall.useIs [5] (markEdgeS_call _ _ ?_ ?_) rfl (.cons (.same rfl rfl) (.nil _)) rfl ?_
    | refine ACall.useIs [6] (markIntS_call _ _ ?_ ?_) rfl (.cons (.same rfl rfl) (.nil _)) rfl ?_
    | refine ACall.useIs [7] (markIntS_call _ _ ?_ ?_) rfl (.cons (.same rfl rfl) (.nil _)) rfl ?_
    | refine ACall.useIs [7] (heldIntS_call _ _ ?_ ?_) rfl (.cons (.ro rfl rfl) (.nil _)) rfl ?_
    | refine Ret.bool [0, 1] ?_ (.cons (.same rfl rfl) (.cons (.same rfl rfl) (.nil _))) rfl
    | refine VC.mk ?_ ?_
  all_goals try simp only [decide_eq_true_eq, decide_eq_false_iff_not, Bool.not_eq_true', Bool.not_eq_false', cond_true, cond_false, eqB_true, eqB_false] at *
  all_goals try simp only [in64, idxAdd_zero_left, Int.toNat_natCast, fillTo_length, Int.ofNat_lt, Int.ofNat_le, Int.natCast_inj] at *
  all_goals try simp only [marksI_length, marks3_length] at *
  all_goals try have hfact := partsM_le l s
  all_goals first
    | rfl
    | omega
    | exact leftOf_ok (by assumption) (by omega)
    | (have := leftOf_ok (by assumption) (by omega : (1048576 : Int) ≤ 1048576); omega)
    | (simp_all [eqB]; done)
    | (simp_all [eqB]; omega)

end YtnfcnocoehkgoaaAM
