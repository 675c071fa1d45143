/- Contracts of functions of this seat. -/
import Derived.Test.YtgkpdnacfpdomaaAmTabPipes
import Derived.Test.YtgkpdnacfpdomaaAmModels
import Derived.Test.YtgkpdnacfpdomaaAmPipes6
set_option linter.unusedVariables false
set_option linter.unusedSimpArgs false
set_option maxRecDepth 100000
set_option maxHeartbeats 2000000
namespace YtgkpdnacfpdomaaAM
open Go Go.Proofs
attribute [local irreducible] srchN innerN srch byOf stp rnd foldN nodeN minN mostN upN dist augM augF augO outN outM grN grM aoL aoN aoB mfL mfN

theorem slicesClone_call (l : List Int) (n : Nat) (hl : l.length ≤ 1048576) (hn : n = l.length) : ACall Try.prog 59 [.slice ⟨0, 0, 0, 1, 0⟩ n] [.arr true .int l] (Is (.slice ⟨1, 0, 0, 1, 0⟩ n) [.arr true .int l, .arr false .int l]) := by
  refine ACall.walk T Try.func59 Try.ntmps59 Try.results59 rfl rfl rfl (Is.nv _ _) ?_
  repeat' (conv => whnf); first
    | refine AWP.seq ?_
    | refine AWP.reg T rfl ?_
    | refine AWP.drw T none rfl rfl rfl ?_
    | refine AWP.dep T none rfl rfl rfl rfl ?_
    | refine AWP.block ?_
    | refine AWP.condT rfl ?_
    | refine AWP.condF rfl ?_
    | refine AWP.cond rfl (fun hb => ?_) (fun hb => ?_)
    | refine AWP.ret ?_
    | refine AWP.exit ?_
    | refine AWP.skip ?_
    | refine GuardB.t ?_
    | refine GuardB.f ?_
    | refine GuardB.mk (fun hb => ?_) (fun hb => ?_)
    | refine NilQ.mk (fun hb => ?_) ?_
    | refine VC.mk Nat.zero_lt_one ?_
    | refine VC.mk rfl ?_
    | refine Ret.s [0, 1] rfl ?_ (.cons (.same rfl rfl) (.cons (.arr rfl ?_) (.nil _))) rfl
    | refine Ret.s [0, 2] rfl ?_ (.cons (.same rfl rfl) (.cons (.arr rfl ?_) (.nil _))) rfl
    | refine Ret.s [0, 3] rfl ?_ (.cons (.same rfl rfl) (.cons (.arr rfl ?_) (.nil _))) rfl
    | refine VC.mk ?_ ?_
  all_goals try simp only [decide_eq_true_eq, decide_eq_false_iff_not, Bool.not_eq_true', Bool.not_eq_false', cond_true, cond_false, eqB_true, eqB_false] at *
  all_goals try simp only [in64, idxAdd_zero_left, Int.toNat_natCast, fillTo_length, Int.ofNat_lt, Int.ofNat_le, Int.natCast_inj] at *
  all_goals first
    | omega
    | rfl
    | exact ⟨by omega, by simp, by omega⟩
    | (subst hn; simp [sub]; done)
    | (have e : l = [] := List.eq_nil_of_length_eq_zero (by omega)
       rw [e])

theorem specAugmentOnce_call (l : List S3) (u t : Int) (fl : List Int) (hl : l.length ≤ 1048576) (hf : fl.length ≤ 1048576) : ACall Try.prog 30 [.slice ⟨0, 0, 0, 3, 0⟩ l.length, .int .i64 u, .int .i64 t, .slice ⟨1, 0, 0, 1, 0⟩ fl.length] [.arr true .s3 l, .arr true .int fl] (Is (.tuple [.slice ⟨2, 0, 0, 1, 0⟩ (aoL l u t fl).length, .int .i64 (aoN l u t fl), .bool (aoB l u t fl)]) [.arr true .s3 l, .arr true .int fl, .arr false .int (aoL l u t fl)]) := by
  refine ACall.walk T Try.func30 Try.ntmps30 Try.results30 rfl rfl rfl (Is.nv _ _) ?_
  repeat' (conv => whnf); first
    | refine AWP.seq ?_
    | refine AWP.reg T rfl ?_
    | refine AWP.drw T none rfl rfl rfl ?_
    | refine AWP.dep T none rfl rfl rfl rfl ?_
    | refine AWP.block ?_
    | refine AWP.condT rfl ?_
    | refine AWP.condF rfl ?_
    | refine AWP.cond rfl (fun hb => ?_) (fun hb => ?_)
    | refine AWP.ret ?_
    | refine AWP.exit ?_
    | refine AWP.skip ?_
    | refine GuardB.t ?_
    | refine GuardB.f ?_
    | refine GuardB.mk (fun hb => ?_) (fun hb => ?_)
    | refine NilQ.mk (fun hb => ?_) ?_
    | refine VC.mk Nat.zero_lt_one ?_
    | refine VC.mk rfl ?_
    | refine ACall.useIs [0, 1] (specIsFlow_call _ _ _ _ ?_ ?_) rfl (.cons (.same rfl rfl) (.cons (.same rfl rfl) (.nil _))) rfl ?_
    | refine ACall.useIs [0, 1] (l8Augment_call _ _ _ _ ?_ ?_ ?_ ?_ ?_ ?_) rfl (.cons (.same rfl rfl) (.cons (.same rfl rfl) (.nil _))) rfl ?_
    | refine Ret.sib [0, 1, 3] rfl ?_ ?_ ?_ (.cons (.same rfl rfl) (.cons (.same rfl rfl) (.cons (.arr rfl ?_) (.nil _)))) rfl
    | refine VC.mk ?_ ?_
  all_goals try simp only [decide_eq_true_eq, decide_eq_false_iff_not, Bool.not_eq_true', Bool.not_eq_false', cond_true, cond_false, eqB_true, eqB_false] at *
  all_goals try simp only [in64, idxAdd_zero_left, Int.toNat_natCast, fillTo_length, Int.ofNat_lt, Int.ofNat_le, Int.natCast_inj] at *
  all_goals try have hi : isFl l u t fl = true := by (first | assumption | (simp_all; done))
  all_goals try
    have hs := isFl_spec hi
    have ha := aug_spec (fl := fl) hs.1 hs.2.1 hs.2.2.2.1 hs.2.2.2.2.1 hs.2.2.2.2.2.1
    have hlr := goodPipes_len hs.1
  all_goals first
    | omega
    | exact hl
    | exact hf
    | exact hs.1
    | exact hs.2.1
    | exact hs.2.2.1
    | exact hs.2.2.2.1
    | exact hs.2.2.2.2.1
    | exact hs.2.2.2.2.2.1
    | (rw [aoL, if_pos hi]; done)
    | (rw [aoN, if_pos hi]; done)
    | (rw [aoB, hi, Bool.true_and]; done)
    | (rw [aoL, if_pos hi, augO_eq (by assumption)]; done)
    | (rw [aoL, if_pos hi, augO_eq (by assumption), augF_len]; done)
    | (rw [aoL, if_pos hi, augO_nil hs.1 hs.2.1 hs.2.2.2.1 hs.2.2.2.2.1 hs.2.2.2.2.2.1 (by assumption)]; done)
    | (rw [aoL, if_pos hi, augO_nil hs.1 hs.2.1 hs.2.2.2.1 hs.2.2.2.2.1 hs.2.2.2.2.2.1 (by assumption)]; rfl)
    | (rw [aoN, if_pos hi]; omega)
    | (rw [aoB, hi, Bool.true_and]; first | exact (decide_eq_true (by omega)).symm | exact (decide_eq_false (by omega)).symm | exact decide_eq_true (by omega) | exact decide_eq_false (by omega))
    | (have hn : isFl l u t fl = false := by (first | assumption | (simp_all; done) | (cases hq : isFl l u t fl <;> simp_all [isFl]; done))
       first
       | (rw [aoL, if_neg (by rw [hn]; simp)]; done)
       | (rw [aoL, if_neg (by rw [hn]; simp)]; rfl)
       | (rw [aoN, if_neg (by rw [hn]; simp)]; done)
       | (rw [aoB, hn]; rfl)
       | (rw [aoB, hn]; done))

theorem implAugmentOnce_call (l : List S3) (u t : Int) (fl : List Int) (hl : l.length ≤ 1048576) (hf : fl.length ≤ 1048576) : ACall Try.prog 31 [.slice ⟨0, 0, 0, 3, 0⟩ l.length, .int .i64 u, .int .i64 t, .slice ⟨1, 0, 0, 1, 0⟩ fl.length] [.arr true .s3 l, .arr true .int fl] (Is (.tuple [.slice ⟨2, 0, 0, 1, 0⟩ (aoL l u t fl).length, .int .i64 (aoN l u t fl), .bool (aoB l u t fl)]) [.arr true .s3 l, .arr true .int fl, .arr false .int (aoL l u t fl)]) := by
  refine ACall.walk T Try.func31 Try.ntmps31 Try.results31 rfl rfl rfl (Is.nv _ _) ?_
  repeat' (conv => whnf); first
    | refine AWP.seq ?_
    | refine AWP.reg T rfl ?_
    | refine AWP.drw T none rfl rfl rfl ?_
    | refine AWP.dep T none rfl rfl rfl rfl ?_
    | refine AWP.block ?_
    | refine AWP.condT rfl ?_
    | refine AWP.condF rfl ?_
    | refine AWP.cond rfl (fun hb => ?_) (fun hb => ?_)
    | refine AWP.ret ?_
    | refine AWP.exit ?_
    | refine AWP.skip ?_
    | refine GuardB.t ?_
    | refine GuardB.f ?_
    | refine GuardB.mk (fun hb => ?_) (fun hb => ?_)
    | refine NilQ.mk (fun hb => ?_) ?_
    | refine VC.mk Nat.zero_lt_one ?_
    | refine VC.mk rfl ?_
    | refine ACall.useIs [0, 1] (implIsFlow_call _ _ _ _ ?_ ?_) rfl (.cons (.same rfl rfl) (.cons (.same rfl rfl) (.nil _))) rfl ?_
    | refine ACall.useIs [1] (slicesClone_call _ _ ?_ ?_) rfl (.cons (.same rfl rfl) (.nil _)) rfl ?_
    | refine ACall.useIs [0, 3] (augment_call _ _ _ _ ?_ ?_ ?_ ?_ ?_ ?_) rfl (.cons (.same rfl rfl) (.cons (.same rfl rfl) (.nil _))) rfl ?_
    | refine Ret.sib [0, 1, 4] rfl ?_ ?_ ?_ (.cons (.same rfl rfl) (.cons (.same rfl rfl) (.cons (.arr rfl ?_) (.nil _)))) rfl
    | refine Ret.sib [0, 1, 3] rfl ?_ ?_ ?_ (.cons (.same rfl rfl) (.cons (.same rfl rfl) (.cons (.arr rfl ?_) (.nil _)))) rfl
    | refine VC.mk ?_ ?_
  all_goals try simp only [decide_eq_true_eq, decide_eq_false_iff_not, Bool.not_eq_true', Bool.not_eq_false', cond_true, cond_false, eqB_true, eqB_false] at *
  all_goals try simp only [in64, idxAdd_zero_left, Int.toNat_natCast, fillTo_length, Int.ofNat_lt, Int.ofNat_le, Int.natCast_inj] at *
  all_goals try have hi : isFl l u t fl = true := by (first | assumption | (simp_all; done))
  all_goals try
    have hs := isFl_spec hi
    have ha := aug_spec (fl := fl) hs.1 hs.2.1 hs.2.2.2.1 hs.2.2.2.2.1 hs.2.2.2.2.2.1
    have hlr := goodPipes_len hs.1
  all_goals first
    | omega
    | exact hl
    | exact hf
    | exact hs.1
    | exact hs.2.1
    | exact hs.2.2.1
    | exact hs.2.2.2.1
    | exact hs.2.2.2.2.1
    | exact hs.2.2.2.2.2.1
    | (rw [aoL, if_pos hi]; done)
    | (rw [aoN, if_pos hi]; done)
    | (rw [aoB, hi, Bool.true_and]; done)
    | (rw [aoL, if_pos hi, augO_eq (by assumption)]; done)
    | (rw [aoL, if_pos hi, augO_eq (by assumption), augF_len]; done)
    | (rw [aoL, if_pos hi, augO_nil hs.1 hs.2.1 hs.2.2.2.1 hs.2.2.2.2.1 hs.2.2.2.2.2.1 (by assumption)]; done)
    | (rw [aoL, if_pos hi, augO_nil hs.1 hs.2.1 hs.2.2.2.1 hs.2.2.2.2.1 hs.2.2.2.2.2.1 (by assumption)]; rfl)
    | (rw [aoN, if_pos hi]; omega)
    | (rw [aoB, hi, Bool.true_and]; first | exact (decide_eq_true (by omega)).symm | exact (decide_eq_false (by omega)).symm | exact decide_eq_true (by omega) | exact decide_eq_false (by omega))
    | (have hn : isFl l u t fl = false := by (first | assumption | (simp_all; done) | (cases hq : isFl l u t fl <;> simp_all [isFl]; done))
       first
       | (rw [aoL, if_neg (by rw [hn]; simp)]; done)
       | (rw [aoL, if_neg (by rw [hn]; simp)]; rfl)
       | (rw [aoN, if_neg (by rw [hn]; simp)]; done)
       | (rw [aoB, hn]; rfl)
       | (rw [aoB, hn]; done))

theorem l8Max_call (l : List S3) (u t : Int) (hg : goodPipes l = true) (hu : 0 ≤ u ∧ u ≤ 7) (htt : 0 ≤ t ∧ t ≤ 7) (hut : u ≠ t) : ACall Try.prog 56 [.slice ⟨0, 0, 0, 3, 0⟩ l.length, .int .i64 u, .int .i64 t] [.arr true .s3 l] (Is (.slice ⟨1, 0, 0, 1, 0⟩ (grM l u t).length) [.arr true .s3 l, .arr false .int (grM l u t)]) := by
  refine ACall.walk T Try.func56 Try.ntmps56 Try.results56 rfl rfl rfl (Is.nv _ _) ?_
  repeat' (conv => whnf); first
    | refine AWP.seq ?_
    | refine AWP.reg T rfl ?_
    | refine AWP.drw T none rfl rfl rfl ?_
    | refine AWP.dep T none rfl rfl rfl rfl ?_
    | refine AWP.block ?_
    | refine AWP.condT rfl ?_
    | refine AWP.condF rfl ?_
    | refine AWP.cond rfl (fun hb => ?_) (fun hb => ?_)
    | refine AWP.ret ?_
    | refine AWP.exit ?_
    | refine AWP.skip ?_
    | refine GuardB.t ?_
    | refine GuardB.f ?_
    | refine GuardB.mk (fun hb => ?_) (fun hb => ?_)
    | refine NilQ.mk (fun hb => ?_) ?_
    | refine VC.mk Nat.zero_lt_one ?_
    | refine VC.mk rfl ?_
    | refine AWP.while (ι := Nat) (fun k => St.of [(0, .slice ⟨0, 0, 0, 3, 0⟩ l.length), (1, .int .i64 u), (2, .int .i64 t), (7, .slice ⟨1, 0, 0, 1, 0⟩ (grN l u t k).length)] [.arr true .s3 l, .arr false .int (grN l u t k)]) (fun k => ∀ j, j < k → augM l (grN l u t j) u t ≠ 0) (fun k => 2001 - k) 0 ?_
        (Weak.of [0, 2] (.cons rfl rfl (.cons rfl rfl (.cons rfl rfl (.s rfl ?_ rfl .nil)))) (.cons (.same rfl rfl) (.cons (.arr rfl ?_) (.nil _))) rfl) (fun k hk => ?_)
    | refine ACall.useIs [0, 1] (l8Augment_call _ _ _ _ ?_ ?_ ?_ ?_ ?_ ?_) rfl (.cons (.same rfl rfl) (.cons (.ro rfl rfl) (.nil _))) rfl ?_
    | refine roundEnd (k + 1) ?_ ?_ (Weak.of [0, 2] (.cons rfl rfl (.cons rfl rfl (.cons rfl rfl (.s rfl ?_ rfl .nil)))) (.cons (.same rfl rfl) (.cons (.arr rfl ?_) (.nil _))) rfl)
    | refine Ret.s [0, 1] rfl ?_ (.cons (.same rfl rfl) (.cons (.arr rfl ?_) (.nil _))) rfl
    | refine VC.mk ?_ ?_
  all_goals try simp only [decide_eq_true_eq, decide_eq_false_iff_not, Bool.not_eq_true', Bool.not_eq_false', cond_true, cond_false, eqB_true, eqB_false] at *
  all_goals try simp only [in64, idxAdd_zero_left, Int.toNat_natCast, fillTo_length, Int.ofNat_lt, Int.ofNat_le, Int.natCast_inj] at *
  all_goals try have hlr := goodPipes_len hg
  all_goals try
    have hgs := gr_spec hg hu hut k
    have hgl := grN_len l u t k
    have hb := gr_bound hg hu hut k hk
    have ha := aug_spec hg hu hut hgl hgs.1
  all_goals first
    | omega
    | exact hg
    | exact hu
    | exact htt
    | exact hut
    | exact hgl
    | exact hgs.1
    | exact grN_zero l u t
    | (rw [grN_zero]; done)
    | (rw [grN_zero]; simp; done)
    | (intro j hj; omega)
    | exact ⟨by omega, by omega⟩
    | (intro j hj
       rcases Nat.lt_or_ge j k with h | h
       · exact hk j h
       · obtain rfl : j = k := by omega
         omega)
    | (rw [grN_succ, augO_eq (by omega)]; done)
    | (rw [grN_succ]; done)
    | (rw [grN_succ, augF_len]; done)
    | (rw [gr_end hg hu hut hk (by omega)]; done)
    | (rw [ha.2.2.2.2.2 (by omega), gr_end hg hu hut hk (by omega)]; done)
    | (rw [← gr_end hg hu hut hk (by omega)]; done)
    | (rw [← gr_end hg hu hut hk (by omega)]; omega)

theorem greatest_call (l : List S3) (u t : Int) (hg : goodPipes l = true) (hu : 0 ≤ u ∧ u ≤ 7) (htt : 0 ≤ t ∧ t ≤ 7) (hut : u ≠ t) : ACall Try.prog 57 [.slice ⟨0, 0, 0, 3, 0⟩ l.length, .int .i64 u, .int .i64 t] [.arr true .s3 l] (Is (.slice ⟨1, 0, 0, 1, 0⟩ (grM l u t).length) [.arr true .s3 l, .arr false .int (grM l u t)]) := by
  refine ACall.walk T Try.func57 Try.ntmps57 Try.results57 rfl rfl rfl (Is.nv _ _) ?_
  repeat' (conv => whnf); first
    | refine AWP.seq ?_
    | refine AWP.reg T rfl ?_
    | refine AWP.drw T none rfl rfl rfl ?_
    | refine AWP.dep T none rfl rfl rfl rfl ?_
    | refine AWP.block ?_
    | refine AWP.condT rfl ?_
    | refine AWP.condF rfl ?_
    | refine AWP.cond rfl (fun hb => ?_) (fun hb => ?_)
    | refine AWP.ret ?_
    | refine AWP.exit ?_
    | refine AWP.skip ?_
    | refine GuardB.t ?_
    | refine GuardB.f ?_
    | refine GuardB.mk (fun hb => ?_) (fun hb => ?_)
    | refine NilQ.mk (fun hb => ?_) ?_
    | refine VC.mk Nat.zero_lt_one ?_
    | refine VC.mk rfl ?_
    | refine AWP.while (ι := Nat) (fun k => St.of [(0, .slice ⟨0, 0, 0, 3, 0⟩ l.length), (1, .int .i64 u), (2, .int .i64 t), (7, .slice ⟨1, 0, 0, 1, 0⟩ (grN l u t k).length)] [.arr true .s3 l, .arr false .int (grN l u t k)]) (fun k => ∀ j, j < k → augM l (grN l u t j) u t ≠ 0) (fun k => 2001 - k) 0 ?_
        (Weak.of [0, 2] (.cons rfl rfl (.cons rfl rfl (.cons rfl rfl (.s rfl ?_ rfl .nil)))) (.cons (.same rfl rfl) (.cons (.arr rfl ?_) (.nil _))) rfl) (fun k hk => ?_)
    | refine ACall.useIs [0, 1] (augment_call _ _ _ _ ?_ ?_ ?_ ?_ ?_ ?_) rfl (.cons (.same rfl rfl) (.cons (.same rfl rfl) (.nil _))) rfl ?_
    | refine roundEnd (k + 1) ?_ ?_ (Weak.of [0, 1] (.cons rfl rfl (.cons rfl rfl (.cons rfl rfl (.s rfl ?_ rfl .nil)))) (.cons (.same rfl rfl) (.cons (.arr rfl ?_) (.nil _))) rfl)
    | refine Ret.s [0, 1] rfl ?_ (.cons (.same rfl rfl) (.cons (.arr rfl ?_) (.nil _))) rfl
    | refine VC.mk ?_ ?_
  all_goals try simp only [decide_eq_true_eq, decide_eq_false_iff_not, Bool.not_eq_true', Bool.not_eq_false', cond_true, cond_false, eqB_true, eqB_false] at *
  all_goals try simp only [in64, idxAdd_zero_left, Int.toNat_natCast, fillTo_length, Int.ofNat_lt, Int.ofNat_le, Int.natCast_inj] at *
  all_goals try have hlr := goodPipes_len hg
  all_goals try
    have hgs := gr_spec hg hu hut k
    have hgl := grN_len l u t k
    have hb := gr_bound hg hu hut k hk
    have ha := aug_spec hg hu hut hgl hgs.1
  all_goals first
    | omega
    | exact hg
    | exact hu
    | exact htt
    | exact hut
    | exact hgl
    | exact hgs.1
    | exact grN_zero l u t
    | (rw [grN_zero]; done)
    | (rw [grN_zero]; simp; done)
    | (intro j hj; omega)
    | exact ⟨by omega, by omega⟩
    | (intro j hj
       rcases Nat.lt_or_ge j k with h | h
       · exact hk j h
       · obtain rfl : j = k := by omega
         omega)
    | (rw [grN_succ, augO_eq (by omega)]; done)
    | (rw [grN_succ]; done)
    | (rw [grN_succ, augF_len]; done)
    | (rw [gr_end hg hu hut hk (by omega)]; done)
    | (rw [ha.2.2.2.2.2 (by omega), gr_end hg hu hut hk (by omega)]; done)
    | (rw [← gr_end hg hu hut hk (by omega)]; done)
    | (rw [← gr_end hg hu hut hk (by omega)]; omega)

theorem specMaxFlow_call (l : List S3) (u t : Int) (hl : l.length ≤ 1048576) : ACall Try.prog 25 [.slice ⟨0, 0, 0, 3, 0⟩ l.length, .int .i64 u, .int .i64 t] [.arr true .s3 l] (Is (.tuple [.slice ⟨1, 0, 0, 1, 0⟩ (mfL l u t).length, .int .i64 (mfN l u t), .bool (askB l u t)]) [.arr true .s3 l, .arr false .int (mfL l u t)]) := by
  refine ACall.walk T Try.func25 Try.ntmps25 Try.results25 rfl rfl rfl (Is.nv _ _) ?_
  repeat' (conv => whnf); first
    | refine AWP.seq ?_
    | refine AWP.reg T rfl ?_
    | refine AWP.drw T none rfl rfl rfl ?_
    | refine AWP.dep T none rfl rfl rfl rfl ?_
    | refine AWP.block ?_
    | refine AWP.condT rfl ?_
    | refine AWP.condF rfl ?_
    | refine AWP.cond rfl (fun hb => ?_) (fun hb => ?_)
    | refine AWP.ret ?_
    | refine AWP.exit ?_
    | refine AWP.skip ?_
    | refine GuardB.t ?_
    | refine GuardB.f ?_
    | refine GuardB.mk (fun hb => ?_) (fun hb => ?_)
    | refine NilQ.mk (fun hb => ?_) ?_
    | refine VC.mk Nat.zero_lt_one ?_
    | refine VC.mk rfl ?_
    | refine ACall.useIs [0] (l8Ask_call _ _ _ ?_) rfl (.cons (.same rfl rfl) (.nil _)) rfl ?_
    | refine ACall.useIs [0] (l8Max_call _ _ _ ?_ ?_ ?_ ?_) rfl (.cons (.same rfl rfl) (.nil _)) rfl ?_
    | refine ACall.useIs [0, 2] (l8Out_call _ _ _ ?_ ?_ ?_) rfl (.cons (.same rfl rfl) (.cons (.ro rfl rfl) (.nil _))) rfl ?_
    | refine Ret.sib [0, 2] rfl ?_ ?_ ?_ (.cons (.same rfl rfl) (.cons (.arr rfl ?_) (.nil _))) rfl
    | refine VC.mk ?_ ?_
  all_goals try simp only [decide_eq_true_eq, decide_eq_false_iff_not, Bool.not_eq_true', Bool.not_eq_false', cond_true, cond_false, eqB_true, eqB_false] at *
  all_goals try simp only [in64, idxAdd_zero_left, Int.toNat_natCast, fillTo_length, Int.ofNat_lt, Int.ofNat_le, Int.natCast_inj] at *
  all_goals try have hi : askB l u t = true := by (first | assumption | (simp_all [askB]; done))
  all_goals try
    have hs := askB_spec hi
    have hgs := gr_spec hs.1 hs.2.1 hs.2.2.2 2001
    have hlr := goodPipes_len hs.1
  all_goals first
    | omega
    | exact hl
    | exact hs.1
    | exact hs.2.1
    | exact hs.2.2.1
    | exact hs.2.2.2
    | exact grM_len l u t
    | (rw [grM]; exact hgs.1)
    | (rw [mfL, if_pos hi]; done)
    | (rw [mfN, if_pos hi]; done)
    | (rw [hi]; done)
    | (have hn : askB l u t = false := by (first | assumption | (simp_all [askB]; done))
       first
       | (rw [mfL, if_neg (by rw [hn]; simp)]; done)
       | (rw [mfL, if_neg (by rw [hn]; simp)]; rfl)
       | (rw [mfN, if_neg (by rw [hn]; simp)]; done)
       | (rw [hn]; done))

theorem implMaxFlow_call (l : List S3) (u t : Int) (hl : l.length ≤ 1048576) : ACall Try.prog 26 [.slice ⟨0, 0, 0, 3, 0⟩ l.length, .int .i64 u, .int .i64 t] [.arr true .s3 l] (Is (.tuple [.slice ⟨1, 0, 0, 1, 0⟩ (mfL l u t).length, .int .i64 (mfN l u t), .bool (askB l u t)]) [.arr true .s3 l, .arr false .int (mfL l u t)]) := by
  refine ACall.walk T Try.func26 Try.ntmps26 Try.results26 rfl rfl rfl (Is.nv _ _) ?_
  repeat' (conv => whnf); first
    | refine AWP.seq ?_
    | refine AWP.reg T rfl ?_
    | refine AWP.drw T none rfl rfl rfl ?_
    | refine AWP.dep T none rfl rfl rfl rfl ?_
    | refine AWP.block ?_
    | refine AWP.condT rfl ?_
    | refine AWP.condF rfl ?_
    | refine AWP.cond rfl (fun hb => ?_) (fun hb => ?_)
    | refine AWP.ret ?_
    | refine AWP.exit ?_
    | refine AWP.skip ?_
    | refine GuardB.t ?_
    | refine GuardB.f ?_
    | refine GuardB.mk (fun hb => ?_) (fun hb => ?_)
    | refine NilQ.mk (fun hb => ?_) ?_
    | refine VC.mk Nat.zero_lt_one ?_
    | refine VC.mk rfl ?_
    | refine ACall.useIs [0] (implGoodPipes_call _ ?_) rfl (.cons (.same rfl rfl) (.nil _)) rfl ?_
    | refine ACall.useIs [] (areUnlike_call _ _) rfl (.nil _) rfl ?_
    | refine ACall.useIs [0] (greatest_call _ _ _ ?_ ?_ ?_ ?_) rfl (.cons (.same rfl rfl) (.nil _)) rfl ?_
    | refine ACall.useIs [0, 2] (outOf_call _ _ _ ?_ ?_ ?_) rfl (.cons (.same rfl rfl) (.cons (.ro rfl rfl) (.nil _))) rfl ?_
    | refine Ret.sib [0, 2] rfl ?_ ?_ ?_ (.cons (.same rfl rfl) (.cons (.arr rfl ?_) (.nil _))) rfl
    | refine VC.mk ?_ ?_
  all_goals try simp only [decide_eq_true_eq, decide_eq_false_iff_not, Bool.not_eq_true', Bool.not_eq_false', cond_true, cond_false, eqB_true, eqB_false] at *
  all_goals try simp only [in64, idxAdd_zero_left, Int.toNat_natCast, fillTo_length, Int.ofNat_lt, Int.ofNat_le, Int.natCast_inj] at *
  all_goals try have hi : askB l u t = true := by (first | assumption | (simp_all [askB]; done))
  all_goals try
    have hs := askB_spec hi
    have hgs := gr_spec hs.1 hs.2.1 hs.2.2.2 2001
    have hlr := goodPipes_len hs.1
  all_goals first
    | omega
    | exact hl
    | exact hs.1
    | exact hs.2.1
    | exact hs.2.2.1
    | exact hs.2.2.2
    | exact grM_len l u t
    | (rw [grM]; exact hgs.1)
    | (rw [mfL, if_pos hi]; done)
    | (rw [mfN, if_pos hi]; done)
    | (rw [hi]; done)
    | (have hn : askB l u t = false := by (first | assumption | (simp_all [askB]; done))
       first
       | (rw [mfL, if_neg (by rw [hn]; simp)]; done)
       | (rw [mfL, if_neg (by rw [hn]; simp)]; rfl)
       | (rw [mfN, if_neg (by rw [hn]; simp)]; done)
       | (rw [hn]; done))

end YtgkpdnacfpdomaaAM
