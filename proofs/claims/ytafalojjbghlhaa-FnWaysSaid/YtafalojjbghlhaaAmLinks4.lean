/- Contracts of functions of this seat. -/
import Derived.Test.YtafalojjbghlhaaAmTabLinks
import Derived.Test.YtafalojjbghlhaaAmModels
import Derived.Test.YtafalojjbghlhaaAmLinks2
import Derived.Test.YtafalojjbghlhaaAmSortLinks
import Derived.Test.YtafalojjbghlhaaAmReachModels
set_option linter.unusedVariables false
set_option linter.unusedSimpArgs false
set_option maxRecDepth 100000
set_option maxHeartbeats 2000000
namespace YtafalojjbghlhaaAM
open Go Go.Proofs
attribute [local irreducible] foldN ins putL stR rdR rcN inR rcM stS psN rsN rbL rbOk sortI sortN

theorem l7Put_call (a : List Int) (n : Int) (ha : a.length ≤ 1048576) (hr : Rise a) : ACall Try.prog 69 [.slice ⟨0, 0, 0, 1, 0⟩ a.length, .int .i64 n] [.arr false .int a] (Is (.slice ⟨1, 0, 0, 1, 0⟩ (putL n a).length) [.dead, .arr false .int (putL n a)]) := by
  refine ACall.walk T Try.func69 Try.ntmps69 Try.results69 rfl rfl rfl (Is.nv _ _) ?_
  repeat' (conv => whnf); first
    | refine AWP.seq ?_
    | refine AWP.reg T rfl ?_
    | refine AWP.drw T none rfl rfl rfl ?_
    | refine AWP.dep T none rfl rfl rfl rfl ?_
    | refine AWP.block ?_
    | refine AWP.condT rfl ?_
    | refine AWP.condF rfl ?_
    | refine AWP.cond rfl (fun hb => ?_) (fun hb => ?_)
    | refine AWP.ret ?_
    | refine AWP.exit ?_
    | refine AWP.skip ?_
    | refine GuardB.t ?_
    | refine GuardB.f ?_
    | refine GuardB.mk (fun hb => ?_) (fun hb => ?_)
    | refine NilQ.mk (fun hb => ?_) ?_
    | refine VC.mk Nat.zero_lt_one ?_
    | refine VC.mk rfl ?_
    | refine AWP.while (ι := Nat) (fun k => St.of [(0, .slice ⟨0, 0, 0, 1, 0⟩ a.length), (1, .int .i64 n), (5, .int .i64 k)] [.arr false .int a]) (fun k => k ≤ a.length ∧ ∀ j, j < k → a.getD j 0 < n) (fun k => a.length - k) 0 ⟨Nat.zero_le _, fun j hj => by omega⟩
        (Weak.of [0] (.cons rfl rfl (.cons rfl rfl (.cons rfl rfl .nil))) (.cons (.same rfl rfl) (.nil _)) rfl) (fun k hk => ?_)
    | refine roundEnd (k + 1) ?_ ?_ (Weak.of [0] (.cons rfl rfl (.cons rfl rfl (.cons rfl rfl .nil))) (.cons (.same rfl rfl) (.nil _)) rfl)
    | refine Ret.s [0, 0] rfl ?_ (.cons (.dead _) (.cons (.arr rfl ?_) (.nil _))) rfl
    | refine Ret.s [0, 5] rfl ?_ (.cons (.dead _) (.cons (.arr rfl ?_) (.nil _))) rfl
    | refine VC.mk ?_ ?_
  all_goals try simp only [decide_eq_true_eq, decide_eq_false_iff_not, Bool.not_eq_true', Bool.not_eq_false', cond_true, cond_false, eqB_true, eqB_false] at *
  all_goals try simp only [in64, idxAdd_zero_left, Int.toNat_natCast, fillTo_length, Int.ofNat_lt, Int.ofNat_le, Int.natCast_inj] at *
  all_goals first
    | omega
    | exact ⟨by omega, by omega⟩
    | (have := hk.1; omega)
    | (have h1 := hk.1
       refine ⟨by first | omega | (simp; done), ?_, by omega⟩
       simp [sub]; omega)
    | (have h1 := hk.1
       refine ⟨by first | omega | (simp; done), ?_, by omega⟩
       simp [sub]; done)
    | (have h1 := hk.1
       refine ⟨by omega, fun j hj => ?_⟩
       rcases Nat.lt_or_ge j k with h | h
       · exact hk.2 j h
       · have e : j = k := by omega
         rw [e]; assumption)
    | (have e := put_here (n := n) (l := a) (k := k) (by omega) (by assumption)
       first
       | exact e
       | exact e.symm
       | (rw [← e]; done))
    | exact put_parts hr hk.1 hk.2 (.inl (by have := hk.1; omega))
    | exact put_parts hr hk.1 hk.2 (.inr (by omega))
    | (rw [put_parts hr hk.1 hk.2 (.inl (by have := hk.1; omega))]; simp [sub]; have := hk.1; omega)
    | (rw [put_parts hr hk.1 hk.2 (.inr (by omega))]; simp [sub]; have := hk.1; omega)

theorem implReachedBy_call (l : List S2) (u : Int) (wo : List Int) (hl : l.length ≤ 1048576) (hw : wo.length ≤ 1048576) : ACall Try.prog 31 [.slice ⟨0, 0, 0, 2, 0⟩ l.length, .int .i64 u, .slice ⟨1, 0, 0, 1, 0⟩ wo.length] [.arr true .s2 l, .arr true .int wo] (Is (.tuple [.slice ⟨2, 0, 0, 1, 0⟩ (rbL l u wo).length, .bool (rbOk l u wo)]) [.arr true .s2 l, .arr true .int wo, .arr false .int (rbL l u wo)]) := by
  refine ACall.walk T Try.func31 Try.ntmps31 Try.results31 rfl rfl rfl (Is.nv _ _) ?_
  repeat' (conv => whnf); first
    | refine AWP.seq ?_
    | refine AWP.reg T rfl ?_
    | refine AWP.drw T none rfl rfl rfl ?_
    | refine AWP.dep T none rfl rfl rfl rfl ?_
    | refine AWP.block ?_
    | refine AWP.condT rfl ?_
    | refine AWP.condF rfl ?_
    | refine AWP.cond rfl (fun hb => ?_) (fun hb => ?_)
    | refine AWP.ret ?_
    | refine AWP.exit ?_
    | refine AWP.skip ?_
    | refine GuardB.t ?_
    | refine GuardB.f ?_
    | refine GuardB.mk (fun hb => ?_) (fun hb => ?_)
    | refine NilQ.mk (fun hb => ?_) ?_
    | refine VC.mk Nat.zero_lt_one ?_
    | refine VC.mk rfl ?_
    | refine ACall.useIs [0] (implGoodLinks_call _ ?_) rfl (.cons (.same rfl rfl) (.nil _)) rfl ?_
    | refine ACall.useIs [] (isNode_call _) rfl (.nil _) rfl ?_
    | refine ACall.useIs [1] (rise_call _ _ ?_) rfl (.cons (.same rfl rfl) (.nil _)) rfl ?_
    | refine AWP.while (ι := Nat) (fun i => St.of [(0, .slice ⟨0, 0, 0, 2, 0⟩ l.length), (2, .slice ⟨1, 0, 0, 1, 0⟩ wo.length), (8, .slice ⟨2, 0, 0, 1, 0⟩ (rcN l wo u i).length), (9, .int .i64 i)] [.arr true .s2 l, .arr true .int wo, .arr false .int (rcN l wo u i)]) (fun i => i ≤ (rcN l wo u i).length) (fun i => 8 - i) 0 (Nat.zero_le _)
        (Weak.of [0, 1, 3] (.cons rfl rfl (.cons rfl rfl (.s rfl ?_ rfl (.cons rfl rfl .nil)))) (.cons (.same rfl rfl) (.cons (.same rfl rfl) (.cons (.arr rfl ?_) (.nil _)))) rfl) (fun i hi => ?_)
    | refine AWP.while (ι := Nat) (fun k => St.of [(0, .slice ⟨0, 0, 0, 2, 0⟩ l.length), (2, .slice ⟨1, 0, 0, 1, 0⟩ wo.length), (8, .slice ⟨2, 0, 0, 1, 0⟩ (inR l wo u i k).length), (9, .int .i64 i), (35, .slice ⟨0, 0, 0, 2, 0⟩ l.length), (36, .int .i64 l.length), (37, .int .i64 k)] [.arr true .s2 l, .arr true .int wo, .arr false .int (inR l wo u i k)]) (fun k => k ≤ l.length) (fun k => l.length - k) 0 (Nat.zero_le _)
        (Weak.of [0, 1, 2] (.cons rfl rfl (.cons rfl rfl (.s rfl ?_ rfl (.cons rfl rfl (.cons rfl rfl (.cons rfl rfl (.cons rfl rfl .nil))))))) (.cons (.same rfl rfl) (.cons (.same rfl rfl) (.cons (.arr rfl ?_) (.nil _)))) rfl) (fun k hk => ?_)
    | refine AWP.drw T (some [2, 3]) rfl rfl rfl ?_
    | refine ACall.useIs [1] (slicesContains_call _ _ ?_) rfl (.cons (.same rfl rfl) (.nil _)) rfl ?_
    | refine ACall.useIs [2] (slicesContains_call _ _ ?_) rfl (.cons (.ro rfl rfl) (.nil _)) rfl ?_
    | refine roundEnd (k + 1) ?_ ?_ (Weak.of [0, 1, 5] (.cons rfl rfl (.cons rfl rfl (.s rfl ?_ rfl (.cons rfl rfl (.cons rfl rfl (.cons rfl rfl (.cons rfl rfl .nil))))))) (.cons (.same rfl rfl) (.cons (.same rfl rfl) (.cons (.arr rfl ?_) (.nil _)))) rfl)
    | refine roundEnd (k + 1) ?_ ?_ (Weak.of [0, 1, 2] (.cons rfl rfl (.cons rfl rfl (.s rfl ?_ rfl (.cons rfl rfl (.cons rfl rfl (.cons rfl rfl (.cons rfl rfl .nil))))))) (.cons (.same rfl rfl) (.cons (.same rfl rfl) (.cons (.arr rfl ?_) (.nil _)))) rfl)
    | refine roundEnd (i + 1) ?_ ?_ (Weak.of [0, 1, 2] (.cons rfl rfl (.cons rfl rfl (.s rfl ?_ rfl (.cons rfl rfl .nil)))) (.cons (.same rfl rfl) (.cons (.same rfl rfl) (.cons (.arr rfl ?_) (.nil _)))) rfl)
    | refine ACall.useIs [2] (sort_call _ _ ?_ ?_) rfl (.cons (.same rfl rfl) (.nil _)) rfl ?_
    | refine Ret.sb [0, 1, 2] rfl ?_ ?_ (.cons (.same rfl rfl) (.cons (.same rfl rfl) (.cons (.arr rfl ?_) (.nil _)))) rfl
    | refine Ret.sb [0, 1, 3] rfl ?_ ?_ (.cons (.same rfl rfl) (.cons (.same rfl rfl) (.cons (.arr rfl ?_) (.nil _)))) rfl
    | refine VC.mk ?_ ?_
  all_goals try simp only [decide_eq_true_eq, decide_eq_false_iff_not, Bool.not_eq_true', Bool.not_eq_false', cond_true, cond_false, eqB_true, eqB_false] at *
  all_goals try simp only [in64, idxAdd_zero_left, Int.toNat_natCast, fillTo_length, Int.ofNat_lt, Int.ofNat_le, Int.natCast_inj] at *
  all_goals try have hok : rbOk l u wo = true := by (simp only [rbOk]; simp_all; done)
  all_goals try
    have hok2 : (goodLinks l = true ∧ btw 0 7 u = true) ∧ someB wo l.length = true := by (simp only [rbOk, Bool.and_eq_true] at hok; exact hok)
    have hg := hok2.1.1
    have hu := btw_iff.1 hok2.1.2
    have hlr := goodLinks_len hg
  all_goals try
    have hR := RcInv.outer (wo := wo) hg hu i
    have hR8 := hR.len
  all_goals try
    have hi2 : i < (rcN l wo u i).length := by omega
    have hI := inR_inv (wo := wo) hg hu hi2 hk
    have hI8 := hI.1.len
    obtain ⟨hI1, hI2, hI3⟩ := hI
  all_goals try
    have hk2 : k < l.length := by omega
    have gp := links_at hg hk2
  all_goals first
    | omega
    | exact hl
    | exact hw
    | rfl
    | exact ⟨rfl, rfl, trivial⟩
    | exact ⟨rfl, trivial⟩
    | exact ⟨by omega, by omega⟩
    | exact ⟨by simp, by omega, by omega⟩
    | exact rcN_zero
    | exact rcN_zero.symm
    | (rw [rcN_zero]; rfl)
    | exact inR_zero i
    | exact (inR_zero i).symm
    | (rw [inR_zero]; done)
    | (have e : inR l wo u i (k + 1) = inR l wo u i k ++ [(l.getD k ⟨0, 0⟩).b] := by
         rw [inR_succ, ← hI3, stR, if_pos ⟨by assumption, by simp_all, by assumption⟩]
       first
       | (rw [e, sub_snoc rfl]; done)
       | (rw [e]; simp; done))
    | (have e : inR l wo u i (k + 1) = inR l wo u i k := by
         rw [inR_succ, ← hI3, stR, if_neg (by simp_all)]
       rw [e])
    | (have e : k = l.length := by omega
       subst e
       have e2 := inR_all (wo := wo) hi2
       first
       | (rw [e2]; done)
       | (rw [← e2]; omega))
    | (have e := rc_end (l := l) (wo := wo) (u := u) (i := i) (by omega) (by omega)
       first
       | (rw [rbL, if_pos hok, rcM, ← e]; done)
       | (rw [rbL, if_pos hok, rcM, ← e, sortI_len]; done))
    | (rw [rbL, if_pos hok]; done)
    | (rw [hok]; done)
    | (have hn : rbOk l u wo = false := by (first | (simp only [rbOk]; simp_all; done))
       first
       | (rw [rbL, if_neg (by rw [hn]; simp)]; done)
       | (rw [rbL, if_neg (by rw [hn]; simp)]; rfl)
       | (rw [hn]; done))

theorem specReachedBy_call (l : List S2) (u : Int) (wo : List Int) (hl : l.length ≤ 1048576) (hw : wo.length ≤ 1048576) : ACall Try.prog 30 [.slice ⟨0, 0, 0, 2, 0⟩ l.length, .int .i64 u, .slice ⟨1, 0, 0, 1, 0⟩ wo.length] [.arr true .s2 l, .arr true .int wo] (Is (.tuple [.slice ⟨2, 0, 0, 1, 0⟩ (rbL l u wo).length, .bool (rbOk l u wo)]) [.arr true .s2 l, .arr true .int wo, .arr false .int (rbL l u wo)]) := by
  refine ACall.walk T Try.func30 Try.ntmps30 Try.results30 rfl rfl rfl (Is.nv _ _) ?_
  repeat' (conv => whnf); first
    | refine AWP.seq ?_
    | refine AWP.reg T rfl ?_
    | refine AWP.drw T none rfl rfl rfl ?_
    | refine AWP.dep T none rfl rfl rfl rfl ?_
    | refine AWP.block ?_
    | refine AWP.condT rfl ?_
    | refine AWP.condF rfl ?_
    | refine AWP.cond rfl (fun hb => ?_) (fun hb => ?_)
    | refine AWP.ret ?_
    | refine AWP.exit ?_
    | refine AWP.skip ?_
    | refine GuardB.t ?_
    | refine GuardB.f ?_
    | refine GuardB.mk (fun hb => ?_) (fun hb => ?_)
    | refine NilQ.mk (fun hb => ?_) ?_
    | refine VC.mk Nat.zero_lt_one ?_
    | refine VC.mk rfl ?_
    | refine ACall.useIs [0] (specGoodLinks_call _ ?_) rfl (.cons (.same rfl rfl) (.nil _)) rfl ?_
    | refine ACall.useIs [] (l6Node_call _) rfl (.nil _) rfl ?_
    | refine ACall.useIs [1] (l1Some_call _ _ ?_) rfl (.cons (.same rfl rfl) (.nil _)) rfl ?_
    | refine AWP.while (ι := Nat) (fun k => St.of [(0, .slice ⟨0, 0, 0, 2, 0⟩ l.length), (2, .slice ⟨1, 0, 0, 1, 0⟩ wo.length), (8, .slice ⟨2, 0, 0, 1, 0⟩ (psN l wo (rsN l wo u i) k).length), (9, .int .i64 (rsN l wo u i).length), (31, .slice ⟨0, 0, 0, 2, 0⟩ l.length), (32, .int .i64 l.length), (33, .int .i64 k)] [.arr true .s2 l, .arr true .int wo, .arr false .int (psN l wo (rsN l wo u i) k)]) (fun k => k ≤ l.length) (fun k => l.length - k) 0 (Nat.zero_le _)
        (Weak.of [0, 1, 2] (.cons rfl rfl (.cons rfl rfl (.s rfl ?_ rfl (.cons rfl rfl (.cons rfl rfl (.cons rfl rfl (.cons rfl rfl .nil))))))) (.cons (.same rfl rfl) (.cons (.same rfl rfl) (.cons (.arr rfl ?_) (.nil _)))) rfl) (fun k hk => ?_)
    | refine AWP.while (ι := Nat) (fun i => St.of [(0, .slice ⟨0, 0, 0, 2, 0⟩ l.length), (2, .slice ⟨1, 0, 0, 1, 0⟩ wo.length), (8, .slice ⟨2, 0, 0, 1, 0⟩ (rsN l wo u i).length)] [.arr true .s2 l, .arr true .int wo, .arr false .int (rsN l wo u i)]) (fun i => ∀ j, j < i → (psN l wo (rsN l wo u j) l.length).length ≠ (rsN l wo u j).length) (fun i => 8 - i) 0 ?_
        (Weak.of [0, 1, 3] (.cons rfl rfl (.cons rfl rfl (.s rfl ?_ rfl .nil))) (.cons (.same rfl rfl) (.cons (.same rfl rfl) (.cons (.arr rfl ?_) (.nil _)))) rfl) (fun i hi => ?_)
    | refine ACall.useIs [1] (l1Has_call _ _ ?_) rfl (.cons (.same rfl rfl) (.nil _)) rfl ?_
    | refine ACall.useIs [2] (l1Has_call _ _ ?_) rfl (.cons (.ro rfl rfl) (.nil _)) rfl ?_
    | refine ACall.useIs [2] (l7Put_call _ _ ?_ ?_) rfl (.cons (.same rfl rfl) (.nil _)) rfl ?_
    | refine roundEnd (k + 1) ?_ ?_ (Weak.of [0, 1, 4] (.cons rfl rfl (.cons rfl rfl (.s rfl ?_ rfl (.cons rfl rfl (.cons rfl rfl (.cons rfl rfl (.cons rfl rfl .nil))))))) (.cons (.same rfl rfl) (.cons (.same rfl rfl) (.cons (.arr rfl ?_) (.nil _)))) rfl)
    | refine roundEnd (k + 1) ?_ ?_ (Weak.of [0, 1, 2] (.cons rfl rfl (.cons rfl rfl (.s rfl ?_ rfl (.cons rfl rfl (.cons rfl rfl (.cons rfl rfl (.cons rfl rfl .nil))))))) (.cons (.same rfl rfl) (.cons (.same rfl rfl) (.cons (.arr rfl ?_) (.nil _)))) rfl)
    | refine roundEnd (i + 1) ?_ ?_ (Weak.of [0, 1, 2] (.cons rfl rfl (.cons rfl rfl (.s rfl ?_ rfl .nil))) (.cons (.same rfl rfl) (.cons (.same rfl rfl) (.cons (.arr rfl ?_) (.nil _)))) rfl)
    | refine Ret.sb [0, 1, 2] rfl ?_ ?_ (.cons (.same rfl rfl) (.cons (.same rfl rfl) (.cons (.arr rfl ?_) (.nil _)))) rfl
    | refine Ret.sb [0, 1, 3] rfl ?_ ?_ (.cons (.same rfl rfl) (.cons (.same rfl rfl) (.cons (.arr rfl ?_) (.nil _)))) rfl
    | refine VC.mk ?_ ?_
  all_goals try simp only [decide_eq_true_eq, decide_eq_false_iff_not, Bool.not_eq_true', Bool.not_eq_false', cond_true, cond_false, eqB_true, eqB_false] at *
  all_goals try simp only [in64, idxAdd_zero_left, Int.toNat_natCast, fillTo_length, Int.ofNat_lt, Int.ofNat_le, Int.natCast_inj] at *
  all_goals try have hok : rbOk l u wo = true := by (simp only [rbOk]; simp_all; done)
  all_goals try
    have hok2 : (goodLinks l = true ∧ btw 0 7 u = true) ∧ someB wo l.length = true := by (simp only [rbOk, Bool.and_eq_true] at hok; exact hok)
    have hg := hok2.1.1
    have hu := btw_iff.1 hok2.1.2
    have hlr := goodLinks_len hg
  all_goals try
    have hR := RsInv.round (wo := wo) hg hu i
    have hR8 := hR.len
    have hb := rs_bound (wo := wo) hg hu hi
  all_goals try
    have hI := hR.pass hg k (by omega)
    have hI8 := hI.len
    have hrise := hI.rise
  all_goals first
    | omega
    | exact hl
    | exact hw
    | rfl
    | exact hrise
    | (intro j hj; omega)
    | exact rsN_zero
    | exact rsN_zero.symm
    | (rw [rsN_zero]; rfl)
    | exact psN_zero _
    | exact (psN_zero _).symm
    | (rw [psN_zero]; done)
    | (rw [psN_succ, if_pos ⟨by simp_all, by assumption⟩]; done)
    | (rw [psN_succ, if_neg (by simp_all)]; done)
    | (have e : k = l.length := by omega
       subst e
       first
       | (rw [rsN_succ]; done)
       | (have e2 := rs_eq (wo := wo) hg hu (i := i) (by assumption)
          rw [rbL, if_pos hok, e2])
       | (have e2 := rs_eq (wo := wo) hg hu (i := i) (by omega)
          rw [rbL, if_pos hok, e2])
       | (intro j hj
          rcases Nat.lt_or_ge j i with h | h
          · exact hi j h
          · have ej : j = i := by omega
            subst ej
            first | assumption | omega))
    | (rw [rbL, if_pos hok]; done)
    | (rw [hok]; done)
    | (have hn : rbOk l u wo = false := by (first | (simp only [rbOk]; simp_all; done))
       first
       | (rw [rbL, if_neg (by rw [hn]; simp)]; done)
       | (rw [rbL, if_neg (by rw [hn]; simp)]; rfl)
       | (rw [hn]; done))

theorem lawReachedBy_call (l : List S2) (u : Int) (wo : List Int) (hl : l.length ≤ 9223372036854775807) (hs : wo.length ≤ 9223372036854775807) : ACall Try.prog 7 [.slice ⟨0, 0, 0, 2, 0⟩ l.length, .int .i64 u, .slice ⟨1, 0, 0, 1, 0⟩ wo.length] [.arr true .s2 l, .arr true .int wo] (Is (.bool true) [.arr true .s2 l, .arr true .int wo]) := by
  refine ACall.walk T Try.func7 Try.ntmps7 Try.results7 rfl rfl rfl (Is.nv _ _) ?_
  repeat' (conv => whnf); first
    | refine AWP.seq ?_
    | refine AWP.reg T rfl ?_
    | refine AWP.drw T none rfl rfl rfl ?_
    | refine AWP.dep T none rfl rfl rfl rfl ?_
    | refine AWP.block ?_
    | refine AWP.condT rfl ?_
    | refine AWP.condF rfl ?_
    | refine AWP.cond rfl (fun hb => ?_) (fun hb => ?_)
    | refine AWP.ret ?_
    | refine AWP.exit ?_
    | refine AWP.skip ?_
    | refine GuardB.t ?_
    | refine GuardB.f ?_
    | refine GuardB.mk (fun hb => ?_) (fun hb => ?_)
    | refine NilQ.mk (fun hb => ?_) ?_
    | refine VC.mk Nat.zero_lt_one ?_
    | refine VC.mk rfl ?_
    | refine ACall.useIs [0] (szLinkS_call _ _ ?_ ?_) rfl (.cons (.same rfl rfl) (.nil _)) rfl ?_
    | refine ACall.useIs [0] (toLinkS_call _ ?_) rfl (.cons (.same rfl rfl) (.nil _)) rfl ?_
    | refine ACall.useIs [1] (toIntS_call _ ?_) rfl (.cons (.same rfl rfl) (.nil _)) rfl ?_
    | refine ACall.useIs [2, 3] (specReachedBy_call _ _ _ ?_ ?_) rfl (.cons (.ro rfl rfl) (.cons (.ro rfl rfl) (.nil _))) rfl ?_
    | refine ACall.useIs [5, 6] (implReachedBy_call _ _ _ ?_ ?_) rfl (.cons (.ro rfl rfl) (.cons (.ro rfl rfl) (.nil _))) rfl ?_
    | refine ACall.useIs [10, 11] (implReachedBy_call _ _ _ ?_ ?_) rfl (.cons (.ro rfl rfl) (.cons (.ro rfl rfl) (.nil _))) rfl ?_
    | refine ACall.useIs [7, 4] (eqIntS_call _ _ ?_) rfl (.cons (.ro rfl rfl) (.cons (.ro rfl rfl) (.nil _))) rfl ?_
    | refine ACall.useIs [5, 8] (eqLinkS_call _ _ ?_) rfl (.cons (.ro rfl rfl) (.cons (.ro rfl rfl) (.nil _))) rfl ?_
    | refine ACall.useIs [6, 9] (eqIntS_call _ _ ?_) rfl (.cons (.ro rfl rfl) (.cons (.ro rfl rfl) (.nil _))) rfl ?_
    | refine ACall.useIs [12, 4] (eqIntS_call _ _ ?_) rfl (.cons (.ro rfl rfl) (.cons (.ro rfl rfl) (.nil _))) rfl ?_
    | refine ACall.useIs [5] (markLinkS_call _ _ ?_ ?_) rfl (.cons (.same rfl rfl) (.nil _)) rfl ?_
    | refine ACall.useIs [6] (markIntS_call _ _ ?_ ?_) rfl (.cons (.same rfl rfl) (.nil _)) rfl ?_
    | refine ACall.useIs [7] (markIntS_call _ _ ?_ ?_) rfl (.cons (.same rfl rfl) (.nil _)) rfl ?_
    | refine ACall.useIs [7] (heldIntS_call _ _ ?_ ?_) rfl (.cons (.ro rfl rfl) (.nil _)) rfl ?_
    | refine Ret.bool [0, 1] ?_ (.cons (.same rfl rfl) (.cons (.same rfl rfl) (.nil _))) rfl
    | refine VC.mk ?_ ?_
  all_goals try simp only [decide_eq_true_eq, decide_eq_false_iff_not, Bool.not_eq_true', Bool.not_eq_false', cond_true, cond_false, eqB_true, eqB_false] at *
  all_goals try simp only [in64, idxAdd_zero_left, Int.toNat_natCast, fillTo_length, Int.ofNat_lt, Int.ofNat_le, Int.natCast_inj] at *
  all_goals try simp only [marksI_length, marks2_length] at *
  all_goals try have hfact := rbL_le l u wo
  all_goals first
    | rfl
    | omega
    | exact leftOf_ok (by assumption) (by omega)
    | (have := leftOf_ok (by assumption) (by omega : (1048576 : Int) ≤ 1048576); omega)
    | (simp_all [eqB]; done)
    | (simp_all [eqB]; omega)

end YtafalojjbghlhaaAM
