/- Contracts of functions of this seat. -/
import Derived.Test.YtafalojjbghlhaaAmTabLinks
import Derived.Test.YtafalojjbghlhaaAmModels
import Derived.Test.YtafalojjbghlhaaAmLinks10
set_option linter.unusedVariables false
set_option linter.unusedSimpArgs false
set_option maxRecDepth 100000
set_option maxHeartbeats 4000000
namespace YtafalojjbghlhaaAM
open Go Go.Proofs
attribute [local irreducible] NextOk PickOk OneOk AmongOk foldN sortI sortN goodLinks linkAsk waL waV fcL rbL rbOk rcM apartB fewB isWay wayOk hasB someB numN

theorem isWay_ok {l : List S2} {f t : Int} {w : List Int} (h : isWay l f t w = true) : wayOk l f t w = true := by unfold isWay at h; simp only [Bool.and_eq_true] at h; exact h.1.1
theorem implIsT_call (l : List S2) (f t : Int) (w : List Int) (h : isWay l f t w = true) (hl : l.length ≤ 1048576) (hw : w.length ≤ 1048576) : ACall Try.prog 18 [.slice ⟨0, 0, 0, 2, 0⟩ l.length, .int .i64 f, .int .i64 t, .slice ⟨1, 0, 0, 1, 0⟩ w.length] [.arr true .s2 l, .arr true .int w] (Is (.tuple [.bool true, .bool true]) [.arr true .s2 l, .arr true .int w]) := by
  have h2 := isWay_ok h
  have h0 := implIsWay_call l f t w hl hw
  rw [h, h2] at h0
  exact h0

theorem implIsF_call (l : List S2) (f t : Int) (w : List Int) (h : isWay l f t w = false) (hl : l.length ≤ 1048576) (hw : w.length ≤ 1048576) : ACall Try.prog 18 [.slice ⟨0, 0, 0, 2, 0⟩ l.length, .int .i64 f, .int .i64 t, .slice ⟨1, 0, 0, 1, 0⟩ w.length] [.arr true .s2 l, .arr true .int w] (Is (.tuple [.bool false, .bool (wayOk l f t w)]) [.arr true .s2 l, .arr true .int w]) := by
  have h0 := implIsWay_call l f t w hl hw
  rw [h] at h0
  exact h0

theorem specIsT_call (l : List S2) (f t : Int) (w : List Int) (h : isWay l f t w = true) (hl : l.length ≤ 1048576) (hw : w.length ≤ 1048576) : ACall Try.prog 16 [.slice ⟨0, 0, 0, 2, 0⟩ l.length, .int .i64 f, .int .i64 t, .slice ⟨1, 0, 0, 1, 0⟩ w.length] [.arr true .s2 l, .arr true .int w] (Is (.tuple [.bool true, .bool true]) [.arr true .s2 l, .arr true .int w]) := by
  have h2 := isWay_ok h
  have h0 := specIsWay_call l f t w hl hw
  rw [h, h2] at h0
  exact h0

theorem specIsF_call (l : List S2) (f t : Int) (w : List Int) (h : isWay l f t w = false) (hl : l.length ≤ 1048576) (hw : w.length ≤ 1048576) : ACall Try.prog 16 [.slice ⟨0, 0, 0, 2, 0⟩ l.length, .int .i64 f, .int .i64 t, .slice ⟨1, 0, 0, 1, 0⟩ w.length] [.arr true .s2 l, .arr true .int w] (Is (.tuple [.bool false, .bool (wayOk l f t w)]) [.arr true .s2 l, .arr true .int w]) := by
  have h0 := specIsWay_call l f t w hl hw
  rw [h] at h0
  exact h0

theorem rb_no {l : List S2} {u : Int} {wo : List Int} (h : rbOk l u wo = false) : rbL l u wo = [] := by unfold rbL; rw [if_neg (by rw [h]; simp)]
theorem implReachT_call (l : List S2) (u : Int) (wo : List Int) (h : rbOk l u wo = true) (hl : l.length ≤ 1048576) (hw : wo.length ≤ 1048576) : ACall Try.prog 31 [.slice ⟨0, 0, 0, 2, 0⟩ l.length, .int .i64 u, .slice ⟨1, 0, 0, 1, 0⟩ wo.length] [.arr true .s2 l, .arr true .int wo] (Is (.tuple [.slice ⟨2, 0, 0, 1, 0⟩ (rcM l wo u).length, .bool true]) [.arr true .s2 l, .arr true .int wo, .arr false .int (rcM l wo u)]) := by
  have h0 := implReachedBy_call l u wo hl hw
  rw [h, rb_yes h] at h0
  exact h0

theorem implReachF_call (l : List S2) (u : Int) (wo : List Int) (h : rbOk l u wo = false) (hl : l.length ≤ 1048576) (hw : wo.length ≤ 1048576) : ACall Try.prog 31 [.slice ⟨0, 0, 0, 2, 0⟩ l.length, .int .i64 u, .slice ⟨1, 0, 0, 1, 0⟩ wo.length] [.arr true .s2 l, .arr true .int wo] (Is (.tuple [.slice ⟨2, 0, 0, 1, 0⟩ 0, .bool false]) [.arr true .s2 l, .arr true .int wo, .arr false .int ([])]) := by
  have h0 := implReachedBy_call l u wo hl hw
  rw [h, rb_no h] at h0
  exact h0

theorem specReachT_call (l : List S2) (u : Int) (wo : List Int) (h : rbOk l u wo = true) (hl : l.length ≤ 1048576) (hw : wo.length ≤ 1048576) : ACall Try.prog 30 [.slice ⟨0, 0, 0, 2, 0⟩ l.length, .int .i64 u, .slice ⟨1, 0, 0, 1, 0⟩ wo.length] [.arr true .s2 l, .arr true .int wo] (Is (.tuple [.slice ⟨2, 0, 0, 1, 0⟩ (rcM l wo u).length, .bool true]) [.arr true .s2 l, .arr true .int wo, .arr false .int (rcM l wo u)]) := by
  have h0 := specReachedBy_call l u wo hl hw
  rw [h, rb_yes h] at h0
  exact h0

theorem specReachF_call (l : List S2) (u : Int) (wo : List Int) (h : rbOk l u wo = false) (hl : l.length ≤ 1048576) (hw : wo.length ≤ 1048576) : ACall Try.prog 30 [.slice ⟨0, 0, 0, 2, 0⟩ l.length, .int .i64 u, .slice ⟨1, 0, 0, 1, 0⟩ wo.length] [.arr true .s2 l, .arr true .int wo] (Is (.tuple [.slice ⟨2, 0, 0, 1, 0⟩ 0, .bool false]) [.arr true .s2 l, .arr true .int wo, .arr false .int ([])]) := by
  have h0 := specReachedBy_call l u wo hl hw
  rw [h, rb_no h] at h0
  exact h0

section
variable {l : List S2} {f t : Int} {w : List Int}
theorem way_nil (h : isWay l f t w = true) : rbOk l f [] = true := by
  obtain ⟨hg, hf, _⟩ := linkAsk_spec (way_parts h).1
  unfold rbOk
  rw [hg, btw_iff.2 hf, Bool.true_and, Bool.true_and]
  exact some_mem List.Pairwise.nil fun x hx => by cases hx
theorem way_few (h : isWay l f t w = true) : fewB [w] = true := by
  have := way_len h
  unfold fewB
  simp
  omega
theorem way_flat (h : isWay l f t w = true) : [w].flatten.Nodup := by simpa using way_nodup h
theorem way_small (h : isWay l f t w = true) : SmallR [w] := by
  have := way_len h
  exact ⟨by simp, by rw [show ([w] : List (List Int)).length = 0 + 1 from rfl, totN_succ, totN_zero]; simp; omega⟩
theorem way_has (h : isWay l f t w = true) : hasB (rcM l [] f) t = true := hasB_iff.2 (way_reach h)
theorem rcm_le {wo : List Int} (h : rbOk l f wo = true) : (rcM l wo f).length ≤ 8 := by
  have h1 := rbL_le l f wo
  rwa [rb_yes h] at h1
theorem reach_shut {wo : List Int} (h : rbOk l f wo = true) {k : Nat} (hk : k < l.length) (h1 : hasB wo k = false) (h2 : hasB (rcM l wo f) (l.getD k ⟨0, 0⟩).a = true) : hasB (rcM l wo f) (l.getD k ⟨0, 0⟩).b = true := by
  unfold rbOk at h
  simp only [Bool.and_eq_true] at h
  have hc := rc_closed (wo := wo) h.1.1 (btw_iff.1 h.1.2)
  rw [hasB_iff, rcM, sortI_mem] at h2 ⊢
  exact hc.2 k hk (by simp only [enB, Bool.not_eq_true']; exact h1) h2
theorem small4 {ll : List (List Int)} (h : ll.length ≤ 4 ∧ ∀ w ∈ ll, w.length ≤ 20) : SmallR ll := by
  have hr : ∀ k, (ll.getD k []).length ≤ 20 := fun k => by
    rcases Nat.lt_or_ge k ll.length with c | c
    · rw [getD_get c]; exact h.2 _ (List.getElem_mem c)
    · rw [List.getD_eq_getElem?_getD, List.getElem?_eq_none c]; simp
  have ht : ∀ k, totN ll k ≤ 20 * k := fun k => by
    induction k with
    | zero => rw [totN_zero]; omega
    | succ k ih => rw [totN_succ]; have := hr k; omega
  exact ⟨by omega, by have := ht ll.length; omega⟩
end

theorem lawWays_call (code more : List Int) (hcode : ∀ x ∈ code, 0 ≤ x ∧ x ≤ 255) (hmore : ∀ x ∈ more, 0 ≤ x ∧ x ≤ 255) : ACall Try.prog 10 [.slice ⟨0, 0, 0, 1, 0⟩ code.length, .slice ⟨1, 0, 0, 1, 0⟩ more.length] [.arr true .byte code, .arr true .byte more] (Is (.bool true) [.arr true .byte code, .arr true .byte more]) := by
  refine ACall.walk T Try.func10 Try.ntmps10 Try.results10 rfl rfl rfl (Is.nv _ _) ?_
  repeat' (conv => whnf); first
    | refine AWP.regX (id := 1) T 4 rfl ?_
    | refine AWP.regX (id := 12) T 1 rfl ?_
    | refine AWP.cond rfl (fun hb => absurd (of_decide_eq_true hb) (by omega)) (fun hb => ?_)
    | refine AWP.seq ?_
    | refine AWP.reg T rfl ?_
    | refine AWP.drw T none rfl rfl rfl ?_
    | refine AWP.dep T none rfl rfl rfl rfl ?_
    | refine AWP.block ?_
    | refine AWP.condT rfl ?_
    | refine AWP.condF rfl ?_
    | refine AWP.cond rfl (fun hb => ?_) (fun hb => ?_)
    | refine AWP.ret ?_
    | refine AWP.exit ?_
    | refine AWP.skip ?_
    | refine GuardB.t ?_
    | refine GuardB.f ?_
    | refine GuardB.mk (fun hb => ?_) (fun hb => ?_)
    | refine NilQ.mk (fun hb => ?_) ?_
    | refine VC.mk Nat.zero_lt_one ?_
    | refine VC.mk rfl ?_
    | refine ACall.useEx4 [0] (drawIsWay_call code hcode) rfl (.cons (.same rfl rfl) (.nil _)) rfl (fun l f t w hlw => boolSplit (isWay l f t w) (fun h => ?_) (fun h => ?_))
    | refine ACall.useIs [2, 4] (implIsT_call l f t w h ?_ ?_) rfl (.cons (.ro rfl rfl) (.cons (.ro rfl rfl) (.nil _))) rfl ?_
    | refine ACall.useIs [2, 4] (implIsF_call l f t w h ?_ ?_) rfl (.cons (.ro rfl rfl) (.cons (.ro rfl rfl) (.nil _))) rfl ?_
    | refine ACall.useIs [2, 4] (specIsT_call l f t w h ?_ ?_) rfl (.cons (.ro rfl rfl) (.cons (.ro rfl rfl) (.nil _))) rfl ?_
    | refine ACall.useIs [2, 4] (specIsF_call l f t w h ?_ ?_) rfl (.cons (.ro rfl rfl) (.cons (.ro rfl rfl) (.nil _))) rfl ?_
    | refine ACall.nil2 ?_
    | refine ACall.useIs [2, 5] (reachT_call l f [] 0 rfl (way_nil h) ?_ ?_) rfl (.cons (.ro rfl rfl) (.cons (.same rfl rfl) (.nil _))) rfl ?_
    | refine ACall.useIs [6] (hasT_call _ t _ rfl (way_has h) ?_) rfl (.cons (.ro rfl rfl) (.nil _)) rfl ?_
    | refine XGoal.wrap (o := ⟨_, .buildSlice _ 1 _, _, _, _, _⟩) rfl ?_
    | refine ACall.useIs [7] (apartT_call [w] 1 rfl (way_few h) (way_flat h) (way_small h)) rfl (.cons (.ro rfl rfl) (.nil _)) rfl ?_
    | refine ACall.useEx3 [1] (drawReached_call more hmore) rfl (.cons (.same rfl rfl) (.nil _)) rfl (fun m st wo hmw => boolSplit (rbOk m st wo) (fun hr => ?_) (fun hr => ?_))
    | refine ACall.useIs [8, 9] (implReachT_call m st wo hr ?_ ?_) rfl (.cons (.ro rfl rfl) (.cons (.ro rfl rfl) (.nil _))) rfl ?_
    | refine ACall.useIs [8, 9] (implReachF_call m st wo hr ?_ ?_) rfl (.cons (.ro rfl rfl) (.cons (.ro rfl rfl) (.nil _))) rfl ?_
    | refine ACall.useIs [8, 9] (specReachT_call m st wo hr ?_ ?_) rfl (.cons (.ro rfl rfl) (.cons (.ro rfl rfl) (.nil _))) rfl ?_
    | refine ACall.useIs [8, 9] (specReachF_call m st wo hr ?_ ?_) rfl (.cons (.ro rfl rfl) (.cons (.ro rfl rfl) (.nil _))) rfl ?_
    | refine ACall.useIs [10, 11] (sameIntsE_call _ _ _ _ ?_ ?_ ?_ ?_) rfl (.cons (.ro rfl rfl) (.cons (.ro rfl rfl) (.nil _))) rfl ?_
    | refine ACall.useIs [5, 6] (implReachT_call m st wo hr ?_ ?_) rfl (.cons (.ro rfl rfl) (.cons (.ro rfl rfl) (.nil _))) rfl ?_
    | refine ACall.useIs [5, 6] (implReachF_call m st wo hr ?_ ?_) rfl (.cons (.ro rfl rfl) (.cons (.ro rfl rfl) (.nil _))) rfl ?_
    | refine ACall.useIs [5, 6] (specReachT_call m st wo hr ?_ ?_) rfl (.cons (.ro rfl rfl) (.cons (.ro rfl rfl) (.nil _))) rfl ?_
    | refine ACall.useIs [5, 6] (specReachF_call m st wo hr ?_ ?_) rfl (.cons (.ro rfl rfl) (.cons (.ro rfl rfl) (.nil _))) rfl ?_
    | refine ACall.useIs [7, 8] (sameIntsE_call _ _ _ _ ?_ ?_ ?_ ?_) rfl (.cons (.ro rfl rfl) (.cons (.ro rfl rfl) (.nil _))) rfl ?_
    | refine AWP.while (ι := Nat) (fun k => St.of [(1, .slice ⟨1, 0, 0, 1, 0⟩ more.length), (17, .slice ⟨2, 0, 0, 2, 0⟩ m.length), (19, .slice ⟨3, 0, 0, 1, 0⟩ wo.length), (20, .slice ⟨4, 0, 0, 1, 0⟩ (rcM m wo st).length), (21, .bool true), (132, .slice ⟨2, 0, 0, 2, 0⟩ m.length), (133, .int .i64 m.length), (134, .int .i64 k)] [.arr true .byte code, .arr true .byte more, .arr true .s2 m, .arr true .int wo, .arr true .int (rcM m wo st)]) (fun k => k ≤ m.length) (fun k => m.length - k) 0 (Nat.zero_le _)
        (Weak.of [0, 1, 8, 9, 10] (.cons rfl rfl (.cons rfl rfl (.cons rfl rfl (.cons rfl rfl (.cons rfl rfl (.cons rfl rfl (.cons rfl rfl (.cons rfl rfl .nil)))))))) (.cons (.same rfl rfl) (.cons (.same rfl rfl) (.cons (.ro rfl rfl) (.cons (.ro rfl rfl) (.cons (.ro rfl rfl) (.nil _)))))) rfl) (fun k hk => ?_)
    | refine AWP.while (ι := Nat) (fun k => St.of [(1, .slice ⟨1, 0, 0, 1, 0⟩ more.length), (17, .slice ⟨2, 0, 0, 2, 0⟩ m.length), (19, .slice ⟨3, 0, 0, 1, 0⟩ wo.length), (20, .slice ⟨4, 0, 0, 1, 0⟩ (([] : List Int)).length), (21, .bool false), (132, .slice ⟨2, 0, 0, 2, 0⟩ m.length), (133, .int .i64 m.length), (134, .int .i64 k)] [.arr true .byte code, .arr true .byte more, .arr true .s2 m, .arr true .int wo, .arr true .int (([] : List Int))]) (fun k => k ≤ m.length) (fun k => m.length - k) 0 (Nat.zero_le _)
        (Weak.of [0, 1, 8, 9, 10] (.cons rfl rfl (.cons rfl rfl (.cons rfl rfl (.cons rfl rfl (.cons rfl rfl (.cons rfl rfl (.cons rfl rfl (.cons rfl rfl .nil)))))))) (.cons (.same rfl rfl) (.cons (.same rfl rfl) (.cons (.ro rfl rfl) (.cons (.ro rfl rfl) (.cons (.ro rfl rfl) (.nil _)))))) rfl) (fun k hk => ?_)
    | refine AWP.while (ι := Nat) (fun k => St.of [(1, .slice ⟨1, 0, 0, 1, 0⟩ more.length), (17, .slice ⟨2, 0, 0, 2, 0⟩ m.length), (19, .slice ⟨3, 0, 0, 1, 0⟩ wo.length), (20, .slice ⟨4, 0, 0, 1, 0⟩ (rcM m wo st).length), (21, .bool true), (132, .slice ⟨2, 0, 0, 2, 0⟩ m.length), (133, .int .i64 m.length), (134, .int .i64 k)] [.arr true .byte code, .arr true .byte more, .arr true .s2 m, .arr true .int wo, .arr true .int (rcM m wo st)]) (fun k => k ≤ m.length) (fun k => m.length - k) 0 (Nat.zero_le _)
        (Weak.of [0, 1, 5, 6, 7] (.cons rfl rfl (.cons rfl rfl (.cons rfl rfl (.cons rfl rfl (.cons rfl rfl (.cons rfl rfl (.cons rfl rfl (.cons rfl rfl .nil)))))))) (.cons (.same rfl rfl) (.cons (.same rfl rfl) (.cons (.ro rfl rfl) (.cons (.ro rfl rfl) (.cons (.ro rfl rfl) (.nil _)))))) rfl) (fun k hk => ?_)
    | refine AWP.while (ι := Nat) (fun k => St.of [(1, .slice ⟨1, 0, 0, 1, 0⟩ more.length), (17, .slice ⟨2, 0, 0, 2, 0⟩ m.length), (19, .slice ⟨3, 0, 0, 1, 0⟩ wo.length), (20, .slice ⟨4, 0, 0, 1, 0⟩ (([] : List Int)).length), (21, .bool false), (132, .slice ⟨2, 0, 0, 2, 0⟩ m.length), (133, .int .i64 m.length), (134, .int .i64 k)] [.arr true .byte code, .arr true .byte more, .arr true .s2 m, .arr true .int wo, .arr true .int (([] : List Int))]) (fun k => k ≤ m.length) (fun k => m.length - k) 0 (Nat.zero_le _)
        (Weak.of [0, 1, 5, 6, 7] (.cons rfl rfl (.cons rfl rfl (.cons rfl rfl (.cons rfl rfl (.cons rfl rfl (.cons rfl rfl (.cons rfl rfl (.cons rfl rfl .nil)))))))) (.cons (.same rfl rfl) (.cons (.same rfl rfl) (.cons (.ro rfl rfl) (.cons (.ro rfl rfl) (.cons (.ro rfl rfl) (.nil _)))))) rfl) (fun k hk => ?_)
    | refine ACall.useIs [3] (hasN_call wo _ _ rfl ?_) rfl (.cons (.same rfl rfl) (.nil _)) rfl ?_
    | refine ACall.useIs [4] (hasN_call (rcM m wo st) _ _ rfl ?_) rfl (.cons (.same rfl rfl) (.nil _)) rfl ?_
    | refine roundEnd (k + 1) ?_ ?_ (Weak.of [0, 1, 2, 3, 4] (.cons rfl rfl (.cons rfl rfl (.cons rfl rfl (.cons rfl rfl (.cons rfl rfl (.cons rfl rfl (.cons rfl rfl (.cons rfl rfl .nil)))))))) (.cons (.same rfl rfl) (.cons (.same rfl rfl) (.cons (.same rfl rfl) (.cons (.same rfl rfl) (.cons (.same rfl rfl) (.nil _)))))) rfl)
    | refine ACall.useEx [1] (drawApart_call more hmore) rfl (.cons (.same rfl rfl) (.nil _)) rfl (fun ll hll => ?_)
    | refine ACall.useIs [5] (implApart_call ll (small4 hll)) rfl (.cons (.ro rfl rfl) (.nil _)) rfl ?_
    | refine ACall.useIs [5] (specApart_call ll (small4 hll)) rfl (.cons (.ro rfl rfl) (.nil _)) rfl ?_
    | refine XGoal.addW (o := ⟨_, .binOp .add _ _ _ _, _, _, _, _⟩) rfl ?_
    | refine XGoal.list rfl ?_
    | refine Ret.bool [0, 1] ?_ (.cons (.same rfl rfl) (.cons (.same rfl rfl) (.nil _))) rfl
    | refine VC.mk ?_ ?_
  all_goals try simp only [decide_eq_true_eq, decide_eq_false_iff_not, Bool.not_eq_true', Bool.not_eq_false', cond_true, cond_false, eqB_true, eqB_false] at *
  all_goals try simp only [in64, idxAdd_zero_left, Int.toNat_natCast, fillTo_length, Int.ofNat_lt, Int.ofNat_le, Int.natCast_inj] at *
  all_goals try have hl1 := hlw.1
  all_goals try have hw1 := hlw.2
  all_goals try have hm1 := hmw.1
  all_goals try have hm2 := hmw.2
  all_goals try have hr8 := rcm_le hr
  all_goals try have hn8 := rcm_le (way_nil h)
  all_goals try have hwp := List.length_pos_iff.2 (way_ne h)
  all_goals first
    | omega
    | rfl
    | exact ⟨by omega, by omega⟩
    | exact Eq.refl true
    | exact ⟨trivial, rfl⟩
    | exact ⟨trivial, trivial⟩
    | exact ⟨rfl, rfl⟩
    | (exfalso; omega)
    | (exfalso; have hk2 : k < m.length := by omega
       have hrs := reach_shut hr hk2 (by assumption) (by assumption)
       simp_all; done)
    | (exfalso; simp at *; done)
    | (simp; done)
    | (simp_all; done)

end YtafalojjbghlhaaAM
