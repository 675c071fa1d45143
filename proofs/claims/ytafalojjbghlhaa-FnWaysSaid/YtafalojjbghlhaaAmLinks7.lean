/- Contracts of functions of this seat. -/
import Derived.Test.YtafalojjbghlhaaAmTabLinks
import Derived.Test.YtafalojjbghlhaaAmModels
import Derived.Test.YtafalojjbghlhaaAmLinks5
import Derived.Test.YtafalojjbghlhaaAmLinkSort
import Derived.Test.YtafalojjbghlhaaAmRowApp
set_option linter.unusedVariables false
set_option linter.unusedSimpArgs false
set_option maxRecDepth 100000
set_option maxHeartbeats 2000000
namespace YtafalojjbghlhaaAM
open Go Go.Proofs
attribute [local irreducible] foldN sortI sortN srtL apartB fewB catN seenN longB

theorem apart_no {ll : List (List Int)} (h : fewB ll = false) : apartB ll = false := by unfold apartB; rw [h]; rfl
theorem apart_yes {ll : List (List Int)} (h : fewB ll = true) (h2 : ll.flatten.Nodup) : apartB ll = true := by unfold apartB; rw [h, decide_eq_true h2]; rfl
theorem apart_twice {ll : List (List Int)} (h : ¬ ll.flatten.Nodup) : apartB ll = false := by unfold apartB; rw [decide_eq_false h, Bool.and_false]
theorem apart_eq {ll : List (List Int)} (h : fewB ll = true) : apartB ll = decide ll.flatten.Nodup := by unfold apartB; rw [h]; rfl
theorem few_yes {ll : List (List Int)} (h : ¬ (ll.length : Int) > 20) (h2 : ll.any longB = false) : fewB ll = true := by
  unfold fewB
  rw [decide_eq_true (by omega), Bool.true_and, List.all_eq_true]
  intro w hw
  have := List.any_eq_false.1 h2 w hw
  simpa [longB] using this
theorem few_no1 {ll : List (List Int)} (h : (ll.length : Int) > 20) : fewB ll = false := by
  unfold fewB
  rw [decide_eq_false (by omega)]; rfl
theorem few_no2 {ll : List (List Int)} (h : ll.any longB = true) : fewB ll = false := by
  obtain ⟨w, hw, h2⟩ := List.any_eq_true.1 h
  refine Bool.eq_false_iff.2 fun hc => ?_
  have := (fewB_spec hc).2 w hw
  simp [longB] at h2; omega
theorem sub_app2 (a b : List Int) : sub a 0 a.length ++ sub b 0 b.length = a ++ b := by simp [sub]
theorem sub_app3 (a : List Int) (x : Int) : sub a 0 a.length ++ sub [x] 0 1 = a ++ [x] := by simp [sub]
theorem srt_cmp (l : List Int) : decide ((Lib.compact (srtL l)).length = l.length) = decide l.Nodup := by
  rw [← srtL_compact, decide_eq_decide]; omega
theorem longB_iff {w : List Int} : longB w = true ↔ 20 < w.length := by simp [longB]
theorem longB_no {w : List Int} : longB w = false ↔ w.length ≤ 20 := by simp [longB]

theorem specApart_call (ll : List (List Int)) (hr : SmallR ll) : ACall Try.prog 27 [.slice ⟨0, 0, 0, 1, 0⟩ ll.length] [.rows true ll] (Is (.tuple [.bool (apartB ll), .bool (fewB ll)]) [.rows true ll]) := by
  refine ACall.walk T Try.func27 Try.ntmps27 Try.results27 rfl rfl rfl (Is.nv _ _) ?_
  repeat' (conv => whnf); first
    | refine AWP.seq ?_
    | refine AWP.reg T rfl ?_
    | refine AWP.drw T none rfl rfl rfl ?_
    | refine AWP.dep T none rfl rfl rfl rfl ?_
    | refine AWP.block ?_
    | refine AWP.condT rfl ?_
    | refine AWP.condF rfl ?_
    | refine AWP.cond rfl (fun hb => ?_) (fun hb => ?_)
    | refine AWP.ret ?_
    | refine AWP.exit ?_
    | refine AWP.skip ?_
    | refine GuardB.t ?_
    | refine GuardB.f ?_
    | refine GuardB.mk (fun hb => ?_) (fun hb => ?_)
    | refine NilQ.mk (fun hb => ?_) ?_
    | refine VC.mk Nat.zero_lt_one ?_
    | refine VC.mk rfl ?_
    | refine AWP.while (ι := Nat) (fun j => St.of [(0, .slice ⟨0, 0, 0, 1, 0⟩ ll.length), (6, .slice ⟨1, 0, 0, 1, 0⟩ (seenN ll i j).length), (24, .slice ⟨0, 0, 0, 1, 0⟩ ll.length), (25, .int .i64 ll.length), (26, .int .i64 i), (30, .slice ⟨0, i + 1, 0, 1, 0⟩ (ll.getD i []).length), (31, .int .i64 (ll.getD i []).length), (32, .int .i64 j)] [.rows true ll, .arr false .int (seenN ll i j)]) (fun j => j ≤ (ll.getD i []).length ∧ (seenN ll i j).Nodup) (fun j => (ll.getD i []).length - j) 0 ?_
        (Weak.of [0, 1] (.cons rfl rfl (.s rfl ?_ rfl (.cons rfl rfl (.cons rfl rfl (.cons rfl rfl (.cons rfl rfl (.cons rfl rfl (.cons rfl rfl .nil)))))))) (.cons (.same rfl rfl) (.cons (.arr rfl ?_) (.nil _))) rfl) (fun j hj => ?_)
    | refine AWP.while (ι := Nat) (fun i => St.of [(0, .slice ⟨0, 0, 0, 1, 0⟩ ll.length), (6, .slice ⟨1, 0, 0, 1, 0⟩ (catN ll i).length), (24, .slice ⟨0, 0, 0, 1, 0⟩ ll.length), (25, .int .i64 ll.length), (26, .int .i64 i)] [.rows true ll, .arr false .int (catN ll i)]) (fun i => fewB ll = true ∧ i ≤ ll.length ∧ (catN ll i).Nodup) (fun i => ll.length - i) 0 ?_
        (Weak.of [0, 1] (.cons rfl rfl (.s rfl ?_ rfl (.cons rfl rfl (.cons rfl rfl (.cons rfl rfl .nil))))) (.cons (.same rfl rfl) (.cons (.arr rfl ?_) (.nil _))) rfl) (fun i hi => ?_)
    | refine AWP.while (ι := Nat) (fun k => St.of [(0, .slice ⟨0, 0, 0, 1, 0⟩ ll.length), (14, .slice ⟨0, 0, 0, 1, 0⟩ ll.length), (15, .int .i64 ll.length), (16, .int .i64 k)] [.rows true ll]) (fun k => NoneTo longB ll k) (fun k => ll.length - k) 0 (NoneTo.zero _ _)
        (Weak.of [0] (.cons rfl rfl (.cons rfl rfl (.cons rfl rfl (.cons rfl rfl .nil)))) (.cons (.same rfl rfl) (.nil _)) rfl) (fun k hk => ?_)
    | refine ACall.useIs [1] (l1Has_call _ _ ?_) rfl (.cons (.ro rfl rfl) (.nil _)) rfl ?_
    | refine roundEnd (j + 1) ?_ ?_ (Weak.of [0, 3] (.cons rfl rfl (.s rfl ?_ rfl (.cons rfl rfl (.cons rfl rfl (.cons rfl rfl (.cons rfl rfl (.cons rfl rfl (.cons rfl rfl .nil)))))))) (.cons (.same rfl rfl) (.cons (.arr rfl ?_) (.nil _))) rfl)
    | refine roundEnd (i + 1) ?_ ?_ (Weak.of [0, 1] (.cons rfl rfl (.s rfl ?_ rfl (.cons rfl rfl (.cons rfl rfl (.cons rfl rfl .nil))))) (.cons (.same rfl rfl) (.cons (.arr rfl ?_) (.nil _))) rfl)
    | refine roundEnd (k + 1) ?_ ?_ (Weak.of [0] (.cons rfl rfl (.cons rfl rfl (.cons rfl rfl (.cons rfl rfl .nil)))) (.cons (.same rfl rfl) (.nil _)) rfl)
    | refine Ret.bb [0] ?_ ?_ (.cons (.same rfl rfl) (.nil _)) rfl
    | refine VC.mk ?_ ?_
  all_goals try simp only [decide_eq_true_eq, decide_eq_false_iff_not, Bool.not_eq_true', Bool.not_eq_false', cond_true, cond_false, eqB_true, eqB_false] at *
  all_goals try simp only [in64, idxAdd_zero_left, Int.toNat_natCast, fillTo_length, Int.ofNat_lt, Int.ofNat_le, Int.natCast_inj] at *
  all_goals try have hrl := hr.len
  all_goals try have hrow := hr.row k
  all_goals try
    have hfew := hi.1
    have hil := hi.2.1
    have hin := hi.2.2
    have hcl := catN_le hfew i
    have hrw := row_le hfew i
  all_goals try
    have hjl := hj.1
    have hjn := hj.2
    have hsl := seenN_le hfew i j
  all_goals try
    have hi2 : i < ll.length := by omega
  all_goals try
    have hj2 : j < (ll.getD i []).length := by omega
  all_goals first
    | omega
    | (have := hk.1; omega)
    | exact ⟨by omega, by omega⟩
    | exact ⟨by simp, by omega, by omega⟩
    | exact few_no1 (by assumption)
    | (rw [few_no1 (by assumption)]; done)
    | (rw [apart_no (few_no1 (by assumption))]; done)
    | (have h2 : k < ll.length := by omega
       have h3 : longB ll[k] = true := longB_iff.2 (by rw [← getD_get (d := []) h2]; omega)
       first
       | (rw [few_no2 (any_here h2 h3)]; done)
       | (rw [apart_no (few_no2 (any_here h2 h3))]; done))
    | (have h2 : k < ll.length := by omega
       exact hk.next h2 (longB_no.2 (by rw [← getD_get (d := []) h2]; omega)))
    | exact ⟨few_yes (by assumption) (hk.any (by omega)), Nat.zero_le _, by rw [catN_zero]; exact List.nodup_nil⟩
    | (rw [catN_zero]; done)
    | (rw [catN_zero]; rfl)
    | exact ⟨Nat.zero_le _, by rw [seenN_zero]; exact hin⟩
    | (rw [seenN_zero]; done)
    | (have ha := hasB_false.1 (by assumption : hasB (seenN ll i j) _ = false)
       exact ⟨by omega, seen_next hj2 hjn (by assumption)⟩)
    | (rw [seenN_succ hj2, sub_app3]; done)
    | (rw [seenN_succ hj2, List.length_append]; rfl)
    | (have e : j = (ll.getD i []).length := by omega
       subst e
       first
       | exact ⟨hfew, by omega, by rw [← seenN_all hi2]; exact hjn⟩
       | (rw [seenN_all hi2]; done))
    | (have e : i = ll.length := by omega
       subst e
       rw [catN_all] at hin
       first
       | exact (apart_yes hfew hin).symm
       | exact hfew.symm)
    | exact (apart_twice (seen_twice hi2 hj2 (by assumption))).symm
    | exact hfew.symm

theorem longRow_call (w : List Int) (hw : w.length ≤ 1048576) : ACall Try.prog 64 [.slice ⟨0, 0, 0, 1, 0⟩ w.length] [.arr true .int w] (Is (.bool (longB w)) [.arr true .int w]) := by
  refine ACall.walk T Try.func64 Try.ntmps64 Try.results64 rfl rfl rfl (Is.nv _ _) ?_
  repeat' (conv => whnf); first
    | refine AWP.seq ?_
    | refine AWP.reg T rfl ?_
    | refine AWP.drw T none rfl rfl rfl ?_
    | refine AWP.dep T none rfl rfl rfl rfl ?_
    | refine AWP.block ?_
    | refine AWP.condT rfl ?_
    | refine AWP.condF rfl ?_
    | refine AWP.cond rfl (fun hb => ?_) (fun hb => ?_)
    | refine AWP.ret ?_
    | refine AWP.exit ?_
    | refine AWP.skip ?_
    | refine GuardB.t ?_
    | refine GuardB.f ?_
    | refine GuardB.mk (fun hb => ?_) (fun hb => ?_)
    | refine NilQ.mk (fun hb => ?_) ?_
    | refine VC.mk Nat.zero_lt_one ?_
    | refine VC.mk rfl ?_
    | refine Ret.bool [0] ?_ (.cons (.same rfl rfl) (.nil _)) rfl
    | refine VC.mk ?_ ?_
  all_goals try simp only [decide_eq_true_eq, decide_eq_false_iff_not, Bool.not_eq_true', Bool.not_eq_false', cond_true, cond_false, eqB_true, eqB_false] at *
  all_goals try simp only [in64, idxAdd_zero_left, Int.toNat_natCast, fillTo_length, Int.ofNat_lt, Int.ofNat_le, Int.natCast_inj] at *
  all_goals first
    | omega
    | (unfold longB; rw [decide_eq_decide]; omega)

theorem idxLong_call (ll : List (List Int)) (hr : SmallR ll) : ACall Try.prog 85 [.slice ⟨0, 0, 0, 1, 0⟩ ll.length, .func 64 []] [.rows true ll] (Is (.int .i64 (idxF longB ll)) [.rows true ll]) := by
  refine ACall.walk T Try.func85 Try.ntmps85 Try.results85 rfl rfl rfl (Is.nv _ _) ?_
  repeat' (conv => whnf); first
    | refine AWP.seq ?_
    | refine AWP.reg T rfl ?_
    | refine AWP.drw T none rfl rfl rfl ?_
    | refine AWP.dep T none rfl rfl rfl rfl ?_
    | refine AWP.block ?_
    | refine AWP.condT rfl ?_
    | refine AWP.condF rfl ?_
    | refine AWP.cond rfl (fun hb => ?_) (fun hb => ?_)
    | refine AWP.ret ?_
    | refine AWP.exit ?_
    | refine AWP.skip ?_
    | refine GuardB.t ?_
    | refine GuardB.f ?_
    | refine GuardB.mk (fun hb => ?_) (fun hb => ?_)
    | refine NilQ.mk (fun hb => ?_) ?_
    | refine VC.mk Nat.zero_lt_one ?_
    | refine VC.mk rfl ?_
    | refine AWP.while (ι := Nat) (fun k => St.of [(0, .slice ⟨0, 0, 0, 1, 0⟩ ll.length), (1, .func 64 []), (7, .int .i64 ll.length), (8, .int .i64 k)] [.rows true ll]) (fun k => NoneTo longB ll k) (fun k => ll.length - k) 0 (NoneTo.zero _ _)
        (Weak.of [0] (.cons rfl rfl (.cons rfl rfl (.cons rfl rfl (.cons rfl rfl .nil)))) (.cons (.same rfl rfl) (.nil _)) rfl) (fun k hk => ?_)
    | refine ACall.row0 (id := 0) rfl ?_
    | refine ACall.useIs [1] (longRow_call _ ?_) rfl (.cons (.same rfl rfl) (.nil _)) rfl ?_
    | refine Ret.int [0] ?_ (.cons (.same rfl rfl) (.nil _)) rfl
    | refine roundEnd (_ + 1) ?_ ?_ (Weak.of [0] (.cons rfl rfl (.cons rfl rfl (.cons rfl rfl (.cons rfl rfl .nil)))) (.cons (.same rfl rfl) (.nil _)) rfl)
    | refine VC.mk ?_ ?_
  all_goals try simp only [decide_eq_true_eq, decide_eq_false_iff_not, Bool.not_eq_true', Bool.not_eq_false', cond_true, cond_false, eqB_true, eqB_false] at *
  all_goals try simp only [in64, idxAdd_zero_left, Int.toNat_natCast, fillTo_length, Int.ofNat_lt, Int.ofNat_le, Int.natCast_inj] at *
  all_goals try have hrow := hr.row k
  all_goals try have hrl := hr.len
  all_goals first
    | omega
    | exact hrow
    | (have := hk.1; omega)
    | exact idxF_none (fun j hj => hk.2 j hj (by omega))
    | (have h2 : k < ll.length := by omega
       simp only [getD_get h2] at *
       first
       | exact hk.next h2 (by simp_all)
       | exact idxF_here h2 (fun j hj => hk.2 j (by omega) hj) (by simp_all))

theorem anyLong_call (ll : List (List Int)) (hr : SmallR ll) : ACall Try.prog 63 [.slice ⟨0, 0, 0, 1, 0⟩ ll.length, .func 64 []] [.rows true ll] (Is (.bool (ll.any longB)) [.rows true ll]) := by
  refine ACall.walk T Try.func63 Try.ntmps63 Try.results63 rfl rfl rfl (Is.nv _ _) ?_
  repeat' (conv => whnf); first
    | refine AWP.seq ?_
    | refine AWP.reg T rfl ?_
    | refine AWP.drw T none rfl rfl rfl ?_
    | refine AWP.dep T none rfl rfl rfl rfl ?_
    | refine AWP.block ?_
    | refine AWP.condT rfl ?_
    | refine AWP.condF rfl ?_
    | refine AWP.cond rfl (fun hb => ?_) (fun hb => ?_)
    | refine AWP.ret ?_
    | refine AWP.exit ?_
    | refine AWP.skip ?_
    | refine GuardB.t ?_
    | refine GuardB.f ?_
    | refine GuardB.mk (fun hb => ?_) (fun hb => ?_)
    | refine NilQ.mk (fun hb => ?_) ?_
    | refine VC.mk Nat.zero_lt_one ?_
    | refine VC.mk rfl ?_
    | refine ACall.useIs [0] (idxLong_call _ ?_) rfl (.cons (.same rfl rfl) (.nil _)) rfl ?_
    | refine Ret.bool [0] ?_ (.cons (.same rfl rfl) (.nil _)) rfl
    | refine VC.mk ?_ ?_
  all_goals first | exact idxF_any _ _ | exact hr

theorem concat_call (ll : List (List Int)) (hf : fewB ll = true) : ACall Try.prog 65 [.slice ⟨0, 0, 0, 1, 0⟩ ll.length] [.rows true ll] (Is (.slice ⟨1, 0, 0, 1, 0⟩ ll.flatten.length) [.rows true ll, .arr false .int (ll.flatten)]) := by
  refine ACall.walk T Try.func65 Try.ntmps65 Try.results65 rfl rfl rfl (Is.nv _ _) ?_
  repeat' (conv => whnf); first
    | refine AWP.seq ?_
    | refine AWP.reg T rfl ?_
    | refine AWP.drw T none rfl rfl rfl ?_
    | refine AWP.dep T none rfl rfl rfl rfl ?_
    | refine AWP.block ?_
    | refine AWP.condT rfl ?_
    | refine AWP.condF rfl ?_
    | refine AWP.cond rfl (fun hb => ?_) (fun hb => ?_)
    | refine AWP.ret ?_
    | refine AWP.exit ?_
    | refine AWP.skip ?_
    | refine GuardB.t ?_
    | refine GuardB.f ?_
    | refine GuardB.mk (fun hb => ?_) (fun hb => ?_)
    | refine NilQ.mk (fun hb => ?_) ?_
    | refine VC.mk Nat.zero_lt_one ?_
    | refine VC.mk rfl ?_
    | refine AWP.while (ι := Nat) (fun j => St.of [(0, .slice ⟨0, 0, 0, 1, 0⟩ ll.length), (6, .slice ⟨1, 0, 0, 1, 0⟩ (catN ll j).length), (25, .slice ⟨0, 0, 0, 1, 0⟩ ll.length), (26, .int .i64 ll.length), (27, .int .i64 j)] [.rows true ll, .arr false .int (catN ll j)]) (fun j => j ≤ ll.length) (fun j => ll.length - j) 0 (Nat.zero_le _)
        (Weak.of [0, 1] (.cons rfl rfl (.s rfl ?_ rfl (.cons rfl rfl (.cons rfl rfl (.cons rfl rfl .nil))))) (.cons (.same rfl rfl) (.cons (.arr rfl ?_) (.nil _))) rfl) (fun j hj => ?_)
    | refine AWP.while (ι := Nat) (fun k => St.of [(0, .slice ⟨0, 0, 0, 1, 0⟩ ll.length), (3, .int .i64 (catN ll k).length), (9, .slice ⟨0, 0, 0, 1, 0⟩ ll.length), (10, .int .i64 ll.length), (11, .int .i64 k)] [.rows true ll]) (fun k => k ≤ ll.length) (fun k => ll.length - k) 0 (Nat.zero_le _)
        (Weak.of [0] (.cons rfl rfl (.i rfl ?_ (.cons rfl rfl (.cons rfl rfl (.cons rfl rfl .nil))))) (.cons (.same rfl rfl) (.nil _)) rfl) (fun k hk => ?_)
    | refine ACall.useIs [] (grow_call _ ?_) rfl (.nil _) rfl ?_
    | refine roundEnd (j + 1) ?_ ?_ (Weak.of [0, 2] (.cons rfl rfl (.s rfl ?_ rfl (.cons rfl rfl (.cons rfl rfl (.cons rfl rfl .nil))))) (.cons (.same rfl rfl) (.cons (.arr rfl ?_) (.nil _))) rfl)
    | refine roundEnd (k + 1) ?_ ?_ (Weak.of [0] (.cons rfl rfl (.i rfl ?_ (.cons rfl rfl (.cons rfl rfl (.cons rfl rfl .nil))))) (.cons (.same rfl rfl) (.nil _)) rfl)
    | refine Ret.s [0, 1] rfl ?_ (.cons (.same rfl rfl) (.cons (.arr rfl ?_) (.nil _))) rfl
    | refine VC.mk ?_ ?_
  all_goals try simp only [decide_eq_true_eq, decide_eq_false_iff_not, Bool.not_eq_true', Bool.not_eq_false', cond_true, cond_false, eqB_true, eqB_false] at *
  all_goals try simp only [in64, idxAdd_zero_left, Int.toNat_natCast, fillTo_length, Int.ofNat_lt, Int.ofNat_le, Int.natCast_inj] at *
  all_goals have hfl := (fewB_spec hf).1
  all_goals try have hck := catN_le hf k
  all_goals try have hrk := row_le hf k
  all_goals try
    have hk2 : k < ll.length := by omega
    have hcs := catN_succ hk2
    have hcsl : (catN ll (k + 1)).length = (catN ll k).length + (ll.getD k []).length := by rw [hcs, List.length_append]
  all_goals try have hcj := catN_le hf j
  all_goals try have hrj := row_le hf j
  all_goals try
    have hj2 : j < ll.length := by omega
    have hds := catN_succ hj2
    have hdsl : (catN ll (j + 1)).length = (catN ll j).length + (ll.getD j []).length := by rw [hds, List.length_append]
  all_goals try
    have hke : k = ll.length := by omega
    subst hke
  all_goals first
    | omega
    | exact ⟨by omega, by omega⟩
    | exact ⟨by omega, by omega, by omega⟩
    | (rw [catN_zero]; done)
    | (rw [catN_zero]; rfl)
    | (rw [hds, sub_app2]; done)
    | (rw [hds, List.length_append]; done)
    | (rw [hcs]; done)
    | (have e : j = ll.length := by omega
       subst e
       rw [catN_all])

theorem implApart_call (ll : List (List Int)) (hr : SmallR ll) : ACall Try.prog 29 [.slice ⟨0, 0, 0, 1, 0⟩ ll.length] [.rows true ll] (Is (.tuple [.bool (apartB ll), .bool (fewB ll)]) [.rows true ll]) := by
  refine ACall.walk T Try.func29 Try.ntmps29 Try.results29 rfl rfl rfl (Is.nv _ _) ?_
  repeat' (conv => whnf); first
    | refine AWP.seq ?_
    | refine AWP.reg T rfl ?_
    | refine AWP.drw T none rfl rfl rfl ?_
    | refine AWP.dep T none rfl rfl rfl rfl ?_
    | refine AWP.block ?_
    | refine AWP.condT rfl ?_
    | refine AWP.condF rfl ?_
    | refine AWP.cond rfl (fun hb => ?_) (fun hb => ?_)
    | refine AWP.ret ?_
    | refine AWP.exit ?_
    | refine AWP.skip ?_
    | refine GuardB.t ?_
    | refine GuardB.f ?_
    | refine GuardB.mk (fun hb => ?_) (fun hb => ?_)
    | refine NilQ.mk (fun hb => ?_) ?_
    | refine VC.mk Nat.zero_lt_one ?_
    | refine VC.mk rfl ?_
    | refine ACall.useIs [0] (anyLong_call _ ?_) rfl (.cons (.same rfl rfl) (.nil _)) rfl ?_
    | refine ACall.useIs [0] (concat_call _ ?_) rfl (.cons (.same rfl rfl) (.nil _)) rfl ?_
    | refine ACall.useIs [1] (bigSort_call _ _ ?_ ?_) rfl (.cons (.same rfl rfl) (.nil _)) rfl ?_
    | refine ACall.useIs [1] (compact_call _ _ ?_ ?_) rfl (.cons (.same rfl rfl) (.nil _)) rfl ?_
    | refine Ret.bb [0] ?_ ?_ (.cons (.same rfl rfl) (.nil _)) rfl
    | refine VC.mk ?_ ?_
  all_goals try simp only [decide_eq_true_eq, decide_eq_false_iff_not, Bool.not_eq_true', Bool.not_eq_false', cond_true, cond_false, eqB_true, eqB_false] at *
  all_goals try simp only [in64, idxAdd_zero_left, Int.toNat_natCast, fillTo_length, Int.ofNat_lt, Int.ofNat_le, Int.natCast_inj] at *
  all_goals try have hrl := hr.len
  all_goals try
    have hfew : fewB ll = true := few_yes (by assumption) (by assumption)
    have hf4 := catN_le hfew ll.length
    rw [catN_all] at hf4
  all_goals first
    | omega
    | exact hr
    | exact hfew
    | exact (srtL_len _).symm
    | exact hfew.symm
    | (rw [apart_eq hfew]; exact srtL_compact _)
    | (rw [apart_eq hfew, srt_cmp]; done)
    | (rw [few_no1 (by assumption)]; done)
    | (rw [apart_no (few_no1 (by assumption))]; done)
    | (rw [few_no2 (by assumption)]; done)
    | (rw [apart_no (few_no2 (by assumption))]; done)

theorem lawAreApart_call (ll : List (List Int)) (h1 : ll.length ≤ 9223372036854775807) (h3 : ∀ l ∈ ll, l.length ≤ 9223372036854775807) : ACall Try.prog 6 [.slice ⟨0, 0, 0, 1, 0⟩ ll.length] [.rows true ll] (Is (.bool true) [.rows true ll]) := by
  refine ACall.walk T Try.func6 Try.ntmps6 Try.results6 rfl rfl rfl (Is.nv _ _) ?_
  repeat' (conv => whnf); first
    | refine AWP.seq ?_
    | refine AWP.reg T rfl ?_
    | refine AWP.drw T none rfl rfl rfl ?_
    | refine AWP.dep T none rfl rfl rfl rfl ?_
    | refine AWP.block ?_
    | refine AWP.condT rfl ?_
    | refine AWP.condF rfl ?_
    | refine AWP.cond rfl (fun hb => ?_) (fun hb => ?_)
    | refine AWP.ret ?_
    | refine AWP.exit ?_
    | refine AWP.skip ?_
    | refine GuardB.t ?_
    | refine GuardB.f ?_
    | refine GuardB.mk (fun hb => ?_) (fun hb => ?_)
    | refine NilQ.mk (fun hb => ?_) ?_
    | refine VC.mk Nat.zero_lt_one ?_
    | refine VC.mk rfl ?_
    | refine ACall.useIs [0] (szIntSS_call _ _ ?_ ?_ ?_) rfl (.cons (.same rfl rfl) (.nil _)) rfl ?_
    | refine ACall.useIs [0] (toIntSS_call _ ?_) rfl (.cons (.same rfl rfl) (.nil _)) rfl ?_
    | refine ACall.useIs [1] (specApart_call _ ?_) rfl (.cons (.ro rfl rfl) (.nil _)) rfl ?_
    | refine ACall.useIs [2] (implApart_call _ ?_) rfl (.cons (.ro rfl rfl) (.nil _)) rfl ?_
    | refine ACall.useIs [2, 3] (eqIntSS_call _ _ ?_) rfl (.cons (.ro rfl rfl) (.cons (.ro rfl rfl) (.nil _))) rfl ?_
    | refine Ret.bool [0] ?_ (.cons (.same rfl rfl) (.nil _)) rfl
    | refine VC.mk ?_ ?_
  all_goals try simp only [decide_eq_true_eq, decide_eq_false_iff_not, Bool.not_eq_true', Bool.not_eq_false', cond_true, cond_false, eqB_true, eqB_false] at *
  all_goals try simp only [in64, idxAdd_zero_left, Int.toNat_natCast, fillTo_length, Int.ofNat_lt, Int.ofNat_le, Int.natCast_inj] at *
  all_goals try
    have hsm : SmallR ll := SmallR.of (n := 1048576) (by omega) (by assumption)
  all_goals first
    | rfl
    | omega
    | exact h3
    | exact hsm
    | (simp_all [eqB]; done)

end YtafalojjbghlhaaAM
