/- Contracts of functions of this seat. -/
import Derived.Test.YtcljaokjjnmioaaAmTabRoads
import Derived.Test.YtcljaokjjnmioaaAmModels
import Derived.Test.YtcljaokjjnmioaaAmRoads8
import Derived.Test.YtcljaokjjnmioaaAmRoadLaw
import Derived.Test.YtcljaokjjnmioaaAmDrawsX
set_option linter.unusedVariables false
set_option linter.unusedSimpArgs false
set_option maxRecDepth 100000
set_option maxHeartbeats 4000000
namespace YtcljaokjjnmioaaAM
open Go Go.Proofs
attribute [local irreducible] NextOk PickOk OneOk AmongOk costFrom acN acOf fine hasGain goodRoads okWay wayL cfOf cfOk atC sumK hasB

theorem drawGood_call (code : List Int) (hcode : ∀ x ∈ code, 0 ≤ x ∧ x ≤ 255) : ACall Try.prog 63 [.slice ⟨0, 0, 0, 1, 0⟩ code.length] [.arr true .byte code] (Ex (ι := List S3) (fun i => .slice ⟨1, 0, 0, 3, 0⟩ i.length) (fun i => [.arr true .byte code, .arr false .s3 i]) (fun i => i.length ≤ 21)) := by
  refine ACall.walk T Try.func63 Try.ntmps63 Try.results63 rfl rfl rfl (Ex.nv [] (by simp)) ?_
  repeat' (conv => whnf); first
    | refine AWP.seq ?_
    | refine AWP.reg T rfl ?_
    | refine AWP.drw T none rfl rfl rfl ?_
    | refine AWP.dep T none rfl rfl rfl rfl ?_
    | refine AWP.block ?_
    | refine AWP.condT rfl ?_
    | refine AWP.condF rfl ?_
    | refine AWP.cond rfl (fun hb => ?_) (fun hb => ?_)
    | refine AWP.ret ?_
    | refine AWP.exit ?_
    | refine AWP.skip ?_
    | refine GuardB.t ?_
    | refine GuardB.f ?_
    | refine GuardB.mk (fun hb => ?_) (fun hb => ?_)
    | refine NilQ.mk (fun hb => ?_) ?_
    | refine VC.mk Nat.zero_lt_one ?_
    | refine VC.mk rfl ?_
    | refine ACall.useExC [2, 0] (roads_call code hcode _ _ ?_) rfl (.cons (.same rfl rfl) (.cons (.same rfl rfl) (.nil _))) rfl (fun i iA iS hi => ?_)
    | refine Ret.ex [0, 3] _ ?_ rfl (.cons (.same rfl rfl) (.cons (.same rfl rfl) (.nil _))) rfl
    | refine VC.mk ?_ ?_
  all_goals first
    | exact Nat.zero_le _
    | omega
    | assumption
    | exact hi.1
    | rfl

theorem drawAllCosts_call (code : List Int) (hcode : ∀ x ∈ code, 0 ≤ x ∧ x ≤ 255) : ACall Try.prog 37 [.slice ⟨0, 0, 0, 1, 0⟩ code.length] [.arr true .byte code] (Ex (ι := List S3) (fun i => .slice ⟨1, 0, 0, 3, 0⟩ i.length) (fun i => [.arr true .byte code, .arr false .s3 i]) (fun i => i.length ≤ 21)) := by
  refine ACall.walk T Try.func37 Try.ntmps37 Try.results37 rfl rfl rfl (Ex.nv [] (by simp)) ?_
  repeat' (conv => whnf); first
    | refine AWP.seq ?_
    | refine AWP.reg T rfl ?_
    | refine AWP.drw T none rfl rfl rfl ?_
    | refine AWP.dep T none rfl rfl rfl rfl ?_
    | refine AWP.block ?_
    | refine AWP.condT rfl ?_
    | refine AWP.condF rfl ?_
    | refine AWP.cond rfl (fun hb => ?_) (fun hb => ?_)
    | refine AWP.ret ?_
    | refine AWP.exit ?_
    | refine AWP.skip ?_
    | refine GuardB.t ?_
    | refine GuardB.f ?_
    | refine GuardB.mk (fun hb => ?_) (fun hb => ?_)
    | refine NilQ.mk (fun hb => ?_) ?_
    | refine VC.mk Nat.zero_lt_one ?_
    | refine VC.mk rfl ?_
    | refine ACall.useEx [0] (drawGood_call code hcode) rfl (.cons (.same rfl rfl) (.nil _)) rfl (fun i hi => ?_)
    | refine Ret.ex [0, 2] _ ?_ rfl (.cons (.same rfl rfl) (.cons (.same rfl rfl) (.nil _))) rfl
    | refine VC.mk ?_ ?_
  all_goals first
    | exact Nat.zero_le _
    | omega
    | assumption
    | exact hi
    | rfl

theorem drawReducedRoads_call (code : List Int) (hcode : ∀ x ∈ code, 0 ≤ x ∧ x ≤ 255) : ACall Try.prog 41 [.slice ⟨0, 0, 0, 1, 0⟩ code.length] [.arr true .byte code] (Ex (ι := List S3) (fun i => .slice ⟨1, 0, 0, 3, 0⟩ i.length) (fun i => [.arr true .byte code, .arr false .s3 i]) (fun i => i.length ≤ 21)) := by
  refine ACall.walk T Try.func41 Try.ntmps41 Try.results41 rfl rfl rfl (Ex.nv [] (by simp)) ?_
  repeat' (conv => whnf); first
    | refine AWP.seq ?_
    | refine AWP.reg T rfl ?_
    | refine AWP.drw T none rfl rfl rfl ?_
    | refine AWP.dep T none rfl rfl rfl rfl ?_
    | refine AWP.block ?_
    | refine AWP.condT rfl ?_
    | refine AWP.condF rfl ?_
    | refine AWP.cond rfl (fun hb => ?_) (fun hb => ?_)
    | refine AWP.ret ?_
    | refine AWP.exit ?_
    | refine AWP.skip ?_
    | refine GuardB.t ?_
    | refine GuardB.f ?_
    | refine GuardB.mk (fun hb => ?_) (fun hb => ?_)
    | refine NilQ.mk (fun hb => ?_) ?_
    | refine VC.mk Nat.zero_lt_one ?_
    | refine VC.mk rfl ?_
    | refine ACall.useEx [0] (drawGood_call code hcode) rfl (.cons (.same rfl rfl) (.nil _)) rfl (fun i hi => ?_)
    | refine Ret.ex [0, 2] _ ?_ rfl (.cons (.same rfl rfl) (.cons (.same rfl rfl) (.nil _))) rfl
    | refine VC.mk ?_ ?_
  all_goals first
    | exact Nat.zero_le _
    | omega
    | assumption
    | exact hi
    | rfl

theorem drawWay_call (code : List Int) (hcode : ∀ x ∈ code, 0 ≤ x ∧ x ≤ 255) : ACall Try.prog 40 [.slice ⟨0, 0, 0, 1, 0⟩ code.length] [.arr true .byte code] (Ex (ι := List S3 × Int × Int) (fun i => .tuple [.slice ⟨1, 0, 0, 3, 0⟩ i.1.length, .int .i64 i.2.1, .int .i64 i.2.2]) (fun i => [.arr true .byte code, .arr false .s3 i.1]) (fun i => i.1.length ≤ 21)) := by
  refine ACall.walk T Try.func40 Try.ntmps40 Try.results40 rfl rfl rfl (Ex.nv ([], 0, 0) (by simp)) ?_
  repeat' (conv => whnf); first
    | refine AWP.seq ?_
    | refine AWP.reg T rfl ?_
    | refine AWP.drw T none rfl rfl rfl ?_
    | refine AWP.dep T none rfl rfl rfl rfl ?_
    | refine AWP.block ?_
    | refine AWP.condT rfl ?_
    | refine AWP.condF rfl ?_
    | refine AWP.cond rfl (fun hb => ?_) (fun hb => ?_)
    | refine AWP.ret ?_
    | refine AWP.exit ?_
    | refine AWP.skip ?_
    | refine GuardB.t ?_
    | refine GuardB.f ?_
    | refine GuardB.mk (fun hb => ?_) (fun hb => ?_)
    | refine NilQ.mk (fun hb => ?_) ?_
    | refine VC.mk Nat.zero_lt_one ?_
    | refine VC.mk rfl ?_
    | refine ACall.useExC [2, 0] (roads_call code hcode _ _ ?_) rfl (.cons (.same rfl rfl) (.cons (.same rfl rfl) (.nil _))) rfl (fun i iA iS hi => ?_)
    | refine ACall.useExC [2, 0] (pick_call code hcode _ _ _ ?_ ?_) rfl (.cons (.same rfl rfl) (.cons (.same rfl rfl) (.nil _))) rfl (fun x xA xS hx => ?_)
    | refine Ret.ex [0, 3] (_, _, _) ?_ rfl (.cons (.same rfl rfl) (.cons (.same rfl rfl) (.nil _))) rfl
    | refine VC.mk ?_ ?_
  all_goals try simp only [PickOk, Cu.to] at *
  all_goals first
    | exact Nat.zero_le _
    | omega
    | exact hi.1
    | rfl

theorem sameLists_call (a b : List (List Int)) (ha : SmallR a) : ACall Try.prog 38 [.slice ⟨0, 0, 0, 1, 0⟩ a.length, .slice ⟨1, 0, 0, 1, 0⟩ b.length] [.rows true a, .rows true b] (Is (.bool (eqB a b)) [.rows true a, .rows true b]) := by
  refine ACall.walk T Try.func38 Try.ntmps38 Try.results38 rfl rfl rfl (Is.nv _ _) ?_
  repeat' (conv => whnf); first
    | refine AWP.seq ?_
    | refine AWP.reg T rfl ?_
    | refine AWP.drw T none rfl rfl rfl ?_
    | refine AWP.dep T none rfl rfl rfl rfl ?_
    | refine AWP.block ?_
    | refine AWP.condT rfl ?_
    | refine AWP.condF rfl ?_
    | refine AWP.cond rfl (fun hb => ?_) (fun hb => ?_)
    | refine AWP.ret ?_
    | refine AWP.exit ?_
    | refine AWP.skip ?_
    | refine GuardB.t ?_
    | refine GuardB.f ?_
    | refine GuardB.mk (fun hb => ?_) (fun hb => ?_)
    | refine NilQ.mk (fun hb => ?_) ?_
    | refine VC.mk Nat.zero_lt_one ?_
    | refine VC.mk rfl ?_
    | refine AWP.drw T (some [0, 1]) rfl rfl rfl ?_
    | refine AWP.while (ι := Nat) (fun k => St.of [(0, .slice ⟨0, 0, 0, 1, 0⟩ a.length), (1, .slice ⟨1, 0, 0, 1, 0⟩ b.length), (12, .int .i64 a.length), (13, .int .i64 k)] [.rows true a, .rows true b]) (fun k => Same a b k) (fun k => a.length - k) 0 ?_
        (Weak.of [0, 1] (.cons rfl rfl (.cons rfl rfl (.cons rfl rfl (.cons rfl rfl .nil)))) (.cons (.same rfl rfl) (.cons (.same rfl rfl) (.nil _))) rfl) (fun k hk => ?_)
    | refine ACall.row0 (id := 0) rfl ?_
    | refine ACall.row1 (id := 1) rfl ?_
    | refine ACall.useIs [2, 3] (sameInts_call _ _ ?_) rfl (.cons (.same rfl rfl) (.cons (.same rfl rfl) (.nil _))) rfl ?_
    | refine Ret.bool [0, 1] ?_ (.cons (.same rfl rfl) (.cons (.same rfl rfl) (.nil _))) rfl
    | refine roundEnd (k + 1) ?_ ?_ (Weak.of [0, 1] (.cons rfl rfl (.cons rfl rfl (.cons rfl rfl (.cons rfl rfl .nil)))) (.cons (.same rfl rfl) (.cons (.same rfl rfl) (.nil _))) rfl)
    | refine VC.mk ?_ ?_
  all_goals try simp only [decide_eq_true_eq, decide_eq_false_iff_not, Bool.not_eq_true', Bool.not_eq_false', cond_true, cond_false, eqB_true, eqB_false] at *
  all_goals try simp only [in64, idxAdd_zero_left, Int.toNat_natCast, fillTo_length, Int.ofNat_lt, Int.ofNat_le, Int.natCast_inj] at *
  all_goals try have hrow := ha.row k
  all_goals try have hrl := ha.len
  all_goals first
    | omega
    | exact ⟨rfl, trivial⟩
    | (have := hk.1; have := hk.2.1; omega)
    | exact Same.zero (by omega)
    | (rw [eq_comm, eqB_false]; intro e; subst e; omega)
    | (rw [eq_comm, eqB_true]; exact hk.eq (by omega))
    | (have h1 := hk.1; have h2 : k < a.length := by omega
       have h3 : k < b.length := by omega
       simp only [getD_get h2, getD_get h3] at *
       first
       | exact hk.next h2 h3 (by assumption)
       | (rw [eq_comm, eqB_false]; intro e; subst e; simp_all))

theorem bool_split {G : Prop} (b : Bool) (h1 : b = true → G) (h2 : b = false → G) : G := by cases h : b; exact h2 h; exact h1 h
theorem gain_T {l : List S3} (h : fine l = true) : hasGain l = false ∧ goodRoads l = true := by rw [fine_gain] at h; simp at h; exact ⟨h.2, h.1⟩
theorem gain_G {l : List S3} (h : fine l = false) (hg : goodRoads l = true) : hasGain l = true := by rw [fine_gain, hg] at h; simpa using h
theorem gain_B {l : List S3} (hg : goodRoads l = false) : hasGain l = false := by unfold hasGain; rw [hg]; rfl
theorem fine_B {l : List S3} (hg : goodRoads l = false) : fine l = false := by rw [fine_gain, hg]; rfl
theorem cf_T {l : List S3} (h : fine l = true) {k : Nat} (hk : k < 8) : cfOf l (k : Int) = costFrom l k ∧ cfOk l (k : Int) = true ∧ (costFrom l k).length = 8 := by
  have hb : btw 0 7 (k : Int) = true := by rw [btw_iff]; omega
  refine ⟨by rw [cfOf_eq h hb, Int.toNat_natCast], by unfold cfOk; rw [h, hb]; rfl, (costFrom_ok (fine_good h) k).len⟩
theorem sameIntsE_call (a b : List Int) (n m : Nat) (hn : n = a.length) (hm : m = b.length) (h : a = b) (ha : n ≤ 1048576) : ACall Try.prog 39 [.slice ⟨0, 0, 0, 1, 0⟩ n, .slice ⟨1, 0, 0, 1, 0⟩ m] [.arr true .int a, .arr true .int b] (Is (.bool true) [.arr true .int a, .arr true .int b]) := by
  subst h hn hm
  have h := sameInts_call a a ha
  rwa [show eqB a a = true by rw [eqB_true]] at h
theorem sameListsE_call (a : List (List Int)) (n : Nat) (hn : n = a.length) (ha : SmallR a) : ACall Try.prog 38 [.slice ⟨0, 0, 0, 1, 0⟩ n, .slice ⟨1, 0, 0, 1, 0⟩ n] [.rows true a, .rows true a] (Is (.bool true) [.rows true a, .rows true a]) := by
  subst hn
  have h := sameLists_call a a ha
  rwa [show eqB a a = true by rw [eqB_true]] at h
theorem smallR_nil : SmallR [] := SmallR.few (n := 0) (b := 0) (by simp) (fun r hr => by cases hr) (by decide) (by decide)
theorem acN_small {l : List S3} (h : fine l = true) : SmallR (acN l 8) := by rw [← acOf_eq h]; exact acOf_small l

theorem implAllT_call (l : List S3) (hf : fine l = true) (hl : l.length ≤ 1048576) : ACall Try.prog 31 [.slice ⟨0, 0, 0, 3, 0⟩ l.length] [.arr true .s3 l] (Is (.tuple [.slice ⟨1, 0, 0, 1, 0⟩ 8, .bool true]) [.arr true .s3 l, .rows false (acN l 8)]) := by
  have h := implAll_call l hl
  rw [hf, acOf_eq hf, acN_len] at h
  exact h

theorem implAllF_call (l : List S3) (hf : fine l = false) (hl : l.length ≤ 1048576) : ACall Try.prog 31 [.slice ⟨0, 0, 0, 3, 0⟩ l.length] [.arr true .s3 l] (Is (.tuple [.slice ⟨1, 0, 0, 1, 0⟩ 0, .bool false]) [.arr true .s3 l, .rows false []]) := by
  have h := implAll_call l hl
  rw [hf, acOf_none hf] at h
  exact h

theorem implGainT_call (l : List S3) (hf : fine l = true) (hl : l.length ≤ 1048576) : ACall Try.prog 18 [.slice ⟨0, 0, 0, 3, 0⟩ l.length] [.arr true .s3 l] (Is (.tuple [.bool false, .bool true]) [.arr true .s3 l]) := by
  have h := implHasGain_call l hl
  rw [(gain_T hf).1, (gain_T hf).2] at h
  exact h

theorem implGainG_call (l : List S3) (hf : fine l = false) (hg : goodRoads l = true) (hl : l.length ≤ 1048576) : ACall Try.prog 18 [.slice ⟨0, 0, 0, 3, 0⟩ l.length] [.arr true .s3 l] (Is (.tuple [.bool true, .bool true]) [.arr true .s3 l]) := by
  have h := implHasGain_call l hl
  rw [gain_G hf hg, hg] at h
  exact h

theorem implGainB_call (l : List S3) (hg : goodRoads l = false) (hl : l.length ≤ 1048576) : ACall Try.prog 18 [.slice ⟨0, 0, 0, 3, 0⟩ l.length] [.arr true .s3 l] (Is (.tuple [.bool false, .bool false]) [.arr true .s3 l]) := by
  have h := implHasGain_call l hl
  rw [gain_B hg, hg] at h
  exact h

theorem implWayT_call (l : List S3) (f t : Int) (ho : okWay l f t = true) (hl : l.length ≤ 1048576) : ACall Try.prog 36 [.slice ⟨0, 0, 0, 3, 0⟩ l.length, .int .i64 f, .int .i64 t] [.arr true .s3 l] (Is (.tuple [.slice ⟨1, 0, 0, 1, 0⟩ (wayL l f t).length, .bool true]) [.arr true .s3 l, .arr false .int (wayL l f t)]) := by
  have h := implWay_call l f t hl
  rw [ho] at h
  exact h

theorem implWayF_call (l : List S3) (f t : Int) (ho : okWay l f t = false) (hl : l.length ≤ 1048576) : ACall Try.prog 36 [.slice ⟨0, 0, 0, 3, 0⟩ l.length, .int .i64 f, .int .i64 t] [.arr true .s3 l] (Is (.tuple [.slice ⟨1, 0, 0, 1, 0⟩ 0, .bool false]) [.arr true .s3 l, .arr false .int []]) := by
  have h := implWay_call l f t hl
  rw [ho, way_nil f t ho] at h
  exact h

theorem specAllT_call (l : List S3) (hf : fine l = true) (hl : l.length ≤ 1048576) : ACall Try.prog 30 [.slice ⟨0, 0, 0, 3, 0⟩ l.length] [.arr true .s3 l] (Is (.tuple [.slice ⟨1, 0, 0, 1, 0⟩ 8, .bool true]) [.arr true .s3 l, .rows false (acN l 8)]) := by
  have h := specAll_call l hl
  rw [hf, acOf_eq hf, acN_len] at h
  exact h

theorem specAllF_call (l : List S3) (hf : fine l = false) (hl : l.length ≤ 1048576) : ACall Try.prog 30 [.slice ⟨0, 0, 0, 3, 0⟩ l.length] [.arr true .s3 l] (Is (.tuple [.slice ⟨1, 0, 0, 1, 0⟩ 0, .bool false]) [.arr true .s3 l, .rows false []]) := by
  have h := specAll_call l hl
  rw [hf, acOf_none hf] at h
  exact h

theorem specGainT_call (l : List S3) (hf : fine l = true) (hl : l.length ≤ 1048576) : ACall Try.prog 17 [.slice ⟨0, 0, 0, 3, 0⟩ l.length] [.arr true .s3 l] (Is (.tuple [.bool false, .bool true]) [.arr true .s3 l]) := by
  have h := specHasGain_call l hl
  rw [(gain_T hf).1, (gain_T hf).2] at h
  exact h

theorem specGainG_call (l : List S3) (hf : fine l = false) (hg : goodRoads l = true) (hl : l.length ≤ 1048576) : ACall Try.prog 17 [.slice ⟨0, 0, 0, 3, 0⟩ l.length] [.arr true .s3 l] (Is (.tuple [.bool true, .bool true]) [.arr true .s3 l]) := by
  have h := specHasGain_call l hl
  rw [gain_G hf hg, hg] at h
  exact h

theorem specGainB_call (l : List S3) (hg : goodRoads l = false) (hl : l.length ≤ 1048576) : ACall Try.prog 17 [.slice ⟨0, 0, 0, 3, 0⟩ l.length] [.arr true .s3 l] (Is (.tuple [.bool false, .bool false]) [.arr true .s3 l]) := by
  have h := specHasGain_call l hl
  rw [gain_B hg, hg] at h
  exact h

theorem specWayT_call (l : List S3) (f t : Int) (ho : okWay l f t = true) (hl : l.length ≤ 1048576) : ACall Try.prog 35 [.slice ⟨0, 0, 0, 3, 0⟩ l.length, .int .i64 f, .int .i64 t] [.arr true .s3 l] (Is (.tuple [.slice ⟨1, 0, 0, 1, 0⟩ (wayL l f t).length, .bool true]) [.arr true .s3 l, .arr false .int (wayL l f t)]) := by
  have h := specWay_call l f t hl
  rw [ho] at h
  exact h

theorem specWayF_call (l : List S3) (f t : Int) (ho : okWay l f t = false) (hl : l.length ≤ 1048576) : ACall Try.prog 35 [.slice ⟨0, 0, 0, 3, 0⟩ l.length, .int .i64 f, .int .i64 t] [.arr true .s3 l] (Is (.tuple [.slice ⟨1, 0, 0, 1, 0⟩ 0, .bool false]) [.arr true .s3 l, .arr false .int []]) := by
  have h := specWay_call l f t hl
  rw [ho, way_nil f t ho] at h
  exact h

theorem goodT_call (l : List S3) (hg : goodRoads l = true) (hl : l.length ≤ 1048576) : ACall Try.prog 15 [.slice ⟨0, 0, 0, 3, 0⟩ l.length] [.arr true .s3 l] (Is (.bool true) [.arr true .s3 l]) := by
  have h := implGoodRoads_call l hl
  rw [hg] at h
  exact h

theorem goodF_call (l : List S3) (hg : goodRoads l = false) (hl : l.length ≤ 1048576) : ACall Try.prog 15 [.slice ⟨0, 0, 0, 3, 0⟩ l.length] [.arr true .s3 l] (Is (.bool false) [.arr true .s3 l]) := by
  have h := implGoodRoads_call l hl
  rw [hg] at h
  exact h

theorem costT_call (l : List S3) (k : Nat) (hf : fine l = true) (hk : k < 8) (hl : l.length ≤ 1048576) : ACall Try.prog 29 [.slice ⟨0, 0, 0, 3, 0⟩ l.length, .int .i64 (k : Nat)] [.arr true .s3 l] (Is (.tuple [.slice ⟨1, 0, 0, 1, 0⟩ 8, .bool true]) [.arr true .s3 l, .arr false .int (costFrom l k)]) := by
  have h := implCostFrom_call l k hl
  rw [(cf_T hf hk).1, (cf_T hf hk).2.1, (cf_T hf hk).2.2] at h
  exact h

theorem costI_call (l : List S3) (f : Int) (hf : fine l = true) (hk : 0 ≤ f ∧ f < 8) (hl : l.length ≤ 1048576) : ACall Try.prog 29 [.slice ⟨0, 0, 0, 3, 0⟩ l.length, .int .i64 f] [.arr true .s3 l] (Is (.tuple [.slice ⟨1, 0, 0, 1, 0⟩ 8, .bool true]) [.arr true .s3 l, .arr false .int (costFrom l f.toNat)]) := by
  have h := costT_call l f.toNat hf (by omega) hl
  rwa [show ((f.toNat : Nat) : Int) = f by omega] at h

theorem lawAllCosts2_call (code more : List Int) (hcode : ∀ x ∈ code, 0 ≤ x ∧ x ≤ 255) (hmore : ∀ x ∈ more, 0 ≤ x ∧ x ≤ 255) : ACall Try.prog 10 [.slice ⟨0, 0, 0, 1, 0⟩ code.length, .slice ⟨1, 0, 0, 1, 0⟩ more.length] [.arr true .byte code, .arr true .byte more] (Is (.bool true) [.arr true .byte code, .arr true .byte more]) := by
  refine ACall.walk T Try.func10 Try.ntmps10 Try.results10 rfl rfl rfl (Is.nv _ _) ?_
  repeat' (conv => whnf); first
    | refine AWP.regX (id := 1) T 4 rfl ?_
    | refine AWP.seqTo (x := .seq _ (.cond (.tmp 96) _ _)) (fun _ : Unit => St.of [(1, .slice ⟨1, 0, 0, 1, 0⟩ more.length)] [.arr true .byte code, .arr true .byte more]) (fun _ => True) ?_ (fun _ _ => ?_)
    | refine ⟨(), _, trivial, Weak.of [0, 1] (.cons rfl rfl .nil) (.cons (.same rfl rfl) (.cons (.same rfl rfl) (.nil _))) rfl⟩
    | refine AWP.seq ?_
    | refine AWP.reg T rfl ?_
    | refine AWP.drw T none rfl rfl rfl ?_
    | refine AWP.dep T none rfl rfl rfl rfl ?_
    | refine AWP.block ?_
    | refine AWP.condT rfl ?_
    | refine AWP.condF rfl ?_
    | refine AWP.cond rfl (fun hb => ?_) (fun hb => ?_)
    | refine AWP.ret ?_
    | refine AWP.exit ?_
    | refine AWP.skip ?_
    | refine GuardB.t ?_
    | refine GuardB.f ?_
    | refine GuardB.mk (fun hb => ?_) (fun hb => ?_)
    | refine NilQ.mk (fun hb => ?_) ?_
    | refine VC.mk Nat.zero_lt_one ?_
    | refine VC.mk rfl ?_
    | refine ACall.useEx [0] (drawAllCosts_call code hcode) rfl (.cons (.same rfl rfl) (.nil _)) rfl (fun l hl => bool_split (goodRoads l) (fun hg => bool_split (fine l) (fun hf => ?_) (fun hf => ?_)) (fun hg => ?_))
    | refine ACall.useEx3 [1] (drawWay_call more hmore) rfl (.cons (.same rfl rfl) (.nil _)) rfl (fun m f t hm => bool_split (okWay m f t) (fun ho => ?_) (fun ho => ?_))
    | refine ACall.useIs [2] (implAllT_call l hf ?_) rfl (.cons (.ro rfl rfl) (.nil _)) rfl ?_
    | refine ACall.useIs [2] (implAllF_call l hf ?_) rfl (.cons (.ro rfl rfl) (.nil _)) rfl ?_
    | refine ACall.useIs [2] (implAllF_call l (fine_B hg) ?_) rfl (.cons (.ro rfl rfl) (.nil _)) rfl ?_
    | refine ACall.useIs [2] (specAllT_call l hf ?_) rfl (.cons (.ro rfl rfl) (.nil _)) rfl ?_
    | refine ACall.useIs [2] (specAllF_call l hf ?_) rfl (.cons (.ro rfl rfl) (.nil _)) rfl ?_
    | refine ACall.useIs [2] (specAllF_call l (fine_B hg) ?_) rfl (.cons (.ro rfl rfl) (.nil _)) rfl ?_
    | refine ACall.useIs [2] (implGainT_call l hf ?_) rfl (.cons (.ro rfl rfl) (.nil _)) rfl ?_
    | refine ACall.useIs [2] (implGainG_call l hf hg ?_) rfl (.cons (.ro rfl rfl) (.nil _)) rfl ?_
    | refine ACall.useIs [2] (implGainB_call l hg ?_) rfl (.cons (.ro rfl rfl) (.nil _)) rfl ?_
    | refine ACall.useIs [2] (specGainT_call l hf ?_) rfl (.cons (.ro rfl rfl) (.nil _)) rfl ?_
    | refine ACall.useIs [2] (specGainG_call l hf hg ?_) rfl (.cons (.ro rfl rfl) (.nil _)) rfl ?_
    | refine ACall.useIs [2] (specGainB_call l hg ?_) rfl (.cons (.ro rfl rfl) (.nil _)) rfl ?_
    | refine ACall.useIs [3, 4] (sameListsE_call _ _ ?_ ?_) rfl (.cons (.rowsRo rfl) (.cons (.rowsRo rfl) (.nil _))) rfl ?_
    | refine ACall.useIs [2] (goodT_call l hg ?_) rfl (.cons (.ro rfl rfl) (.nil _)) rfl ?_
    | refine ACall.useIs [2] (goodF_call l hg ?_) rfl (.cons (.ro rfl rfl) (.nil _)) rfl ?_
    | refine AWP.while (ι := Nat) (fun d => St.of [(1, .slice ⟨1, 0, 0, 1, 0⟩ more.length), (5, .slice ⟨2, 0, 0, 3, 0⟩ l.length), (6, .slice ⟨3, 0, 0, 1, 0⟩ 8), (98, .int .i64 (8 : Nat)), (99, .int .i64 k), (14, .int .i64 k), (168, .int .i64 (8 : Nat)), (169, .int .i64 b), (19, .int .i64 b), (173, .int .i64 (8 : Nat)), (174, .int .i64 d)] [.arr true .byte code, .arr true .byte more, .arr false .s3 l, .rows true (acN l 8)]) (fun d => d ≤ 8) (fun d => 8 - d) 0 (Nat.zero_le _)
        (Weak.of [0, 1, 2, 3] (.cons rfl rfl (.cons rfl rfl (.cons rfl rfl (.cons rfl rfl (.cons rfl rfl (.cons rfl rfl (.cons rfl rfl (.cons rfl rfl (.cons rfl rfl (.cons rfl rfl (.cons rfl rfl .nil))))))))))) (.cons (.same rfl rfl) (.cons (.same rfl rfl) (.cons (.same rfl rfl) (.cons (.same rfl rfl) (.nil _))))) rfl) (fun d hd => ?_)
    | refine AWP.while (ι := Nat) (fun b => St.of [(1, .slice ⟨1, 0, 0, 1, 0⟩ more.length), (5, .slice ⟨2, 0, 0, 3, 0⟩ l.length), (6, .slice ⟨3, 0, 0, 1, 0⟩ 8), (98, .int .i64 (8 : Nat)), (99, .int .i64 k), (14, .int .i64 k), (168, .int .i64 (8 : Nat)), (169, .int .i64 b)] [.arr true .byte code, .arr true .byte more, .arr false .s3 l, .rows true (acN l 8)]) (fun b => b ≤ 8) (fun b => 8 - b) 0 (Nat.zero_le _)
        (Weak.of [0, 1, 2, 3] (.cons rfl rfl (.cons rfl rfl (.cons rfl rfl (.cons rfl rfl (.cons rfl rfl (.cons rfl rfl (.cons rfl rfl (.cons rfl rfl .nil)))))))) (.cons (.same rfl rfl) (.cons (.same rfl rfl) (.cons (.same rfl rfl) (.cons (.same rfl rfl) (.nil _))))) rfl) (fun b hbb => ?_)
    | refine AWP.while (ι := Nat) (fun q => St.of [(1, .slice ⟨1, 0, 0, 1, 0⟩ more.length), (5, .slice ⟨2, 0, 0, 3, 0⟩ l.length), (6, .slice ⟨3, 0, 0, 1, 0⟩ 8), (98, .int .i64 (8 : Nat)), (99, .int .i64 k), (14, .int .i64 k), (129, .slice ⟨2, 0, 0, 3, 0⟩ l.length), (130, .int .i64 l.length), (131, .int .i64 q)] [.arr true .byte code, .arr true .byte more, .arr false .s3 l, .rows true (acN l 8)]) (fun q => q ≤ l.length) (fun q => l.length - q) 0 (Nat.zero_le _)
        (Weak.of [0, 1, 2, 3] (.cons rfl rfl (.cons rfl rfl (.cons rfl rfl (.cons rfl rfl (.cons rfl rfl (.cons rfl rfl (.cons rfl rfl (.cons rfl rfl (.cons rfl rfl .nil))))))))) (.cons (.same rfl rfl) (.cons (.same rfl rfl) (.cons (.same rfl rfl) (.cons (.same rfl rfl) (.nil _))))) rfl) (fun q hq => ?_)
    | refine AWP.while (ι := Nat) (fun k => St.of [(1, .slice ⟨1, 0, 0, 1, 0⟩ more.length), (5, .slice ⟨2, 0, 0, 3, 0⟩ l.length), (6, .slice ⟨3, 0, 0, 1, 0⟩ 8), (98, .int .i64 (8 : Nat)), (99, .int .i64 k)] [.arr true .byte code, .arr true .byte more, .arr false .s3 l, .rows true (acN l 8)]) (fun k => k ≤ 8) (fun k => 8 - k) 0 (Nat.zero_le _)
        (Weak.of [0, 1, 2, 3] (.cons rfl rfl (.cons rfl rfl (.cons rfl rfl (.cons rfl rfl (.cons rfl rfl .nil))))) (.cons (.same rfl rfl) (.cons (.same rfl rfl) (.cons (.same rfl rfl) (.cons (.rowsRo rfl) (.nil _))))) rfl) (fun k hk => ?_)
    | refine ACall.useIs [2] (costT_call l k hf ?_ ?_) rfl (.cons (.ro rfl rfl) (.nil _)) rfl ?_
    | refine ACall.row1 (id := 3) rfl ?_
    | refine ACall.useIs [4, 5] (sameIntsE_call _ _ _ _ ?_ ?_ ?_ ?_) rfl (.cons (.ro rfl rfl) (.cons (.same rfl rfl) (.nil _))) rfl ?_
    | refine roundEnd (d + 1) ?_ ?_ (Weak.of [0, 1, 2, 3] (.cons rfl rfl (.cons rfl rfl (.cons rfl rfl (.cons rfl rfl (.cons rfl rfl (.cons rfl rfl (.cons rfl rfl (.cons rfl rfl (.cons rfl rfl (.cons rfl rfl (.cons rfl rfl .nil))))))))))) (.cons (.same rfl rfl) (.cons (.same rfl rfl) (.cons (.same rfl rfl) (.cons (.same rfl rfl) (.nil _))))) rfl)
    | refine roundEnd (b + 1) ?_ ?_ (Weak.of [0, 1, 2, 3] (.cons rfl rfl (.cons rfl rfl (.cons rfl rfl (.cons rfl rfl (.cons rfl rfl (.cons rfl rfl (.cons rfl rfl (.cons rfl rfl .nil)))))))) (.cons (.same rfl rfl) (.cons (.same rfl rfl) (.cons (.same rfl rfl) (.cons (.same rfl rfl) (.nil _))))) rfl)
    | refine roundEnd (q + 1) ?_ ?_ (Weak.of [0, 1, 2, 3] (.cons rfl rfl (.cons rfl rfl (.cons rfl rfl (.cons rfl rfl (.cons rfl rfl (.cons rfl rfl (.cons rfl rfl (.cons rfl rfl (.cons rfl rfl .nil))))))))) (.cons (.same rfl rfl) (.cons (.same rfl rfl) (.cons (.same rfl rfl) (.cons (.same rfl rfl) (.nil _))))) rfl)
    | refine roundEnd (k + 1) ?_ ?_ (Weak.of [0, 1, 2, 3] (.cons rfl rfl (.cons rfl rfl (.cons rfl rfl (.cons rfl rfl (.cons rfl rfl .nil))))) (.cons (.same rfl rfl) (.cons (.same rfl rfl) (.cons (.same rfl rfl) (.cons (.same rfl rfl) (.nil _))))) rfl)
    | refine XGoal.addW (o := ⟨_, .binOp .add _ _ _ _, _, _, _, _⟩) rfl ?_
    | refine XGoal.list rfl ?_
    | refine ACall.useIs [2] (implWayT_call m f t ho ?_) rfl (.cons (.ro rfl rfl) (.nil _)) rfl ?_
    | refine ACall.useIs [2] (implWayF_call m f t ho ?_) rfl (.cons (.ro rfl rfl) (.nil _)) rfl ?_
    | refine ACall.useIs [2] (specWayT_call m f t ho ?_) rfl (.cons (.ro rfl rfl) (.nil _)) rfl ?_
    | refine ACall.useIs [2] (specWayF_call m f t ho ?_) rfl (.cons (.ro rfl rfl) (.nil _)) rfl ?_
    | refine ACall.useIs [3, 4] (sameIntsE_call _ _ _ _ ?_ ?_ ?_ ?_) rfl (.cons (.ro rfl rfl) (.cons (.ro rfl rfl) (.nil _))) rfl ?_
    | refine ACall.useIs [2] (costI_call m f (told f t ho).fin (told f t ho).fr ?_) rfl (.cons (.ro rfl rfl) (.nil _)) rfl ?_
    | refine AWP.while (ι := Nat) (fun k => St.of [(21, .slice ⟨2, 0, 0, 3, 0⟩ m.length), (23, .int .i64 t), (28, .slice ⟨4, 0, 0, 1, 0⟩ 8), (29, .bool true), (30, .int .i64 (sumK m (wayL m f t) k)), (31, .int .i64 (atC m f (wayL m f t) k)), (264, .slice ⟨3, 0, 0, 1, 0⟩ (wayL m f t).length), (265, .int .i64 (wayL m f t).length), (266, .int .i64 k)] [.arr true .byte code, .arr true .byte more, .arr false .s3 m, .arr false .int (wayL m f t), .arr false .int (costFrom m f.toNat)]) (fun k => k ≤ (wayL m f t).length) (fun k => (wayL m f t).length - k) 0 (Nat.zero_le _)
        (Weak.of [0, 1, 2, 3, 5] (.cons rfl rfl (.cons rfl rfl (.cons rfl rfl (.cons rfl rfl (.i rfl ?_ (.i rfl ?_ (.cons rfl rfl (.cons rfl rfl (.cons rfl rfl .nil))))))))) (.cons (.same rfl rfl) (.cons (.same rfl rfl) (.cons (.same rfl rfl) (.cons (.same rfl rfl) (.cons (.same rfl rfl) (.nil _)))))) rfl) (fun k hk => ?_)
    | refine roundEnd (k + 1) ?_ ?_ (Weak.of [0, 1, 2, 3, 4] (.cons rfl rfl (.cons rfl rfl (.cons rfl rfl (.cons rfl rfl (.i rfl ?_ (.i rfl ?_ (.cons rfl rfl (.cons rfl rfl (.cons rfl rfl .nil))))))))) (.cons (.same rfl rfl) (.cons (.same rfl rfl) (.cons (.same rfl rfl) (.cons (.same rfl rfl) (.cons (.same rfl rfl) (.nil _)))))) rfl)
    | refine Ret.bool [0, 1] ?_ (.cons (.same rfl rfl) (.cons (.same rfl rfl) (.nil _))) rfl
    | refine VC.mk ?_ ?_
  all_goals try simp only [decide_eq_true_eq, decide_eq_false_iff_not, Bool.not_eq_true', Bool.not_eq_false', cond_true, cond_false, eqB_true, eqB_false] at *
  all_goals try simp only [in64, idxAdd_zero_left, Int.toNat_natCast, fillTo_length, Int.ofNat_lt, Int.ofNat_le, Int.natCast_inj] at *
  all_goals try have hal := acN_len l 8
  all_goals try
    have hk8 : k < 8 := by omega
    have hcl := (costFrom_ok (fine_good hf) k).len
    have hcz := cf_zero hf hk8
    simp only [acN_row hk8] at *
  all_goals try
    have hq2 : q < l.length := by omega
    have hrr := road_rng (fine_good hf) q
    have hm : (l.getD q ⟨0, 0, 0⟩) ∈ l := by rw [getD_get hq2]; exact List.getElem_mem hq2
    have hca := cf_rng hf k (k := (l.getD q ⟨0, 0, 0⟩).a.toNat) (by omega)
    have hce := cf_edge hf hk8 hm
  all_goals try
    have hb8 : b < 8 := by omega
    have hcb := (costFrom_ok (fine_good hf) b).len
    simp only [acN_row hb8] at *
    have hcb2 := cf_rng hf k hb8
  all_goals try
    have hd8 : d < 8 := by omega
    have hct := cf_tri hf hk8 hb8 hd8
    have hcd2 := cf_rng hf b hd8
  all_goals try have hto := told f t ho
  all_goals try
    have hk7 : k < (wayL m f t).length := by omega
    have hti := hto.idx k hk7
    have hts := hto.step k hk7
    have hlo := hto.low k (by omega)
    have hrr := road_rng (fine_good hto.fin) ((wayL m f t).getD k 0).toNat
  all_goals try have hte := told_end hto hk (by assumption)
  all_goals first
    | omega
    | exact ⟨by omega, by omega⟩
    | exact Eq.refl true
    | exact List.length_nil.symm
    | exact smallR_nil
    | exact acN_small hf
    | exact ((costFrom_ok (fine_good hf) k).len).symm
    | exact (acN_row (by omega)).symm
    | (have := hto.len; omega)
    | exact (sumK_zero _).symm
    | exact (atC_zero _ _).symm
    | exact (atC_succ _ _ _).symm
    | exact (sumK_succ' (sumK_succ hk7)).symm
    | (rw [eq_comm, decide_eq_true_eq]; omega)
    | (rw [decide_eq_true_eq]; omega)
    | (exfalso; omega)

end YtcljaokjjnmioaaAM
