/- Contracts of functions of this seat. -/
import Derived.Test.YtcljaokjjnmioaaAmTabRoads
import Derived.Test.YtcljaokjjnmioaaAmModels
import Derived.Test.YtcljaokjjnmioaaAmRoads9
import Derived.Test.YtcljaokjjnmioaaAmPotMath
import Derived.Test.YtcljaokjjnmioaaAmSqRoads
set_option linter.unusedVariables false
set_option linter.unusedSimpArgs false
set_option maxRecDepth 100000
set_option maxHeartbeats 4000000
namespace YtcljaokjjnmioaaAM
namespace Sq
open Go Go.Proofs
attribute [local irreducible] NextOk PickOk OneOk AmongOk costFrom acN acOf fine hasGain goodRoads okWay wayL cfOf cfOk redOf potOf potP redF

def T : Tab Try.prog := { YtcljaokjjnmioaaAM.T with sq := fun t => Nat.beq t 51, sqOk := fun t h => by have := Nat.eq_of_beq_eq_true h; subst this; exact sq51 }
theorem red_none {l : List S3} (h : fine l = false) : redOf l = [] := by unfold redOf; rw [if_neg (by rw [h]; simp)]
theorem pot_none {l : List S3} (h : fine l = false) : potOf l = [] := by unfold potOf; rw [if_neg (by rw [h]; simp)]
theorem cf_F {l : List S3} (h : fine l = false) (f : Int) : cfOf l f = [] ∧ cfOk l f = false := by unfold cfOf cfOk; rw [h]; exact ⟨rfl, rfl⟩
theorem pot_rngD {l : List S3} (h : fine l = true) {k : Nat} (hk : k < 8) : -18000 ≤ (potOf l).getD k 0 ∧ (potOf l).getD k 0 ≤ 0 := by rw [pot_at]; exact pot_rng h (by omega)
theorem sq_same (a b c : Int) : ¬ (!(decide (a = a) && decide (b = b) && decide (c = c))) = true := by simp
theorem red_cost {l : List S3} (h : fine l = true) {k : Nat} (hk : k < l.length) : 0 ≤ ((redOf l).getD k ⟨0, 0, 0⟩).c ∧ ((redOf l).getD k ⟨0, 0, 0⟩).c = (l.getD k ⟨0, 0, 0⟩).c + (potOf l).getD (l.getD k ⟨0, 0, 0⟩).a.toNat 0 - (potOf l).getD (l.getD k ⟨0, 0, 0⟩).b.toNat 0 := by
  have hk2 : k < (redOf l).length := by rw [red_len h]; exact hk
  refine ⟨red_nonneg h (by rw [getD_get hk2]; exact List.getElem_mem hk2), ?_⟩
  rw [red_at h hk]
  unfold redF
  rfl

theorem implRedT_call (l : List S3) (hf : fine l = true) (hl : l.length ≤ 1048576) : ACall Try.prog 26 [.slice ⟨0, 0, 0, 3, 0⟩ l.length] [.arr true .s3 l] (Is (.tuple [.slice ⟨1, 0, 0, 3, 0⟩ l.length, .bool true]) [.arr true .s3 l, .arr false .s3 (redOf l)]) := by
  have h := implReducedRoads_call l hl
  rw [hf, red_len hf] at h
  exact h

theorem implRedF_call (l : List S3) (hf : fine l = false) (hl : l.length ≤ 1048576) : ACall Try.prog 26 [.slice ⟨0, 0, 0, 3, 0⟩ l.length] [.arr true .s3 l] (Is (.tuple [.slice ⟨1, 0, 0, 3, 0⟩ 0, .bool false]) [.arr true .s3 l, .arr false .s3 []]) := by
  have h := implReducedRoads_call l hl
  rw [hf, red_none hf] at h
  exact h

theorem implPotT_call (l : List S3) (hf : fine l = true) (hl : l.length ≤ 1048576) : ACall Try.prog 20 [.slice ⟨0, 0, 0, 3, 0⟩ l.length] [.arr true .s3 l] (Is (.tuple [.slice ⟨1, 0, 0, 1, 0⟩ 8, .bool true]) [.arr true .s3 l, .arr false .int (potOf l)]) := by
  have h := implPotentialsOf_call l hl
  rw [hf, potOf_length hf] at h
  exact h

theorem implPotF_call (l : List S3) (hf : fine l = false) (hl : l.length ≤ 1048576) : ACall Try.prog 20 [.slice ⟨0, 0, 0, 3, 0⟩ l.length] [.arr true .s3 l] (Is (.tuple [.slice ⟨1, 0, 0, 1, 0⟩ 0, .bool false]) [.arr true .s3 l, .arr false .int []]) := by
  have h := implPotentialsOf_call l hl
  rw [hf, pot_none hf] at h
  exact h

theorem specRedT_call (l : List S3) (hf : fine l = true) (hl : l.length ≤ 1048576) : ACall Try.prog 25 [.slice ⟨0, 0, 0, 3, 0⟩ l.length] [.arr true .s3 l] (Is (.tuple [.slice ⟨1, 0, 0, 3, 0⟩ l.length, .bool true]) [.arr true .s3 l, .arr false .s3 (redOf l)]) := by
  have h := specReducedRoads_call l hl
  rw [hf, red_len hf] at h
  exact h

theorem specRedF_call (l : List S3) (hf : fine l = false) (hl : l.length ≤ 1048576) : ACall Try.prog 25 [.slice ⟨0, 0, 0, 3, 0⟩ l.length] [.arr true .s3 l] (Is (.tuple [.slice ⟨1, 0, 0, 3, 0⟩ 0, .bool false]) [.arr true .s3 l, .arr false .s3 []]) := by
  have h := specReducedRoads_call l hl
  rw [hf, red_none hf] at h
  exact h

theorem specPotT_call (l : List S3) (hf : fine l = true) (hl : l.length ≤ 1048576) : ACall Try.prog 19 [.slice ⟨0, 0, 0, 3, 0⟩ l.length] [.arr true .s3 l] (Is (.tuple [.slice ⟨1, 0, 0, 1, 0⟩ 8, .bool true]) [.arr true .s3 l, .arr false .int (potOf l)]) := by
  have h := specPotentialsOf_call l hl
  rw [hf, potOf_length hf] at h
  exact h

theorem specPotF_call (l : List S3) (hf : fine l = false) (hl : l.length ≤ 1048576) : ACall Try.prog 19 [.slice ⟨0, 0, 0, 3, 0⟩ l.length] [.arr true .s3 l] (Is (.tuple [.slice ⟨1, 0, 0, 1, 0⟩ 0, .bool false]) [.arr true .s3 l, .arr false .int []]) := by
  have h := specPotentialsOf_call l hl
  rw [hf, pot_none hf] at h
  exact h

theorem costF_call (l : List S3) (f : Int) (hf : fine l = false) (hl : l.length ≤ 1048576) : ACall Try.prog 29 [.slice ⟨0, 0, 0, 3, 0⟩ l.length, .int .i64 f] [.arr true .s3 l] (Is (.tuple [.slice ⟨1, 0, 0, 1, 0⟩ 0, .bool false]) [.arr true .s3 l, .arr false .int []]) := by
  have h := implCostFrom_call l f hl
  rw [(cf_F hf f).1, (cf_F hf f).2] at h
  exact h

theorem costR_call (l : List S3) (n : Nat) (hn : n = l.length) (f : Int) (hf : fine l = true) (hk : 0 ≤ f ∧ f < 8) (hl : n ≤ 1048576) : ACall Try.prog 29 [.slice ⟨0, 0, 0, 3, 0⟩ n, .int .i64 f] [.arr true .s3 l] (Is (.tuple [.slice ⟨1, 0, 0, 1, 0⟩ 8, .bool true]) [.arr true .s3 l, .arr false .int (costFrom l f.toNat)]) := by
  subst hn
  exact costI_call l f hf hk hl
theorem costRF_call (l : List S3) (n : Nat) (hn : n = l.length) (f : Int) (hf : fine l = false) (hl : n ≤ 1048576) : ACall Try.prog 29 [.slice ⟨0, 0, 0, 3, 0⟩ n, .int .i64 f] [.arr true .s3 l] (Is (.tuple [.slice ⟨1, 0, 0, 1, 0⟩ 0, .bool false]) [.arr true .s3 l, .arr false .int []]) := by
  subst hn
  exact costF_call l f hf hl
theorem goodR_call (l : List S3) (n : Nat) (hn : n = l.length) (hg : goodRoads l = false) (hl : n ≤ 1048576) : ACall Try.prog 15 [.slice ⟨0, 0, 0, 3, 0⟩ n] [.arr true .s3 l] (Is (.bool false) [.arr true .s3 l]) := by
  subst hn
  exact goodF_call l hg hl

theorem tmod_rng {x : Int} (h : 0 ≤ x) : 0 ≤ x.tmod 1000003 ∧ x.tmod 1000003 < 1000003 := by
  have := tmod_ok (n := 1000003) h (by decide)
  exact ⟨this.1, this.2.1 (by decide)⟩
theorem tmod8 {x : Int} (h : 0 ≤ x) : 0 ≤ x.tmod 8 ∧ x.tmod 8 < 8 := by
  have := tmod_ok (n := 8) h (by decide)
  exact ⟨this.1, this.2.1 (by decide)⟩
theorem number_call (code : List Int) (hcode : ∀ x ∈ code, 0 ≤ x ∧ x ≤ 255) (hl : code.length ≤ 9223372036854775807) : ACall Try.prog 42 [.slice ⟨0, 0, 0, 1, 0⟩ code.length] [.arr true .byte code] (Ex (ι := Int) (fun i => .int .i64 i) (fun i => [.arr true .byte code]) (fun i => 0 ≤ i ∧ i < 1000003)) := by
  refine ACall.walk T Try.func42 Try.ntmps42 Try.results42 rfl rfl rfl (Ex.nv 0 ⟨by decide, by decide⟩) ?_
  repeat' (conv => whnf); first
    | refine AWP.seq ?_
    | refine AWP.reg T rfl ?_
    | refine AWP.drw T none rfl rfl rfl ?_
    | refine AWP.dep T none rfl rfl rfl rfl ?_
    | refine AWP.block ?_
    | refine AWP.condT rfl ?_
    | refine AWP.condF rfl ?_
    | refine AWP.cond rfl (fun hb => ?_) (fun hb => ?_)
    | refine AWP.ret ?_
    | refine AWP.exit ?_
    | refine AWP.skip ?_
    | refine GuardB.t ?_
    | refine GuardB.f ?_
    | refine GuardB.mk (fun hb => ?_) (fun hb => ?_)
    | refine NilQ.mk (fun hb => ?_) ?_
    | refine VC.mk Nat.zero_lt_one ?_
    | refine VC.mk rfl ?_
    | refine AWP.while (ι := Int × Nat) (fun g => St.of [(3, .int .i64 g.1), (6, .slice ⟨0, 0, 0, 1, 0⟩ code.length), (7, .int .i64 code.length), (8, .int .i64 (g.2 : Nat))] [.arr true .byte code]) (fun g => g.2 ≤ code.length ∧ 0 ≤ g.1 ∧ g.1 < 1000003) (fun g => code.length - g.2) (0, 0) ⟨Nat.zero_le _, by decide, by decide⟩
        (Weak.of [0] (.cons rfl rfl (.cons rfl rfl (.cons rfl rfl (.cons rfl rfl .nil)))) (.cons (.same rfl rfl) (.nil _)) rfl) (fun g hg => ?_)
    | refine roundEnd (_, g.2 + 1) ?_ ?_ (Weak.of [0] (.cons rfl rfl (.cons rfl rfl (.cons rfl rfl (.i rfl ?_ .nil)))) (.cons (.same rfl rfl) (.nil _)) rfl)
    | refine Ret.ex [0] _ ?_ rfl (.cons (.same rfl rfl) (.nil _)) rfl
    | refine VC.mk ?_ ?_
  all_goals try simp only [decide_eq_true_eq, decide_eq_false_iff_not, Bool.not_eq_true', Bool.not_eq_false', cond_true, cond_false, eqB_true, eqB_false] at *
  all_goals try simp only [in64, idxAdd_zero_left, Int.toNat_natCast, fillTo_length, Int.ofNat_lt, Int.ofNat_le, Int.natCast_inj] at *
  all_goals try have hby := byte_at hcode g.2
  all_goals first
    | omega
    | exact ⟨by omega, by omega⟩
    | exact ⟨by omega, tmod_rng (by omega)⟩
    | exact ⟨hg.2.1, hg.2.2⟩

theorem lawPotentials2_call (code more : List Int) (hcode : ∀ x ∈ code, 0 ≤ x ∧ x ≤ 255) (hmore : ∀ x ∈ more, 0 ≤ x ∧ x ≤ 255) (hm : more.length ≤ 9223372036854775807) : ACall Try.prog 11 [.slice ⟨0, 0, 0, 1, 0⟩ code.length, .slice ⟨1, 0, 0, 1, 0⟩ more.length] [.arr true .byte code, .arr true .byte more] (Is (.bool true) [.arr true .byte code, .arr true .byte more]) := by
  refine ACall.walk T Try.func11 Try.ntmps11 Try.results11 rfl rfl rfl (Is.nv _ _) ?_
  repeat' (conv => whnf); first
    | refine AWP.regX (id := 1) T 4 rfl ?_
    | refine AWP.cond rfl (fun hb => absurd (of_decide_eq_true hb) (by omega)) (fun hb => ?_)
    | refine GuardB.mk (fun hb => absurd hb (sq_same _ _ _)) (fun hb => ?_)
    | refine AWP.seq ?_
    | refine AWP.reg T rfl ?_
    | refine AWP.drw T none rfl rfl rfl ?_
    | refine AWP.dep T none rfl rfl rfl rfl ?_
    | refine AWP.block ?_
    | refine AWP.condT rfl ?_
    | refine AWP.condF rfl ?_
    | refine AWP.cond rfl (fun hb => ?_) (fun hb => ?_)
    | refine AWP.ret ?_
    | refine AWP.exit ?_
    | refine AWP.skip ?_
    | refine GuardB.t ?_
    | refine GuardB.f ?_
    | refine GuardB.mk (fun hb => ?_) (fun hb => ?_)
    | refine NilQ.mk (fun hb => ?_) ?_
    | refine VC.mk Nat.zero_lt_one ?_
    | refine VC.mk rfl ?_
    | refine ACall.useEx [0] (drawReducedRoads_call code hcode) rfl (.cons (.same rfl rfl) (.nil _)) rfl (fun l hl => bool_split (fine l) (fun hf => ?_) (fun hf => ?_))
    | refine ACall.useIs [2] (implRedT_call l hf ?_) rfl (.cons (.ro rfl rfl) (.nil _)) rfl ?_
    | refine ACall.useIs [2] (implRedF_call l hf ?_) rfl (.cons (.ro rfl rfl) (.nil _)) rfl ?_
    | refine ACall.useIs [2] (specRedT_call l hf ?_) rfl (.cons (.ro rfl rfl) (.nil _)) rfl ?_
    | refine ACall.useIs [2] (specRedF_call l hf ?_) rfl (.cons (.ro rfl rfl) (.nil _)) rfl ?_
    | refine ACall.useIs [2] (implPotT_call l hf ?_) rfl (.cons (.ro rfl rfl) (.nil _)) rfl ?_
    | refine ACall.useIs [2] (implPotF_call l hf ?_) rfl (.cons (.ro rfl rfl) (.nil _)) rfl ?_
    | refine ACall.useIs [2] (specPotT_call l hf ?_) rfl (.cons (.ro rfl rfl) (.nil _)) rfl ?_
    | refine ACall.useIs [2] (specPotF_call l hf ?_) rfl (.cons (.ro rfl rfl) (.nil _)) rfl ?_
    | refine ACall.useIs [5, 6] (sameIntsE_call _ _ _ _ ?_ ?_ ?_ ?_) rfl (.cons (.ro rfl rfl) (.cons (.ro rfl rfl) (.nil _))) rfl ?_
    | refine AWP.while (ι := Nat) (fun k => St.of [(10, .slice ⟨5, 0, 0, 1, 0⟩ 8), (17, .int .i64 (nn.tmod 8)), (18, .slice ⟨6, 0, 0, 1, 0⟩ 8), (20, .slice ⟨7, 0, 0, 1, 0⟩ 8), (168, .int .i64 (8 : Nat)), (169, .int .i64 k)] [.arr true .byte code, .arr true .byte more, .arr false .s3 l, .arr true .s3 (redOf l), .arr true .s3 (redOf l), .arr true .int (potOf l), .arr true .int (costFrom l (nn.tmod 8).toNat), .arr true .int (costFrom (redOf l) (nn.tmod 8).toNat)]) (fun k => k ≤ 8) (fun k => 8 - k) 0 (Nat.zero_le _)
        (Weak.of [0, 1, 2, 3, 4, 5, 6, 7] (.cons rfl rfl (.cons rfl rfl (.cons rfl rfl (.cons rfl rfl (.cons rfl rfl (.cons rfl rfl .nil)))))) (.cons (.same rfl rfl) (.cons (.same rfl rfl) (.cons (.same rfl rfl) (.cons (.same rfl rfl) (.cons (.same rfl rfl) (.cons (.same rfl rfl) (.cons (.ro rfl rfl) (.cons (.ro rfl rfl) (.nil _))))))))) rfl) (fun k hk => ?_)
    | refine AWP.while (ι := Nat) (fun k => St.of [(1, .slice ⟨1, 0, 0, 1, 0⟩ more.length), (5, .slice ⟨2, 0, 0, 3, 0⟩ l.length), (6, .slice ⟨3, 0, 0, 3, 0⟩ l.length), (7, .bool true), (8, .slice ⟨4, 0, 0, 3, 0⟩ l.length), (10, .slice ⟨5, 0, 0, 1, 0⟩ 8), (136, .slice ⟨5, 0, 0, 1, 0⟩ 8), (137, .int .i64 (8 : Nat)), (138, .int .i64 k)] [.arr true .byte code, .arr true .byte more, .arr false .s3 l, .arr true .s3 (redOf l), .arr true .s3 (redOf l), .arr true .int (potOf l)]) (fun k => k ≤ 8) (fun k => 8 - k) 0 (Nat.zero_le _)
        (Weak.of [0, 1, 2, 3, 4, 5] (.cons rfl rfl (.cons rfl rfl (.cons rfl rfl (.cons rfl rfl (.cons rfl rfl (.cons rfl rfl (.cons rfl rfl (.cons rfl rfl (.cons rfl rfl .nil))))))))) (.cons (.same rfl rfl) (.cons (.same rfl rfl) (.cons (.same rfl rfl) (.cons (.same rfl rfl) (.cons (.same rfl rfl) (.cons (.same rfl rfl) (.nil _))))))) rfl) (fun k hk => ?_)
    | refine AWP.while (ι := Nat) (fun k => St.of [(1, .slice ⟨1, 0, 0, 1, 0⟩ more.length), (5, .slice ⟨2, 0, 0, 3, 0⟩ l.length), (6, .slice ⟨3, 0, 0, 3, 0⟩ l.length), (7, .bool true), (8, .slice ⟨4, 0, 0, 3, 0⟩ l.length), (10, .slice ⟨5, 0, 0, 1, 0⟩ 8), (78, .int .i64 l.length), (79, .int .i64 k)] [.arr true .byte code, .arr true .byte more, .arr false .s3 l, .arr true .s3 (redOf l), .arr true .s3 (redOf l), .arr true .int (potOf l)]) (fun k => k ≤ l.length) (fun k => l.length - k) 0 (Nat.zero_le _)
        (Weak.of [0, 1, 2, 3, 4, 5] (.cons rfl rfl (.cons rfl rfl (.cons rfl rfl (.cons rfl rfl (.cons rfl rfl (.cons rfl rfl (.cons rfl rfl (.cons rfl rfl .nil)))))))) (.cons (.same rfl rfl) (.cons (.same rfl rfl) (.cons (.same rfl rfl) (.cons (.ro rfl rfl) (.cons (.ro rfl rfl) (.cons (.ro rfl rfl) (.nil _))))))) rfl) (fun k hk => ?_)
    | refine AWP.while (ι := Nat) (fun k => St.of [(7, .bool false), (10, .slice ⟨5, 0, 0, 1, 0⟩ 0), (78, .int .i64 (0 : Nat)), (79, .int .i64 k)] [.arr true .byte code, .arr true .byte more, .arr false .s3 l, .arr true .s3 [], .arr true .s3 [], .arr true .int []]) (fun k => k ≤ 0) (fun k => 0 - k) 0 (Nat.zero_le _)
        (Weak.of [0, 1, 2, 3, 4, 5] (.cons rfl rfl (.cons rfl rfl (.cons rfl rfl (.cons rfl rfl .nil)))) (.cons (.same rfl rfl) (.cons (.same rfl rfl) (.cons (.same rfl rfl) (.cons (.ro rfl rfl) (.cons (.ro rfl rfl) (.cons (.ro rfl rfl) (.nil _))))))) rfl) (fun k hk => ?_)
    | refine roundEnd (k + 1) ?_ ?_ (Weak.of [0, 1, 2, 3, 4, 5] (.cons rfl rfl (.cons rfl rfl (.cons rfl rfl (.cons rfl rfl (.cons rfl rfl (.cons rfl rfl (.cons rfl rfl (.cons rfl rfl .nil)))))))) (.cons (.same rfl rfl) (.cons (.same rfl rfl) (.cons (.same rfl rfl) (.cons (.same rfl rfl) (.cons (.same rfl rfl) (.cons (.same rfl rfl) (.nil _))))))) rfl)
    | refine roundEnd (k + 1) ?_ ?_ (Weak.of [0, 1, 2, 3, 4, 5] (.cons rfl rfl (.cons rfl rfl (.cons rfl rfl (.cons rfl rfl (.cons rfl rfl (.cons rfl rfl (.cons rfl rfl (.cons rfl rfl (.cons rfl rfl .nil))))))))) (.cons (.same rfl rfl) (.cons (.same rfl rfl) (.cons (.same rfl rfl) (.cons (.same rfl rfl) (.cons (.same rfl rfl) (.cons (.same rfl rfl) (.nil _))))))) rfl)
    | refine roundEnd (k + 1) ?_ ?_ (Weak.of [0, 1, 2, 3, 4, 5, 6, 7] (.cons rfl rfl (.cons rfl rfl (.cons rfl rfl (.cons rfl rfl (.cons rfl rfl (.cons rfl rfl .nil)))))) (.cons (.same rfl rfl) (.cons (.same rfl rfl) (.cons (.same rfl rfl) (.cons (.same rfl rfl) (.cons (.same rfl rfl) (.cons (.same rfl rfl) (.cons (.same rfl rfl) (.cons (.same rfl rfl) (.nil _))))))))) rfl)
    | refine ACall.useEx [1] (number_call more hmore ?_) rfl (.cons (.same rfl rfl) (.nil _)) rfl (fun nn hnn => bool_split (fine (redOf l)) (fun hr => ?_) (fun hr => ?_))
    | refine ACall.useIs [2] (costI_call l (nn.tmod 8) hf (tmod8 hnn.1) ?_) rfl (.cons (.ro rfl rfl) (.nil _)) rfl ?_
    | refine ACall.useIs [3] (costR_call (redOf l) l.length (red_len hf).symm (nn.tmod 8) hr (tmod8 hnn.1) ?_) rfl (.cons (.same rfl rfl) (.nil _)) rfl ?_
    | refine ACall.useIs [3] (costRF_call (redOf l) l.length (red_len hf).symm (nn.tmod 8) hr ?_) rfl (.cons (.same rfl rfl) (.nil _)) rfl ?_
    | refine ACall.useIs [3] (goodR_call (redOf l) l.length (red_len hf).symm (red_not hf hr) ?_) rfl (.cons (.same rfl rfl) (.nil _)) rfl ?_
    | refine XGoal.addW (o := ⟨_, .binOp .add _ _ _ _, _, _, _, _⟩) rfl ?_
    | refine XGoal.list rfl ?_
    | refine Ret.bool [0, 1] ?_ (.cons (.same rfl rfl) (.cons (.same rfl rfl) (.nil _))) rfl
    | refine VC.mk ?_ ?_
  all_goals try simp only [decide_eq_true_eq, decide_eq_false_iff_not, Bool.not_eq_true', Bool.not_eq_false', cond_true, cond_false, eqB_true, eqB_false] at *
  all_goals try simp only [in64, idxAdd_zero_left, Int.toNat_natCast, fillTo_length, Int.ofNat_lt, Int.ofNat_le, Int.natCast_inj] at *
  all_goals try have hpl := potOf_length hf
  all_goals try have hrl := red_len hf
  all_goals try
    have hk2 : k < l.length := by omega
    have hrr := road_rng (fine_good hf) k
    have hrc := red_cost hf hk2
    have hpa := pot_rngD hf (k := (l.getD k ⟨0, 0, 0⟩).a.toNat) (by omega)
    have hpb := pot_rngD hf (k := (l.getD k ⟨0, 0, 0⟩).b.toNat) (by omega)
  all_goals try
    have hk8 : k < 8 := by omega
    have hpk := pot_rngD hf hk8
  all_goals try
    have ht8 := tmod8 hnn.1
    have hn8 : (nn.tmod 8).toNat < 8 := by omega
    have hjo := johnson hf hr hn8 hk8
    have hc1 := cf_rng hf (nn.tmod 8).toNat hk8
    have hc2 := cf_rng hr (nn.tmod 8).toNat hk8
    have hpn := pot_rngD hf hn8
    have hl1 := (costFrom_ok (fine_good hf) (nn.tmod 8).toNat).len
    have hl2 := (costFrom_ok (fine_good hr) (nn.tmod 8).toNat).len
  all_goals first
    | omega
    | exact ⟨by omega, by omega⟩
    | exact Eq.refl true
    | exact List.length_nil.symm
    | exact hpl.symm
    | exact tmod8 hnn.1
    | (exfalso; omega)
    | (simp at *; done)
    | (exfalso; simp at *; omega)

end Sq
end YtcljaokjjnmioaaAM
