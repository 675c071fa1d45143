/- Contracts of functions of this seat. -/
import Derived.Test.YtcljaokjjnmioaaAmTabRoads
import Derived.Test.YtcljaokjjnmioaaAmModels
import Derived.Test.YtcljaokjjnmioaaAmRoads4
set_option linter.unusedVariables false
set_option linter.unusedSimpArgs false
set_option maxRecDepth 100000
namespace YtcljaokjjnmioaaAM
open Go Go.Proofs

theorem mul64_call  : ACall Try.prog 74 [.int .u64 1, .int .u64 8] [] (Is (.tuple [.int .u64 0, .int .u64 8]) []) := by
  refine ACall.walk T Try.func74 Try.ntmps74 Try.results74 rfl rfl rfl (Is.nv _ _) ?_
  repeat' (conv => whnf); first
    | refine AWP.seq ?_
    | refine AWP.reg T rfl ?_
    | refine AWP.drw T none rfl rfl rfl ?_
    | refine AWP.block ?_
    | refine AWP.condT rfl ?_
    | refine AWP.condF rfl ?_
    | refine AWP.cond rfl (fun hb => ?_) (fun hb => ?_)
    | refine AWP.ret ?_
    | refine AWP.exit ?_
    | refine AWP.skip ?_
    | refine GuardB.t ?_
    | refine GuardB.f ?_
    | refine GuardB.mk (fun hb => ?_) (fun hb => ?_)
    | refine VC.mk Nat.zero_lt_one ?_
    | refine VC.mk rfl ?_
    | refine Ret.ii [] rfl ?_ ?_ (.nil _) rfl
    | refine VC.mk ?_ ?_
  all_goals decide +kernel

theorem mul_call  : ACall Try.prog 72 [.int .u64 1, .int .u64 8] [] (Is (.tuple [.int .u64 0, .int .u64 8]) []) := by
  refine ACall.walk T Try.func72 Try.ntmps72 Try.results72 rfl rfl rfl (Is.nv _ _) ?_
  repeat' (conv => whnf); first
    | refine AWP.seq ?_
    | refine AWP.reg T rfl ?_
    | refine AWP.drw T none rfl rfl rfl ?_
    | refine AWP.block ?_
    | refine AWP.condT rfl ?_
    | refine AWP.condF rfl ?_
    | refine AWP.cond rfl (fun hb => ?_) (fun hb => ?_)
    | refine AWP.ret ?_
    | refine AWP.exit ?_
    | refine AWP.skip ?_
    | refine GuardB.t ?_
    | refine GuardB.f ?_
    | refine GuardB.mk (fun hb => ?_) (fun hb => ?_)
    | refine VC.mk Nat.zero_lt_one ?_
    | refine VC.mk rfl ?_
    | refine ACall.useIs [] (mul64_call) rfl (.nil _) rfl ?_
    | refine Ret.ii [] rfl ?_ ?_ (.nil _) rfl
    | refine VC.mk ?_ ?_
  all_goals rfl

theorem repeat8_call (v : Int) : ACall Try.prog 67 [.slice ⟨0, 0, 0, 1, 0⟩ 1, .int .i64 8] [.arr true .int [v]] (Is (.slice ⟨1, 0, 0, 1, 0⟩ 8) [.arr true .int [v], .arr false .int (List.replicate 8 v)]) := by
  refine ACall.walk T Try.func67 Try.ntmps67 Try.results67 rfl rfl rfl (Is.nv _ _) ?_
  repeat' (conv => whnf); first
    | refine AWP.seq ?_
    | refine AWP.reg T rfl ?_
    | refine AWP.drw T none rfl rfl rfl ?_
    | refine AWP.block ?_
    | refine AWP.condT rfl ?_
    | refine AWP.condF rfl ?_
    | refine AWP.cond rfl (fun hb => ?_) (fun hb => ?_)
    | refine AWP.ret ?_
    | refine AWP.exit ?_
    | refine AWP.skip ?_
    | refine GuardB.t ?_
    | refine GuardB.f ?_
    | refine GuardB.mk (fun hb => ?_) (fun hb => ?_)
    | refine VC.mk Nat.zero_lt_one ?_
    | refine VC.mk rfl ?_
    | refine ACall.useIs [] (mul_call) rfl (.nil _) rfl ?_
    | refine AWP.while (ι := Nat) (fun k => St.of [(7, .slice ⟨1, 0, 0, 1, 0⟩ 8), (8, .int .i64 k)] [.arr true .int [v], .arr false .int (List.replicate k v ++ List.replicate (8 - k) 0)]) (fun k => k = 1 ∨ k = 2 ∨ k = 4 ∨ k = 8) (fun k => 8 - k) 1 (.inl rfl)
        (Weak.of [0, 2] (.cons rfl rfl (.cons rfl rfl .nil)) (.cons (.same rfl rfl) (.cons (.same rfl rfl) (.nil _))) rfl) (fun k hk => ?_)
    | refine roundEnd (2 * k) ?_ ?_ (Weak.of [0, 1] (.cons rfl rfl (.i rfl ?_ .nil)) (.cons (.same rfl rfl) (.cons (.arr rfl ?_) (.nil _))) rfl)
    | refine Ret.is [0, 1] rfl (.cons (.same rfl rfl) (.cons (.arr rfl ?_) (.nil _))) rfl
    | refine VC.mk ?_ ?_
  all_goals try simp only [in64] at *
  all_goals first
    | decide
    | exact ⟨Nat.le_refl _, by decide⟩
    | (rcases hk with rfl | rfl | rfl | rfl <;> first | rfl | decide | (exfalso; revert hb; decide) | (simp; done))

/-- The costs at the start of the way from a node. -/
def start (n : Nat) : List Int := (List.replicate 8 Far).set n 0
theorem start_ok (n : Nat) : OkC (start n) 0 := by
  refine ⟨by simp [start], fun i hi => ?_, fun i hi => ?_⟩ <;>
  · rw [start, getD_set]
    have hr : (List.replicate 8 Far).getD i 0 = Far := by rw [List.getD_eq_getElem?_getD, List.getElem?_replicate, if_pos hi]; rfl
    rw [hr]
    split <;> simp [Far]
def costFrom (l : List S3) (n : Nat) : List Int := (settleM l 9 (start n)).1
theorem costFrom_ok {l : List S3} (hg : goodRoads l = true) (n : Nat) : OkC (costFrom l n) 18000 := (settleM_ok hg 9 _ 0 (by omega) (start_ok n)).mono (by omega)

theorem costFrom_call (l : List S3) (n : Int) (hg : goodRoads l = true) (hn : 0 ≤ n ∧ n < 8) : ACall Try.prog 57 [.slice ⟨0, 0, 0, 3, 0⟩ l.length, .int .i64 n] [.arr true .s3 l] (Is (.slice ⟨1, 0, 0, 1, 0⟩ 8) [.arr true .s3 l, .arr false .int (costFrom l n.toNat)]) := by
  refine ACall.walk T Try.func57 Try.ntmps57 Try.results57 rfl rfl rfl (Is.nv _ _) ?_
  repeat' (conv => whnf); first
    | refine AWP.seq ?_
    | refine AWP.reg T rfl ?_
    | refine AWP.drw T none rfl rfl rfl ?_
    | refine AWP.block ?_
    | refine AWP.condT rfl ?_
    | refine AWP.condF rfl ?_
    | refine AWP.cond rfl (fun hb => ?_) (fun hb => ?_)
    | refine AWP.ret ?_
    | refine AWP.exit ?_
    | refine AWP.skip ?_
    | refine GuardB.t ?_
    | refine GuardB.f ?_
    | refine GuardB.mk (fun hb => ?_) (fun hb => ?_)
    | refine VC.mk Nat.zero_lt_one ?_
    | refine VC.mk rfl ?_
    | refine ACall.useIs [2] (repeat8_call _) rfl (.cons (.ro rfl rfl) (.nil _)) rfl ?_
    | refine ACall.useIs [0, 3] (settle_call _ (start n.toNat) hg (start_ok _)) rfl (.cons (.same rfl rfl) (.cons (.arr rfl ?_) (.nil _))) rfl ?_
    | refine Ret.is [0, 3] rfl (.cons (.same rfl rfl) (.cons (.same rfl rfl) (.nil _))) rfl
    | refine VC.mk ?_ ?_
  all_goals first
    | omega
    | (simp; omega)
    | rfl

theorem repl_app (k : Nat) (v : Int) : List.replicate (k + 1) v = sub (List.replicate k v) 0 k ++ sub [v] 0 1 := by
  rw [List.replicate_succ']
  simp [sub]

theorem l11From_call (l : List S3) (n : Int) (hg : goodRoads l = true) (hn : 0 ≤ n ∧ n < 8) : ACall Try.prog 54 [.slice ⟨0, 0, 0, 3, 0⟩ l.length, .int .i64 n] [.arr true .s3 l] (Is (.slice ⟨1, 0, 0, 1, 0⟩ 8) [.arr true .s3 l, .arr false .int (costFrom l n.toNat)]) := by
  refine ACall.walk T Try.func54 Try.ntmps54 Try.results54 rfl rfl rfl (Is.nv _ _) ?_
  repeat' (conv => whnf); first
    | refine AWP.seq ?_
    | refine AWP.reg T rfl ?_
    | refine AWP.drw T none rfl rfl rfl ?_
    | refine AWP.block ?_
    | refine AWP.condT rfl ?_
    | refine AWP.condF rfl ?_
    | refine AWP.cond rfl (fun hb => ?_) (fun hb => ?_)
    | refine AWP.ret ?_
    | refine AWP.exit ?_
    | refine AWP.skip ?_
    | refine GuardB.t ?_
    | refine GuardB.f ?_
    | refine GuardB.mk (fun hb => ?_) (fun hb => ?_)
    | refine VC.mk Nat.zero_lt_one ?_
    | refine VC.mk rfl ?_
    | refine AWP.while (ι := Nat) (fun k => St.of [(0, .slice ⟨0, 0, 0, 3, 0⟩ l.length), (1, .int .i64 n), (5, .slice ⟨1, 0, 0, 1, 0⟩ k), (6, .int .i64 k)] [.arr true .s3 l, .arr false .int (List.replicate k Far)]) (fun k => k ≤ 8) (fun k => 8 - k) 0 (Nat.zero_le _)
        (Weak.of [0, 2] (.cons rfl rfl (.cons rfl rfl (.cons rfl rfl (.cons rfl rfl .nil)))) (.cons (.same rfl rfl) (.cons (.same rfl rfl) (.nil _))) rfl) (fun k hk => ?_)
    | refine roundEnd (k + 1) ?_ ?_ (Weak.of [0, 3] (.cons rfl rfl (.cons rfl rfl (.cons rfl rfl (.cons rfl rfl .nil)))) (.cons (.same rfl rfl) (.cons (.arr rfl (repl_app k _)) (.nil _))) rfl)
    | refine ACall.useIs [0, 1] (l11Relax_call _ (start n.toNat) hg (start_ok _)) ?_ (.cons (.same rfl rfl) (.cons (.arrRo rfl ?_) (.nil _))) rfl ?_
    | refine Ret.is [0, 2] rfl (.cons (.same rfl rfl) (.cons (.same rfl rfl) (.nil _))) rfl
    | refine VC.mk ?_ ?_
  all_goals try simp only [decide_eq_true_eq, decide_eq_false_iff_not, Bool.not_eq_true', Bool.not_eq_false', cond_true, cond_false, eqB_true, eqB_false] at *
  all_goals try simp only [in64, idxAdd_zero_left, Int.toNat_natCast, fillTo_length, Int.ofNat_lt, Int.ofNat_le, Int.natCast_inj] at *
  all_goals first
    | omega
    | exact ⟨by simp, by simp, by omega⟩
    | (have e : k = 8 := by omega
       subst e
       first | rfl | (simp; omega))

def cfOf (l : List S3) (n : Int) : List Int := if fine l && btw 0 7 n then costFrom l n.toNat else []
def cfOk (l : List S3) (n : Int) : Bool := fine l && btw 0 7 n
theorem cfOf_le (l : List S3) (n : Int) : (cfOf l n).length ≤ 8 := by
  unfold cfOf
  split
  · rename_i h
    simp only [Bool.and_eq_true] at h
    rw [(costFrom_ok (fine_good h.1) _).len]
    exact Nat.le_refl _
  · simp
theorem cfOf_len {l : List S3} {n : Int} (h1 : fine l = true) (h2 : btw 0 7 n = true) : 8 = (cfOf l n).length := by
  rw [cfOf, if_pos (by simp [h1, h2]), (costFrom_ok (fine_good h1) _).len]
theorem cfOf_eq {l : List S3} {n : Int} (h1 : fine l = true) (h2 : btw 0 7 n = true) : cfOf l n = costFrom l n.toNat := by
  rw [cfOf, if_pos (by simp [h1, h2])]

theorem specCostFrom_call (l : List S3) (n : Int) (hl : l.length ≤ 1048576) : ACall Try.prog 28 [.slice ⟨0, 0, 0, 3, 0⟩ l.length, .int .i64 n] [.arr true .s3 l] (Is (.tuple [.slice ⟨1, 0, 0, 1, 0⟩ (cfOf l n).length, .bool (cfOk l n)]) [.arr true .s3 l, .arr false .int (cfOf l n)]) := by
  refine ACall.walk T Try.func28 Try.ntmps28 Try.results28 rfl rfl rfl (Is.nv _ _) ?_
  repeat' (conv => whnf); first
    | refine AWP.seq ?_
    | refine AWP.reg T rfl ?_
    | refine AWP.drw T none rfl rfl rfl ?_
    | refine AWP.block ?_
    | refine AWP.condT rfl ?_
    | refine AWP.condF rfl ?_
    | refine AWP.cond rfl (fun hb => ?_) (fun hb => ?_)
    | refine AWP.ret ?_
    | refine AWP.exit ?_
    | refine AWP.skip ?_
    | refine GuardB.t ?_
    | refine GuardB.f ?_
    | refine GuardB.mk (fun hb => ?_) (fun hb => ?_)
    | refine VC.mk Nat.zero_lt_one ?_
    | refine VC.mk rfl ?_
    | refine ACall.useIs [0] (l11Fine_call _ ?_) rfl (.cons (.same rfl rfl) (.nil _)) rfl ?_
    | refine ACall.useIs [] (l6Node_call _) rfl (.nil _) rfl ?_
    | refine ACall.useIs [0] (l11From_call _ _ ?_ ?_) rfl (.cons (.same rfl rfl) (.nil _)) rfl ?_
    | refine Ret.sb [0, 2] rfl ?_ ?_ (.cons (.same rfl rfl) (.cons (.arr rfl ?_) (.nil _))) rfl
    | refine VC.mk ?_ ?_
  all_goals try simp only [decide_eq_true_eq, decide_eq_false_iff_not, Bool.not_eq_true', Bool.not_eq_false', cond_true, cond_false, eqB_true, eqB_false] at *
  all_goals try simp only [in64, idxAdd_zero_left, Int.toNat_natCast, fillTo_length, Int.ofNat_lt, Int.ofNat_le, Int.natCast_inj] at *
  all_goals first
    | exact hl
    | (simp_all [btw_iff]; omega)
    | exact fine_good (by simp_all)
    | exact cfOf_len (by simp_all) (by simp_all)
    | exact cfOf_eq (by simp_all) (by simp_all)
    | (simp_all [cfOf, cfOk]; done)
    | (simp_all [btw_iff]; omega)

theorem implCostFrom_call (l : List S3) (n : Int) (hl : l.length ≤ 1048576) : ACall Try.prog 29 [.slice ⟨0, 0, 0, 3, 0⟩ l.length, .int .i64 n] [.arr true .s3 l] (Is (.tuple [.slice ⟨1, 0, 0, 1, 0⟩ (cfOf l n).length, .bool (cfOk l n)]) [.arr true .s3 l, .arr false .int (cfOf l n)]) := by
  refine ACall.walk T Try.func29 Try.ntmps29 Try.results29 rfl rfl rfl (Is.nv _ _) ?_
  repeat' (conv => whnf); first
    | refine AWP.seq ?_
    | refine AWP.reg T rfl ?_
    | refine AWP.drw T none rfl rfl rfl ?_
    | refine AWP.block ?_
    | refine AWP.condT rfl ?_
    | refine AWP.condF rfl ?_
    | refine AWP.cond rfl (fun hb => ?_) (fun hb => ?_)
    | refine AWP.ret ?_
    | refine AWP.exit ?_
    | refine AWP.skip ?_
    | refine GuardB.t ?_
    | refine GuardB.f ?_
    | refine GuardB.mk (fun hb => ?_) (fun hb => ?_)
    | refine VC.mk Nat.zero_lt_one ?_
    | refine VC.mk rfl ?_
    | refine ACall.useIs [0] (calm_call _ ?_) rfl (.cons (.same rfl rfl) (.nil _)) rfl ?_
    | refine ACall.useIs [] (isNode_call _) rfl (.nil _) rfl ?_
    | refine ACall.useIs [0] (costFrom_call _ _ ?_ ?_) rfl (.cons (.same rfl rfl) (.nil _)) rfl ?_
    | refine Ret.sb [0, 2] rfl ?_ ?_ (.cons (.same rfl rfl) (.cons (.arr rfl ?_) (.nil _))) rfl
    | refine VC.mk ?_ ?_
  all_goals try simp only [decide_eq_true_eq, decide_eq_false_iff_not, Bool.not_eq_true', Bool.not_eq_false', cond_true, cond_false, eqB_true, eqB_false] at *
  all_goals try simp only [in64, idxAdd_zero_left, Int.toNat_natCast, fillTo_length, Int.ofNat_lt, Int.ofNat_le, Int.natCast_inj] at *
  all_goals first
    | exact hl
    | (simp_all [btw_iff]; omega)
    | exact fine_good (by simp_all)
    | exact cfOf_len (by simp_all) (by simp_all)
    | exact cfOf_eq (by simp_all) (by simp_all)
    | (simp_all [cfOf, cfOk]; done)
    | (simp_all [btw_iff]; omega)

theorem lawCostFrom_call (l : List S3) (n : Int) (hl : l.length ≤ 9223372036854775807) : ACall Try.prog 7 [.slice ⟨0, 0, 0, 3, 0⟩ l.length, .int .i64 n] [.arr true .s3 l] (Is (.bool true) [.arr true .s3 l]) := by
  refine ACall.walk T Try.func7 Try.ntmps7 Try.results7 rfl rfl rfl (Is.nv _ _) ?_
  repeat' (conv => whnf); first
    | refine AWP.seq ?_
    | refine AWP.reg T rfl ?_
    | refine AWP.drw T none rfl rfl rfl ?_
    | refine AWP.block ?_
    | refine AWP.condT rfl ?_
    | refine AWP.condF rfl ?_
    | refine AWP.cond rfl (fun hb => ?_) (fun hb => ?_)
    | refine AWP.ret ?_
    | refine AWP.exit ?_
    | refine AWP.skip ?_
    | refine GuardB.t ?_
    | refine GuardB.f ?_
    | refine GuardB.mk (fun hb => ?_) (fun hb => ?_)
    | refine VC.mk Nat.zero_lt_one ?_
    | refine VC.mk rfl ?_
    | refine ACall.useIs [0] (szRoadS_call _ _ ?_ ?_) rfl (.cons (.same rfl rfl) (.nil _)) rfl ?_
    | refine ACall.useIs [0] (toRoadS_call _ ?_) rfl (.cons (.same rfl rfl) (.nil _)) rfl ?_
    | refine ACall.useIs [1] (specCostFrom_call _ _ ?_) rfl (.cons (.ro rfl rfl) (.nil _)) rfl ?_
    | refine ACall.useIs [3] (implCostFrom_call _ _ ?_) rfl (.cons (.ro rfl rfl) (.nil _)) rfl ?_
    | refine ACall.useIs [6] (implCostFrom_call _ _ ?_) rfl (.cons (.ro rfl rfl) (.nil _)) rfl ?_
    | refine ACall.useIs [4, 2] (eqIntS_call _ _ ?_) rfl (.cons (.ro rfl rfl) (.cons (.ro rfl rfl) (.nil _))) rfl ?_
    | refine ACall.useIs [7, 2] (eqIntS_call _ _ ?_) rfl (.cons (.ro rfl rfl) (.cons (.ro rfl rfl) (.nil _))) rfl ?_
    | refine ACall.useIs [3, 5] (eqRoadS_call _ _ ?_) rfl (.cons (.ro rfl rfl) (.cons (.ro rfl rfl) (.nil _))) rfl ?_
    | refine ACall.useIs [3] (markRoadS_call _ _ ?_ ?_) rfl (.cons (.same rfl rfl) (.nil _)) rfl ?_
    | refine ACall.useIs [4] (markIntS_call _ _ ?_ ?_) rfl (.cons (.same rfl rfl) (.nil _)) rfl ?_
    | refine ACall.useIs [4] (heldIntS_call _ _ ?_ ?_) rfl (.cons (.ro rfl rfl) (.nil _)) rfl ?_
    | refine Ret.bool [0] ?_ (.cons (.same rfl rfl) (.nil _)) rfl
    | refine VC.mk ?_ ?_
  all_goals try simp only [decide_eq_true_eq, decide_eq_false_iff_not, Bool.not_eq_true', Bool.not_eq_false', cond_true, cond_false, eqB_true, eqB_false] at *
  all_goals try simp only [in64, idxAdd_zero_left, Int.toNat_natCast, fillTo_length, Int.ofNat_lt, Int.ofNat_le, Int.natCast_inj] at *
  all_goals try simp only [marksI_length, marks3_length] at *
  all_goals first
    | rfl
    | omega
    | (have := leftOf_ok (by assumption) (by omega : (1048576 : Int) ≤ 1048576); omega)
    | (have := cfOf_le l n; omega)
    | (simp_all [eqB]; done)
    | (have := cfOf_le l n; simp_all [eqB]; omega)

end YtcljaokjjnmioaaAM
