/- Contracts. -/
import Derived.Test.YtcljaokjjnmioaaAmTabRoads
import Derived.Test.YtcljaokjjnmioaaAmPlain
set_option linter.unusedVariables false
set_option linter.unusedSimpArgs false
set_option maxRecDepth 100000
namespace YtcljaokjjnmioaaAM
open Go Go.Proofs
abbrev s3V (a : S3) : AV := .agg [.int .i64 a.a, .int .i64 a.b, .int .i64 a.c]
theorem toRoad_call (a : S3) : ACall Try.prog 45 [s3V a] [] (Is (s3V a) []) := by
  refine ACall.walk T Try.func45 Try.ntmps45 Try.results45 rfl rfl rfl (Is.nv _ _) ?_
  repeat' (conv => whnf); first
    | refine AWP.seq ?_
    | refine AWP.reg T rfl ?_
    | refine AWP.drw T none rfl rfl ?_
    | refine AWP.block ?_
    | refine AWP.condT rfl ?_
    | refine AWP.condF rfl ?_
    | refine AWP.cond rfl (fun hb => ?_) (fun hb => ?_)
    | refine AWP.ret ?_
    | refine AWP.exit ?_
    | refine AWP.skip ?_
    | refine GuardB.t ?_
    | refine GuardB.f ?_
    | refine GuardB.mk (fun hb => ?_) (fun hb => ?_)
    | refine VC.mk Nat.zero_lt_one ?_
    | refine VC.mk rfl ?_
    | refine Ret.is [] rfl (.nil _) rfl
    | refine VC.mk ?_ ?_
theorem eqRoad_call (a b : S3) : ACall Try.prog 50 [s3V a, s3V b] [] (Is (.bool (eqB a b)) []) := by
  refine ACall.walk T Try.func50 Try.ntmps50 Try.results50 rfl rfl rfl (Is.nv _ _) ?_
  repeat' (conv => whnf); first
    | refine AWP.seq ?_
    | refine AWP.reg T rfl ?_
    | refine AWP.drw T none rfl rfl ?_
    | refine AWP.block ?_
    | refine AWP.condT rfl ?_
    | refine AWP.condF rfl ?_
    | refine AWP.cond rfl (fun hb => ?_) (fun hb => ?_)
    | refine AWP.ret ?_
    | refine AWP.exit ?_
    | refine AWP.skip ?_
    | refine GuardB.t ?_
    | refine GuardB.f ?_
    | refine GuardB.mk (fun hb => ?_) (fun hb => ?_)
    | refine VC.mk Nat.zero_lt_one ?_
    | refine VC.mk rfl ?_
    | refine Ret.bool [] ?_ (.nil _) rfl
    | refine VC.mk ?_ ?_
  all_goals
    obtain ⟨_, _, _⟩ := a
    obtain ⟨_, _, _⟩ := b
    simp_all [eqB]
theorem szRoadS_call (l : List S3) (n : Int) (h1 : l.length ≤ 9223372036854775807) (h2 : 0 ≤ n ∧ n ≤ 1048576) : ACall Try.prog 12 [.slice ⟨0, 0, 0, 3, 0⟩ l.length, .int .i64 n] [.arr true .s3 l] (Is (.int .i64 (leftOf n l.length)) [.arr true .s3 l]) := by
  refine ACall.walk T Try.func12 Try.ntmps12 Try.results12 rfl rfl rfl (Is.nv _ _) ?_
  repeat' (conv => whnf); first
    | refine AWP.seq ?_
    | refine AWP.reg T rfl ?_
    | refine AWP.drw T none rfl rfl ?_
    | refine AWP.block ?_
    | refine AWP.condT rfl ?_
    | refine AWP.condF rfl ?_
    | refine AWP.cond rfl (fun hb => ?_) (fun hb => ?_)
    | refine AWP.ret ?_
    | refine AWP.exit ?_
    | refine AWP.skip ?_
    | refine GuardB.t ?_
    | refine GuardB.f ?_
    | refine GuardB.mk (fun hb => ?_) (fun hb => ?_)
    | refine VC.mk Nat.zero_lt_one ?_
    | refine VC.mk rfl ?_
    | refine Ret.int [0] ?_ (.cons (.same rfl rfl) (.nil _)) rfl
    | refine VC.mk ?_ ?_
  all_goals try simp only [decide_eq_true_eq, decide_eq_false_iff_not, Bool.not_eq_true', Bool.not_eq_false', eqB_true, eqB_false] at *
  all_goals try simp only [in64, idxAdd_zero_left, Int.toNat_natCast, fillTo_length, Int.ofNat_lt, Int.ofNat_le, Int.natCast_inj] at *
  · omega
  · rw [leftOf, if_pos (by omega)]
  · rw [leftOf, if_neg (by omega)]
theorem toRoadS_call (l : List S3) (hl : l.length ≤ 1048576) : ACall Try.prog 14 [.slice ⟨0, 0, 0, 3, 0⟩ l.length] [.arr true .s3 l] (Is (.slice ⟨1, 0, 0, 3, 0⟩ l.length) [.arr true .s3 l, .arr false .s3 l]) := by
  refine ACall.walk T Try.func14 Try.ntmps14 Try.results14 rfl rfl rfl (Is.nv _ _) ?_
  repeat' (conv => whnf); first
    | refine AWP.seq ?_
    | refine AWP.reg T rfl ?_
    | refine AWP.drw T none rfl rfl ?_
    | refine AWP.block ?_
    | refine AWP.condT rfl ?_
    | refine AWP.condF rfl ?_
    | refine AWP.cond rfl (fun hb => ?_) (fun hb => ?_)
    | refine AWP.ret ?_
    | refine AWP.exit ?_
    | refine AWP.skip ?_
    | refine GuardB.t ?_
    | refine GuardB.f ?_
    | refine GuardB.mk (fun hb => ?_) (fun hb => ?_)
    | refine VC.mk Nat.zero_lt_one ?_
    | refine VC.mk rfl ?_
    | refine AWP.while (ι := Nat) (fun k => St.of [(0, .slice ⟨0, 0, 0, 3, 0⟩ l.length), (3, .slice ⟨2, 0, 0, 3, 0⟩ l.length), (4, .int .i64 k)] [.arr true .s3 l, .dead, .arr false .s3 (fillTo l k ⟨0, 0, 0⟩)]) (fun k => k ≤ l.length) (fun k => l.length - k) 0 (Nat.zero_le _)
        (Weak.of [0, 1, 2] (.cons rfl rfl (.cons rfl rfl (.cons rfl rfl .nil))) (.cons (.same rfl rfl) (.cons (.dead _) (.cons (.same rfl rfl) (.nil _)))) rfl) (fun k hk => ?_)
    | refine ACall.useIs [] (toRoad_call _) rfl (.nil _) rfl ?_
    | refine Ret.is [0, 2] rfl (.cons (.same rfl rfl) (.cons (.arr rfl ?_) (.nil _))) rfl
    | refine roundEnd (_ + 1) ?_ ?_ (Weak.of [0, 1, 2] (.cons rfl rfl (.cons rfl rfl (.cons rfl rfl .nil))) (.cons (.same rfl rfl) (.cons (.dead _) (.cons (.arr rfl ?_) (.nil _)))) rfl)
    | refine VC.mk ?_ ?_
  all_goals try simp only [decide_eq_true_eq, decide_eq_false_iff_not, Bool.not_eq_true', Bool.not_eq_false', eqB_true, eqB_false] at *
  all_goals try simp only [in64, idxAdd_zero_left, Int.toNat_natCast, fillTo_length, Int.ofNat_lt, Int.ofNat_le, Int.natCast_inj] at *
  all_goals first
    | omega
    | exact (fillTo_all l _ (by omega)).symm
    | exact fillTo_set l _ (by omega) (getD_get (by omega))
theorem eqRoadS_call (a b : List S3) (ha : a.length ≤ 1048576) : ACall Try.prog 16 [.slice ⟨0, 0, 0, 3, 0⟩ a.length, .slice ⟨1, 0, 0, 3, 0⟩ b.length] [.arr true .s3 a, .arr true .s3 b] (Is (.bool (eqB a b)) [.arr true .s3 a, .arr true .s3 b]) := by
  refine ACall.walk T Try.func16 Try.ntmps16 Try.results16 rfl rfl rfl (Is.nv _ _) ?_
  repeat' (conv => whnf); first
    | refine AWP.seq ?_
    | refine AWP.reg T rfl ?_
    | refine AWP.drw T none rfl rfl ?_
    | refine AWP.block ?_
    | refine AWP.condT rfl ?_
    | refine AWP.condF rfl ?_
    | refine AWP.cond rfl (fun hb => ?_) (fun hb => ?_)
    | refine AWP.ret ?_
    | refine AWP.exit ?_
    | refine AWP.skip ?_
    | refine GuardB.t ?_
    | refine GuardB.f ?_
    | refine GuardB.mk (fun hb => ?_) (fun hb => ?_)
    | refine VC.mk Nat.zero_lt_one ?_
    | refine VC.mk rfl ?_
    | refine AWP.while (ι := Nat) (fun k => St.of [(0, .slice ⟨0, 0, 0, 3, 0⟩ a.length), (1, .slice ⟨1, 0, 0, 3, 0⟩ b.length), (5, .int .i64 k)] [.arr true .s3 a, .arr true .s3 b]) (fun k => Same a b k) (fun k => a.length - k) 0 ?_
        (Weak.of [0, 1] (.cons rfl rfl (.cons rfl rfl (.cons rfl rfl .nil))) (.cons (.same rfl rfl) (.cons (.same rfl rfl) (.nil _))) rfl) (fun k hk => ?_)
    | refine ACall.useIs [] (eqRoad_call _ _) rfl (.nil _) rfl ?_
    | refine Ret.bool [0, 1] ?_ (.cons (.same rfl rfl) (.cons (.same rfl rfl) (.nil _))) rfl
    | refine roundEnd (_ + 1) ?_ ?_ (Weak.of [0, 1] (.cons rfl rfl (.cons rfl rfl (.cons rfl rfl .nil))) (.cons (.same rfl rfl) (.cons (.same rfl rfl) (.nil _))) rfl)
    | refine VC.mk ?_ ?_
  all_goals try simp only [decide_eq_true_eq, decide_eq_false_iff_not, Bool.not_eq_true', Bool.not_eq_false', eqB_true, eqB_false] at *
  all_goals try simp only [in64, idxAdd_zero_left, Int.toNat_natCast, fillTo_length, Int.ofNat_lt, Int.ofNat_le, Int.natCast_inj] at *
  all_goals first
    | omega
    | (have := hk.1; have := hk.2.1; omega)
    | exact Same.zero (by omega)
    | (rw [eq_comm, eqB_false]; intro e; subst e; omega)
    | (rw [eq_comm, eqB_true]; exact hk.eq (by omega))
    | (have h1 := hk.1; have h2 : k < a.length := by omega
       have h3 : k < b.length := by omega
       simp only [getD_get h2, getD_get h3] at *
       first
       | exact hk.next h2 h3 (by assumption)
       | (rw [eq_comm, eqB_false]; intro e; subst e; simp_all))

/-- A number between two. -/
def btw (lo hi n : Int) : Bool := decide (lo ≤ n) && decide (n ≤ hi)
theorem within_call (n lo hi : Int) : ACall Try.prog 49 [.int .i64 n, .int .i64 lo, .int .i64 hi] [] (Is (.bool (btw lo hi n)) []) := by
  refine ACall.walk T Try.func49 Try.ntmps49 Try.results49 rfl rfl rfl (Is.nv _ _) ?_
  repeat' (conv => whnf); first
    | refine AWP.seq ?_
    | refine AWP.reg T rfl ?_
    | refine AWP.drw T none rfl rfl ?_
    | refine AWP.block ?_
    | refine AWP.condT rfl ?_
    | refine AWP.condF rfl ?_
    | refine AWP.cond rfl (fun hb => ?_) (fun hb => ?_)
    | refine AWP.ret ?_
    | refine AWP.exit ?_
    | refine AWP.skip ?_
    | refine GuardB.t ?_
    | refine GuardB.f ?_
    | refine GuardB.mk (fun hb => ?_) (fun hb => ?_)
    | refine VC.mk Nat.zero_lt_one ?_
    | refine VC.mk rfl ?_
    | refine Ret.bool [] ?_ (.nil _) rfl
    | refine VC.mk ?_ ?_
  all_goals simp [btw, hb]

theorem l1In_call (n lo hi : Int) : ACall Try.prog 44 [.int .i64 n, .int .i64 lo, .int .i64 hi] [] (Is (.bool (btw lo hi n)) []) := by
  refine ACall.walk T Try.func44 Try.ntmps44 Try.results44 rfl rfl rfl (Is.nv _ _) ?_
  repeat' (conv => whnf); first
    | refine AWP.seq ?_
    | refine AWP.reg T rfl ?_
    | refine AWP.drw T none rfl rfl ?_
    | refine AWP.block ?_
    | refine AWP.condT rfl ?_
    | refine AWP.condF rfl ?_
    | refine AWP.cond rfl (fun hb => ?_) (fun hb => ?_)
    | refine AWP.ret ?_
    | refine AWP.exit ?_
    | refine AWP.skip ?_
    | refine GuardB.t ?_
    | refine GuardB.f ?_
    | refine GuardB.mk (fun hb => ?_) (fun hb => ?_)
    | refine VC.mk Nat.zero_lt_one ?_
    | refine VC.mk rfl ?_
    | refine Ret.bool [] ?_ (.nil _) rfl
    | refine VC.mk ?_ ?_
  all_goals simp [btw, hb]

theorem isNode_call (n : Int) : ACall Try.prog 56 [.int .i64 n] [] (Is (.bool (btw 0 7 n)) []) := by
  refine ACall.walk T Try.func56 Try.ntmps56 Try.results56 rfl rfl rfl (Is.nv _ _) ?_
  repeat' (conv => whnf); first
    | refine AWP.seq ?_
    | refine AWP.reg T rfl ?_
    | refine AWP.drw T none rfl rfl ?_
    | refine AWP.block ?_
    | refine AWP.condT rfl ?_
    | refine AWP.condF rfl ?_
    | refine AWP.cond rfl (fun hb => ?_) (fun hb => ?_)
    | refine AWP.ret ?_
    | refine AWP.exit ?_
    | refine AWP.skip ?_
    | refine GuardB.t ?_
    | refine GuardB.f ?_
    | refine GuardB.mk (fun hb => ?_) (fun hb => ?_)
    | refine VC.mk Nat.zero_lt_one ?_
    | refine VC.mk rfl ?_
    | refine ACall.useIs [] (within_call _ _ _) rfl (.nil _) rfl ?_
    | refine Ret.bool [] ?_ (.nil _) rfl
    | refine VC.mk ?_ ?_
  all_goals rfl

theorem l6Node_call (n : Int) : ACall Try.prog 43 [.int .i64 n] [] (Is (.bool (btw 0 7 n)) []) := by
  refine ACall.walk T Try.func43 Try.ntmps43 Try.results43 rfl rfl rfl (Is.nv _ _) ?_
  repeat' (conv => whnf); first
    | refine AWP.seq ?_
    | refine AWP.reg T rfl ?_
    | refine AWP.drw T none rfl rfl ?_
    | refine AWP.block ?_
    | refine AWP.condT rfl ?_
    | refine AWP.condF rfl ?_
    | refine AWP.cond rfl (fun hb => ?_) (fun hb => ?_)
    | refine AWP.ret ?_
    | refine AWP.exit ?_
    | refine AWP.skip ?_
    | refine GuardB.t ?_
    | refine GuardB.f ?_
    | refine GuardB.mk (fun hb => ?_) (fun hb => ?_)
    | refine VC.mk Nat.zero_lt_one ?_
    | refine VC.mk rfl ?_
    | refine Ret.bool [] ?_ (.nil _) rfl
    | refine VC.mk ?_ ?_
  all_goals grind [btw]

theorem areUnlike_call (a b : Int) : ACall Try.prog 48 [.int .i64 a, .int .i64 b] [] (Is (.bool (btw 0 7 a && btw 0 7 b && decide (a ≠ b))) []) := by
  refine ACall.walk T Try.func48 Try.ntmps48 Try.results48 rfl rfl rfl (Is.nv _ _) ?_
  repeat' (conv => whnf); first
    | refine AWP.seq ?_
    | refine AWP.reg T rfl ?_
    | refine AWP.drw T none rfl rfl ?_
    | refine AWP.block ?_
    | refine AWP.condT rfl ?_
    | refine AWP.condF rfl ?_
    | refine AWP.cond rfl (fun hb => ?_) (fun hb => ?_)
    | refine AWP.ret ?_
    | refine AWP.exit ?_
    | refine AWP.skip ?_
    | refine GuardB.t ?_
    | refine GuardB.f ?_
    | refine GuardB.mk (fun hb => ?_) (fun hb => ?_)
    | refine VC.mk Nat.zero_lt_one ?_
    | refine VC.mk rfl ?_
    | refine ACall.useIs [] (isNode_call _) rfl (.nil _) rfl ?_
    | refine Ret.bool [] ?_ (.nil _) rfl
    | refine VC.mk ?_ ?_
  all_goals simp_all

/-- A road that may be. -/
def goodRoad (r : S3) : Bool := btw 0 7 r.a && btw 0 7 r.b && decide (r.a ≠ r.b) && btw (-100) 100 r.c
theorem badRoad_call (r : S3) : ACall Try.prog 47 [s3V r] [] (Is (.bool (!goodRoad r)) []) := by
  refine ACall.walk T Try.func47 Try.ntmps47 Try.results47 rfl rfl rfl (Is.nv _ _) ?_
  repeat' (conv => whnf); first
    | refine AWP.seq ?_
    | refine AWP.reg T rfl ?_
    | refine AWP.drw T none rfl rfl ?_
    | refine AWP.block ?_
    | refine AWP.condT rfl ?_
    | refine AWP.condF rfl ?_
    | refine AWP.cond rfl (fun hb => ?_) (fun hb => ?_)
    | refine AWP.ret ?_
    | refine AWP.exit ?_
    | refine AWP.skip ?_
    | refine GuardB.t ?_
    | refine GuardB.f ?_
    | refine GuardB.mk (fun hb => ?_) (fun hb => ?_)
    | refine VC.mk Nat.zero_lt_one ?_
    | refine VC.mk rfl ?_
    | refine ACall.useIs [] (areUnlike_call _ _) rfl (.nil _) rfl ?_
    | refine ACall.useIs [] (within_call _ _ _) rfl (.nil _) rfl ?_
    | refine Ret.bool [] ?_ (.nil _) rfl
    | refine VC.mk ?_ ?_
  all_goals simp_all [goodRoad]

theorem idxBadRoad_call (l : List S3) (hl : l.length ≤ 1048576) : ACall Try.prog 59 [.slice ⟨0, 0, 0, 3, 0⟩ l.length, .func 47 []] [.arr true .s3 l] (Is (.int .i64 (idxF (fun r => !goodRoad r) l)) [.arr true .s3 l]) := by
  refine ACall.walk T Try.func59 Try.ntmps59 Try.results59 rfl rfl rfl (Is.nv _ _) ?_
  repeat' (conv => whnf); first
    | refine AWP.seq ?_
    | refine AWP.reg T rfl ?_
    | refine AWP.drw T none rfl rfl ?_
    | refine AWP.block ?_
    | refine AWP.condT rfl ?_
    | refine AWP.condF rfl ?_
    | refine AWP.cond rfl (fun hb => ?_) (fun hb => ?_)
    | refine AWP.ret ?_
    | refine AWP.exit ?_
    | refine AWP.skip ?_
    | refine GuardB.t ?_
    | refine GuardB.f ?_
    | refine GuardB.mk (fun hb => ?_) (fun hb => ?_)
    | refine VC.mk Nat.zero_lt_one ?_
    | refine VC.mk rfl ?_
    | refine AWP.while (ι := Nat) (fun k => St.of [(0, .slice ⟨0, 0, 0, 3, 0⟩ l.length), (1, .func 47 []), (7, .int .i64 l.length), (8, .int .i64 k)] [.arr true .s3 l]) (fun k => NoneTo (fun r => !goodRoad r) l k) (fun k => l.length - k) 0 (NoneTo.zero _ _)
        (Weak.of [0] (.cons rfl rfl (.cons rfl rfl (.cons rfl rfl (.cons rfl rfl .nil)))) (.cons (.same rfl rfl) (.nil _)) rfl) (fun k hk => ?_)
    | refine ACall.useIs [] (badRoad_call _) rfl (.nil _) rfl ?_
    | refine Ret.int [0] ?_ (.cons (.same rfl rfl) (.nil _)) rfl
    | refine roundEnd (_ + 1) ?_ ?_ (Weak.of [0] (.cons rfl rfl (.cons rfl rfl (.cons rfl rfl (.cons rfl rfl .nil)))) (.cons (.same rfl rfl) (.nil _)) rfl)
    | refine VC.mk ?_ ?_
  all_goals try simp only [decide_eq_true_eq, decide_eq_false_iff_not, Bool.not_eq_true', Bool.not_eq_false', eqB_true, eqB_false] at *
  all_goals try simp only [in64, idxAdd_zero_left, Int.toNat_natCast, fillTo_length, Int.ofNat_lt, Int.ofNat_le, Int.natCast_inj] at *
  all_goals first
    | omega
    | (have := hk.1; omega)
    | exact idxF_none (fun j hj => hk.2 j hj (by omega))
    | (have h2 : k < l.length := by omega
       simp only [getD_get h2] at *
       first
       | exact hk.next h2 (by simp_all)
       | exact idxF_here h2 (fun j hj => hk.2 j (by omega) hj) (by simp_all))

theorem anyBadRoad_call (l : List S3) (hl : l.length ≤ 1048576) : ACall Try.prog 46 [.slice ⟨0, 0, 0, 3, 0⟩ l.length, .func 47 []] [.arr true .s3 l] (Is (.bool (l.any (fun r => !goodRoad r))) [.arr true .s3 l]) := by
  refine ACall.walk T Try.func46 Try.ntmps46 Try.results46 rfl rfl rfl (Is.nv _ _) ?_
  repeat' (conv => whnf); first
    | refine AWP.seq ?_
    | refine AWP.reg T rfl ?_
    | refine AWP.drw T none rfl rfl ?_
    | refine AWP.block ?_
    | refine AWP.condT rfl ?_
    | refine AWP.condF rfl ?_
    | refine AWP.cond rfl (fun hb => ?_) (fun hb => ?_)
    | refine AWP.ret ?_
    | refine AWP.exit ?_
    | refine AWP.skip ?_
    | refine GuardB.t ?_
    | refine GuardB.f ?_
    | refine GuardB.mk (fun hb => ?_) (fun hb => ?_)
    | refine VC.mk Nat.zero_lt_one ?_
    | refine VC.mk rfl ?_
    | refine ACall.useIs [0] (idxBadRoad_call _ ?_) rfl (.cons (.same rfl rfl) (.nil _)) rfl ?_
    | refine Ret.bool [0] ?_ (.cons (.same rfl rfl) (.nil _)) rfl
    | refine VC.mk ?_ ?_
  all_goals first | exact idxF_any _ _ | exact hl

def goodRoads (l : List S3) : Bool := decide (l.length ≤ 20) && !l.any fun r => !goodRoad r
theorem implGoodRoads_call (l : List S3) (hl : l.length ≤ 1048576) : ACall Try.prog 15 [.slice ⟨0, 0, 0, 3, 0⟩ l.length] [.arr true .s3 l] (Is (.bool (goodRoads l)) [.arr true .s3 l]) := by
  refine ACall.walk T Try.func15 Try.ntmps15 Try.results15 rfl rfl rfl (Is.nv _ _) ?_
  repeat' (conv => whnf); first
    | refine AWP.seq ?_
    | refine AWP.reg T rfl ?_
    | refine AWP.drw T none rfl rfl ?_
    | refine AWP.block ?_
    | refine AWP.condT rfl ?_
    | refine AWP.condF rfl ?_
    | refine AWP.cond rfl (fun hb => ?_) (fun hb => ?_)
    | refine AWP.ret ?_
    | refine AWP.exit ?_
    | refine AWP.skip ?_
    | refine GuardB.t ?_
    | refine GuardB.f ?_
    | refine GuardB.mk (fun hb => ?_) (fun hb => ?_)
    | refine VC.mk Nat.zero_lt_one ?_
    | refine VC.mk rfl ?_
    | refine ACall.useIs [0] (anyBadRoad_call _ ?_) rfl (.cons (.same rfl rfl) (.nil _)) rfl ?_
    | refine Ret.bool [0] ?_ (.cons (.same rfl rfl) (.nil _)) rfl
    | refine VC.mk ?_ ?_
  all_goals try simp only [decide_eq_true_eq, decide_eq_false_iff_not, Bool.not_eq_true', Bool.not_eq_false', eqB_true, eqB_false] at *
  all_goals try simp only [in64, idxAdd_zero_left, Int.toNat_natCast, fillTo_length, Int.ofNat_lt, Int.ofNat_le, Int.natCast_inj] at *
  · exact hl
  · simp [goodRoads]; omega
  · simp [goodRoads]; omega

theorem specGoodRoads_call (l : List S3) (hl : l.length ≤ 1048576) : ACall Try.prog 13 [.slice ⟨0, 0, 0, 3, 0⟩ l.length] [.arr true .s3 l] (Is (.bool (goodRoads l)) [.arr true .s3 l]) := by
  refine ACall.walk T Try.func13 Try.ntmps13 Try.results13 rfl rfl rfl (Is.nv _ _) ?_
  repeat' (conv => whnf); first
    | refine AWP.seq ?_
    | refine AWP.reg T rfl ?_
    | refine AWP.drw T none rfl rfl ?_
    | refine AWP.block ?_
    | refine AWP.condT rfl ?_
    | refine AWP.condF rfl ?_
    | refine AWP.cond rfl (fun hb => ?_) (fun hb => ?_)
    | refine AWP.ret ?_
    | refine AWP.exit ?_
    | refine AWP.skip ?_
    | refine GuardB.t ?_
    | refine GuardB.f ?_
    | refine GuardB.mk (fun hb => ?_) (fun hb => ?_)
    | refine VC.mk Nat.zero_lt_one ?_
    | refine VC.mk rfl ?_
    | refine AWP.while (ι := Nat) (fun k => St.of [(0, .slice ⟨0, 0, 0, 3, 0⟩ l.length), (5, .slice ⟨0, 0, 0, 3, 0⟩ l.length), (6, .int .i64 l.length), (7, .int .i64 k)] [.arr true .s3 l]) (fun k => NoneTo (fun r => !goodRoad r) l k) (fun k => l.length - k) 0 (NoneTo.zero _ _)
        (Weak.of [0] (.cons rfl rfl (.cons rfl rfl (.cons rfl rfl (.cons rfl rfl .nil)))) (.cons (.same rfl rfl) (.nil _)) rfl) (fun k hk => ?_)
    | refine ACall.useIs [] (l6Node_call _) rfl (.nil _) rfl ?_
    | refine ACall.useIs [] (l1In_call _ _ _) rfl (.nil _) rfl ?_
    | refine Ret.bool [0] ?_ (.cons (.same rfl rfl) (.nil _)) rfl
    | refine roundEnd (_ + 1) ?_ ?_ (Weak.of [0] (.cons rfl rfl (.cons rfl rfl (.cons rfl rfl (.cons rfl rfl .nil)))) (.cons (.same rfl rfl) (.nil _)) rfl)
    | refine VC.mk ?_ ?_
  all_goals try simp only [decide_eq_true_eq, decide_eq_false_iff_not, Bool.not_eq_true', Bool.not_eq_false', eqB_true, eqB_false] at *
  all_goals try simp only [in64, idxAdd_zero_left, Int.toNat_natCast, fillTo_length, Int.ofNat_lt, Int.ofNat_le, Int.natCast_inj] at *
  all_goals first
    | omega
    | (have := hk.1; omega)
    | (have h2 : k < l.length := by omega
       simp only [getD_get h2] at *
       first
       | exact hk.next h2 (by grind [goodRoad])
       | (have h3 : (l.any fun r => !goodRoad r) = true := any_here h2 (by grind [goodRoad])
          grind [goodRoads]))
    | (have h3 := hk.any (by omega)
       grind [goodRoads])

theorem lawGoodRoads_call (l : List S3) (hl : l.length ≤ 9223372036854775807) : ACall Try.prog 3 [.slice ⟨0, 0, 0, 3, 0⟩ l.length] [.arr true .s3 l] (Is (.bool true) [.arr true .s3 l]) := by
  refine ACall.walk T Try.func3 Try.ntmps3 Try.results3 rfl rfl rfl (Is.nv _ _) ?_
  repeat' (conv => whnf); first
    | refine AWP.seq ?_
    | refine AWP.reg T rfl ?_
    | refine AWP.drw T none rfl rfl ?_
    | refine AWP.block ?_
    | refine AWP.condT rfl ?_
    | refine AWP.condF rfl ?_
    | refine AWP.cond rfl (fun hb => ?_) (fun hb => ?_)
    | refine AWP.ret ?_
    | refine AWP.exit ?_
    | refine AWP.skip ?_
    | refine GuardB.t ?_
    | refine GuardB.f ?_
    | refine GuardB.mk (fun hb => ?_) (fun hb => ?_)
    | refine VC.mk Nat.zero_lt_one ?_
    | refine VC.mk rfl ?_
    | refine ACall.useIs [0] (szRoadS_call _ _ ?_ ?_) rfl (.cons (.same rfl rfl) (.nil _)) rfl ?_
    | refine ACall.useIs [0] (toRoadS_call _ ?_) rfl (.cons (.same rfl rfl) (.nil _)) rfl ?_
    | refine ACall.useIs [1] (specGoodRoads_call _ ?_) rfl (.cons (.ro rfl rfl) (.nil _)) rfl ?_
    | refine ACall.useIs [2] (implGoodRoads_call _ ?_) rfl (.cons (.ro rfl rfl) (.nil _)) rfl ?_
    | refine ACall.useIs [2, 3] (eqRoadS_call _ _ ?_) rfl (.cons (.ro rfl rfl) (.cons (.ro rfl rfl) (.nil _))) rfl ?_
    | refine Ret.bool [0] ?_ (.cons (.same rfl rfl) (.nil _)) rfl
    | refine VC.mk ?_ ?_
  all_goals try simp only [decide_eq_true_eq, decide_eq_false_iff_not, Bool.not_eq_true', Bool.not_eq_false', eqB_true, eqB_false] at *
  all_goals try simp only [in64, idxAdd_zero_left, Int.toNat_natCast, fillTo_length, Int.ofNat_lt, Int.ofNat_le, Int.natCast_inj] at *
  all_goals first
    | rfl
    | omega
    | exact leftOf_ok (by assumption) (by omega)
    | simp_all [eqB]

end YtcljaokjjnmioaaAM
