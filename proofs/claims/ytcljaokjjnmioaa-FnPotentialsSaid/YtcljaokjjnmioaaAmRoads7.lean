/- Contracts of functions of this seat. -/
import Derived.Test.YtcljaokjjnmioaaAmTabRoads
import Derived.Test.YtcljaokjjnmioaaAmModels
import Derived.Test.YtcljaokjjnmioaaAmRoads6
import Derived.Test.YtcljaokjjnmioaaAmRowApp
import Derived.Test.YtcljaokjjnmioaaAmRowCall
import Derived.Test.YtcljaokjjnmioaaAmRowSmall
set_option linter.unusedVariables false
set_option linter.unusedSimpArgs false
set_option maxRecDepth 100000
set_option maxHeartbeats 2000000
namespace YtcljaokjjnmioaaAM
open Go Go.Proofs
def acN (l : List S3) (k : Nat) : List (List Int) := (List.range k).map (costFrom l)
theorem acN_zero (l : List S3) : acN l 0 = [] := rfl
theorem acN_succ (l : List S3) (k : Nat) : acN l (k + 1) = acN l k ++ [costFrom l k] := by simp [acN, List.range_succ]
theorem acN_len (l : List S3) (k : Nat) : (acN l k).length = k := by simp [acN]
def acOf (l : List S3) : List (List Int) := if fine l = true then acN l 8 else []
theorem acOf_none {l : List S3} (h : fine l = false) : acOf l = [] := by rw [acOf, h]; rfl
theorem acOf_eq {l : List S3} (h : fine l = true) : acOf l = acN l 8 := by rw [acOf, if_pos h]
theorem acOf_len {l : List S3} (h : fine l = true) : (acOf l).length = 8 := by rw [acOf_eq h, acN_len]
theorem acOf_small (l : List S3) : SmallR (acOf l) := by
  refine SmallR.few (n := 8) (b := 8) ?_ (fun r hr => ?_) (by decide) (by decide)
  · unfold acOf; split
    · rw [acN_len]; exact Nat.le_refl _
    · simp
  · unfold acOf at hr; split at hr
    · rename_i h
      simp only [acN, List.mem_map] at hr
      obtain ⟨k, _, rfl⟩ := hr
      rw [(costFrom_ok (fine_good h) k).len]; exact Nat.le_refl _
    · simp at hr
attribute [local irreducible] costFrom acN acOf fine markSS totN

theorem markIntS2_call (l : List Int) (n : Int) (hl : l.length ≤ 1048576) (hn : 0 ≤ n ∧ n ≤ 1073741824) : ACall Try.prog 23 [.slice ⟨0, 0, 0, 1, 0⟩ l.length, .int .i64 n] [.arr false .int l] (Is (.int .i64 (n + (l.length : Int))) [.arr false .int (marksI l.length n)]) := by
  refine ACall.walk T Try.func23 Try.ntmps23 Try.results23 rfl rfl rfl (Is.nv _ _) ?_
  repeat' (conv => whnf); first
    | refine AWP.seq ?_
    | refine AWP.reg T rfl ?_
    | refine AWP.drw T none rfl rfl rfl ?_
    | refine AWP.dep T none rfl rfl rfl rfl ?_
    | refine AWP.block ?_
    | refine AWP.condT rfl ?_
    | refine AWP.condF rfl ?_
    | refine AWP.cond rfl (fun hb => ?_) (fun hb => ?_)
    | refine AWP.ret ?_
    | refine AWP.exit ?_
    | refine AWP.skip ?_
    | refine GuardB.t ?_
    | refine GuardB.f ?_
    | refine GuardB.mk (fun hb => ?_) (fun hb => ?_)
    | refine NilQ.mk (fun hb => ?_) ?_
    | refine VC.mk Nat.zero_lt_one ?_
    | refine VC.mk rfl ?_
    | refine AWP.while (ι := Nat) (fun k => St.of [(0, .slice ⟨0, 0, 0, 1, 0⟩ l.length), (1, .int .i64 (n + (k : Int))), (5, .int .i64 k)] [.arr false .int (mixTo (marksI l.length n) l k)]) (fun k => k ≤ l.length) (fun k => l.length - k) 0 (Nat.zero_le _)
        (Weak.of [0] (.cons rfl rfl (.cons ?_ rfl (.cons rfl rfl .nil))) (.cons (.arr rfl (mixTo_zero _ _)) (.nil _)) rfl) (fun k hk => ?_)
    | refine Ret.int [0] ?_ (.cons (.arr rfl ?_) (.nil _)) rfl
    | refine roundEnd (_ + 1) ?_ ?_ (Weak.of [0] (.cons rfl rfl (.cons ?_ rfl (.cons rfl rfl .nil))) (.cons (.arr rfl ?_) (.nil _)) rfl)
    | refine VC.mk ?_ ?_
  all_goals try simp only [decide_eq_true_eq, decide_eq_false_iff_not, Bool.not_eq_true', Bool.not_eq_false', cond_true, cond_false, eqB_true, eqB_false] at *
  all_goals try simp only [in64, idxAdd_zero_left, Int.toNat_natCast, fillTo_length, Int.ofNat_lt, Int.ofNat_le, Int.natCast_inj] at *
  all_goals try have ml := mixTo_length (marksI_length l.length n) hk
  all_goals first
    | omega
    | exact congrArg (AV.int .i64) (by simp only [AV.int.injEq, true_and]; omega)
    | exact congrArg (AV.int .i64) (by omega)
    | exact (mixTo_all (by simp) (by omega)).symm
    | (have h2 : k < l.length := by omega
       rw [mixTo_set (by simp) h2 rfl, marksI_get h2])
    | (have : k = l.length := by omega
       omega)
theorem heldIntS2_call (c : Nat) (n : Int) (hl : c ≤ 1048576) (hn : 0 ≤ n ∧ n ≤ 1073741824) : ACall Try.prog 24 [.slice ⟨0, 0, 0, 1, 0⟩ c, .int .i64 n] [.arr true .int (marksI c n)] (Is (.int .i64 (n + (c : Int))) [.arr true .int (marksI c n)]) := by
  refine ACall.walk T Try.func24 Try.ntmps24 Try.results24 rfl rfl rfl (Is.nv _ _) ?_
  repeat' (conv => whnf); first
    | refine AWP.seq ?_
    | refine AWP.reg T rfl ?_
    | refine AWP.drw T none rfl rfl rfl ?_
    | refine AWP.dep T none rfl rfl rfl rfl ?_
    | refine AWP.block ?_
    | refine AWP.condT rfl ?_
    | refine AWP.condF rfl ?_
    | refine AWP.cond rfl (fun hb => ?_) (fun hb => ?_)
    | refine AWP.ret ?_
    | refine AWP.exit ?_
    | refine AWP.skip ?_
    | refine GuardB.t ?_
    | refine GuardB.f ?_
    | refine GuardB.mk (fun hb => ?_) (fun hb => ?_)
    | refine NilQ.mk (fun hb => ?_) ?_
    | refine VC.mk Nat.zero_lt_one ?_
    | refine VC.mk rfl ?_
    | refine AWP.while (ι := Nat) (fun k => St.of [(0, .slice ⟨0, 0, 0, 1, 0⟩ c), (1, .int .i64 (n + (k : Int))), (5, .int .i64 k)] [.arr true .int (marksI c n)]) (fun k => k ≤ c) (fun k => c - k) 0 (Nat.zero_le _)
        (Weak.of [0] (.cons rfl rfl (.cons ?_ rfl (.cons rfl rfl .nil))) (.cons (.same rfl rfl) (.nil _)) rfl) (fun k hk => ?_)
    | refine Ret.int [0] ?_ (.cons (.same rfl rfl) (.nil _)) rfl
    | refine roundEnd (_ + 1) ?_ ?_ (Weak.of [0] (.cons rfl rfl (.cons ?_ rfl (.cons rfl rfl .nil))) (.cons (.same rfl rfl) (.nil _)) rfl)
    | refine VC.mk ?_ ?_
  all_goals try simp only [decide_eq_true_eq, decide_eq_false_iff_not, Bool.not_eq_true', Bool.not_eq_false', cond_true, cond_false, eqB_true, eqB_false] at *
  all_goals try simp only [in64, idxAdd_zero_left, Int.toNat_natCast, fillTo_length, Int.ofNat_lt, Int.ofNat_le, Int.natCast_inj] at *
  all_goals try simp only [marksI_length] at *
  all_goals first
    | omega
    | exact congrArg (AV.int .i64) (by simp only [AV.int.injEq, true_and]; omega)
    | exact congrArg (AV.int .i64) (by omega)
    | (have h2 : k < c := by omega
       have g := marksI_getD h2 n 0
       omega)
    | (have : k = c := by omega
       omega)

theorem eqIntSS_call (a b : List (List Int)) (ha : SmallR a) : ACall Try.prog 32 [.slice ⟨0, 0, 0, 1, 0⟩ a.length, .slice ⟨1, 0, 0, 1, 0⟩ b.length] [.rows true a, .rows true b] (Is (.bool (eqB a b)) [.rows true a, .rows true b]) := by
  refine ACall.walk T Try.func32 Try.ntmps32 Try.results32 rfl rfl rfl (Is.nv _ _) ?_
  repeat' (conv => whnf); first
    | refine AWP.seq ?_
    | refine AWP.reg T rfl ?_
    | refine AWP.drw T none rfl rfl rfl ?_
    | refine AWP.dep T none rfl rfl rfl rfl ?_
    | refine AWP.block ?_
    | refine AWP.condT rfl ?_
    | refine AWP.condF rfl ?_
    | refine AWP.cond rfl (fun hb => ?_) (fun hb => ?_)
    | refine AWP.ret ?_
    | refine AWP.exit ?_
    | refine AWP.skip ?_
    | refine GuardB.t ?_
    | refine GuardB.f ?_
    | refine GuardB.mk (fun hb => ?_) (fun hb => ?_)
    | refine NilQ.mk (fun hb => ?_) ?_
    | refine VC.mk Nat.zero_lt_one ?_
    | refine VC.mk rfl ?_
    | refine AWP.while (ι := Nat) (fun k => St.of [(0, .slice ⟨0, 0, 0, 1, 0⟩ a.length), (1, .slice ⟨1, 0, 0, 1, 0⟩ b.length), (5, .int .i64 k)] [.rows true a, .rows true b]) (fun k => Same a b k) (fun k => a.length - k) 0 ?_
        (Weak.of [0, 1] (.cons rfl rfl (.cons rfl rfl (.cons rfl rfl .nil))) (.cons (.same rfl rfl) (.cons (.same rfl rfl) (.nil _))) rfl) (fun k hk => ?_)
    | refine ACall.row0 (id := 0) rfl ?_
    | refine ACall.row1 (id := 1) rfl ?_
    | refine ACall.useIs [2, 3] (eqIntS_call _ _ ?_) rfl (.cons (.same rfl rfl) (.cons (.same rfl rfl) (.nil _))) rfl ?_
    | refine Ret.bool [0, 1] ?_ (.cons (.same rfl rfl) (.cons (.same rfl rfl) (.nil _))) rfl
    | refine roundEnd (k + 1) ?_ ?_ (Weak.of [0, 1] (.cons rfl rfl (.cons rfl rfl (.cons rfl rfl .nil))) (.cons (.same rfl rfl) (.cons (.same rfl rfl) (.nil _))) rfl)
    | refine VC.mk ?_ ?_
  all_goals try simp only [decide_eq_true_eq, decide_eq_false_iff_not, Bool.not_eq_true', Bool.not_eq_false', cond_true, cond_false, eqB_true, eqB_false] at *
  all_goals try simp only [in64, idxAdd_zero_left, Int.toNat_natCast, fillTo_length, Int.ofNat_lt, Int.ofNat_le, Int.natCast_inj] at *
  all_goals try have hrow := ha.row k
  all_goals try have hrl := ha.len
  all_goals first
    | omega
    | (have := hk.1; have := hk.2.1; omega)
    | exact Same.zero (by omega)
    | (rw [eq_comm, eqB_false]; intro e; subst e; omega)
    | (rw [eq_comm, eqB_true]; exact hk.eq (by omega))
    | (have h1 := hk.1; have h2 : k < a.length := by omega
       have h3 : k < b.length := by omega
       simp only [getD_get h2, getD_get h3] at *
       first
       | exact hk.next h2 h3 (by assumption)
       | (rw [eq_comm, eqB_false]; intro e; subst e; simp_all))
theorem markIntSS_call (ll : List (List Int)) (n : Int) (hr : SmallR ll) (hn : 0 ≤ n ∧ n ≤ 1000000000) : ACall Try.prog 33 [.slice ⟨0, 0, 0, 1, 0⟩ ll.length, .int .i64 n] [.rows false ll] (Is (.int .i64 (n + (totN ll ll.length : Int))) [.rows false (markSS ll n)]) := by
  refine ACall.walk T Try.func33 Try.ntmps33 Try.results33 rfl rfl rfl (Is.nv _ _) ?_
  repeat' (conv => whnf); first
    | refine AWP.seq ?_
    | refine AWP.reg T rfl ?_
    | refine AWP.drw T none rfl rfl rfl ?_
    | refine AWP.dep T none rfl rfl rfl rfl ?_
    | refine AWP.block ?_
    | refine AWP.condT rfl ?_
    | refine AWP.condF rfl ?_
    | refine AWP.cond rfl (fun hb => ?_) (fun hb => ?_)
    | refine AWP.ret ?_
    | refine AWP.exit ?_
    | refine AWP.skip ?_
    | refine GuardB.t ?_
    | refine GuardB.f ?_
    | refine GuardB.mk (fun hb => ?_) (fun hb => ?_)
    | refine NilQ.mk (fun hb => ?_) ?_
    | refine VC.mk Nat.zero_lt_one ?_
    | refine VC.mk rfl ?_
    | refine AWP.while (ι := Nat) (fun k => St.of [(0, .slice ⟨0, 0, 0, 1, 0⟩ ll.length), (1, .int .i64 (n + (totN ll k : Int))), (5, .int .i64 k)] [.rows false (mixTo (markSS ll n) ll k)]) (fun k => k ≤ ll.length) (fun k => ll.length - k) 0 (Nat.zero_le _)
        (Weak.of [0] (.cons rfl rfl (.i rfl ?_ (.cons rfl rfl .nil))) (.cons (.rows (mixTo_zero _ _)) (.nil _)) rfl) (fun k hk => ?_)
    | refine ACall.lendK (id := 0) (i := k) (markIntS2_call _ _ ?_ ?_) rfl rfl ?_ rfl ?_ ?_
    | refine Ret.int [0] ?_ (.cons (.rows ?_) (.nil _)) rfl
    | refine roundEnd (k + 1) ?_ ?_ (Weak.of [0] (.cons rfl rfl (.i rfl ?_ (.cons rfl rfl .nil))) (.cons (.rows ?_) (.nil _)) rfl)
    | refine VC.mk ?_ ?_
  all_goals try simp only [decide_eq_true_eq, decide_eq_false_iff_not, Bool.not_eq_true', Bool.not_eq_false', cond_true, cond_false, eqB_true, eqB_false] at *
  all_goals try simp only [in64, idxAdd_zero_left, Int.toNat_natCast, fillTo_length, Int.ofNat_lt, Int.ofNat_le, Int.natCast_inj] at *
  all_goals try have hrow := hr.row k
  all_goals try have hrl := hr.len
  all_goals try have htot := hr.tot
  all_goals try have hmono := totN_mono ll (show k ≤ ll.length by omega)
  all_goals try have ml := mixTo_length (markSS_length ll n) hk
  all_goals try
    have hk3 : k < ll.length := by omega
    have hg3 := mixTo_getD (markSS_length ll n) hk3 []
    simp only [hg3] at *
  all_goals first
    | omega
    | exact ⟨by omega, by omega⟩
    | (rw [totN_zero]; simp; done)
    | (rw [mixTo_getD (markSS_length ll n) (by omega)]; done)
    | (rw [totN_succ]; omega)
    | (have e : k = ll.length := by omega
       subst e
       rfl)
    | exact (mixTo_all (by simp) (by omega)).symm
    | exact mixTo_set (by simp) (by omega) (by rw [markSS_get (by omega)])
    | (simp; done)
    | (rw [mixTo_getD (markSS_length ll n) (by omega)]; simp; done)
theorem heldRow_call (x : List Int) (c : Nat) (n : Int) (hl : c ≤ 1048576) (hn : 0 ≤ n ∧ n ≤ 1073741824) (hx : x = marksI c n) : ACall Try.prog 24 [.slice ⟨0, 0, 0, 1, 0⟩ x.length, .int .i64 n] [.arr true .int x] (Is (.int .i64 (n + (c : Int))) [.arr true .int x]) := by
  subst hx
  rw [marksI_length]
  exact heldIntS2_call c n hl hn
theorem heldIntSS_call (ll : List (List Int)) (n : Int) (c : Nat) (hr : SmallR ll) (hn : 0 ≤ n ∧ n ≤ 1000000000) (hc : c = ll.length) : ACall Try.prog 34 [.slice ⟨0, 0, 0, 1, 0⟩ c, .int .i64 n] [.rows true (markSS ll n)] (Is (.int .i64 (n + (totN ll ll.length : Int))) [.rows true (markSS ll n)]) := by
  refine ACall.walk T Try.func34 Try.ntmps34 Try.results34 rfl rfl rfl (Is.nv _ _) ?_
  repeat' (conv => whnf); first
    | refine AWP.seq ?_
    | refine AWP.reg T rfl ?_
    | refine AWP.drw T none rfl rfl rfl ?_
    | refine AWP.dep T none rfl rfl rfl rfl ?_
    | refine AWP.block ?_
    | refine AWP.condT rfl ?_
    | refine AWP.condF rfl ?_
    | refine AWP.cond rfl (fun hb => ?_) (fun hb => ?_)
    | refine AWP.ret ?_
    | refine AWP.exit ?_
    | refine AWP.skip ?_
    | refine GuardB.t ?_
    | refine GuardB.f ?_
    | refine GuardB.mk (fun hb => ?_) (fun hb => ?_)
    | refine NilQ.mk (fun hb => ?_) ?_
    | refine VC.mk Nat.zero_lt_one ?_
    | refine VC.mk rfl ?_
    | subst hc
      refine AWP.while (ι := Nat) (fun k => St.of [(0, .slice ⟨0, 0, 0, 1, 0⟩ ll.length), (1, .int .i64 (n + (totN ll k : Int))), (5, .int .i64 k)] [.rows true (markSS ll n)]) (fun k => k ≤ ll.length) (fun k => ll.length - k) 0 (Nat.zero_le _)
        (Weak.of [0] (.cons rfl rfl (.i rfl ?_ (.cons rfl rfl .nil))) (.cons (.same rfl rfl) (.nil _)) rfl) (fun k hk => ?_)
    | refine ACall.row0 (id := 0) rfl ?_
    | refine ACall.useIs [1] (heldRow_call _ (ll.getD k []).length _ ?_ ?_ ?_) rfl (.cons (.same rfl rfl) (.nil _)) rfl ?_
    | refine Ret.int [0] ?_ (.cons (.same rfl rfl) (.nil _)) rfl
    | refine roundEnd (k + 1) ?_ ?_ (Weak.of [0] (.cons rfl rfl (.i rfl ?_ (.cons rfl rfl .nil))) (.cons (.same rfl rfl) (.nil _)) rfl)
    | refine VC.mk ?_ ?_
  all_goals try simp only [decide_eq_true_eq, decide_eq_false_iff_not, Bool.not_eq_true', Bool.not_eq_false', cond_true, cond_false, eqB_true, eqB_false] at *
  all_goals try simp only [in64, idxAdd_zero_left, Int.toNat_natCast, fillTo_length, Int.ofNat_lt, Int.ofNat_le, Int.natCast_inj] at *
  all_goals try have hrow := hr.row k
  all_goals try have hrl := hr.len
  all_goals try have htot := hr.tot
  all_goals try have hmono := totN_mono ll (show k ≤ ll.length by omega)
  all_goals try simp only [markSS_length] at *
  all_goals first
    | omega
    | exact ⟨by omega, by omega⟩
    | (rw [totN_zero]; simp; done)
    | exact markSS_getD (by omega)
    | (rw [totN_succ]; omega)
    | (have e : k = ll.length := by omega
       subst e
       rfl)

theorem implAll_call (l : List S3) (hl : l.length ≤ 1048576) : ACall Try.prog 31 [.slice ⟨0, 0, 0, 3, 0⟩ l.length] [.arr true .s3 l] (Is (.tuple [.slice ⟨1, 0, 0, 1, 0⟩ (acOf l).length, .bool (fine l)]) [.arr true .s3 l, .rows false (acOf l)]) := by
  refine ACall.walk T Try.func31 Try.ntmps31 Try.results31 rfl rfl rfl (Is.nv _ _) ?_
  repeat' (conv => whnf); first
    | refine AWP.regX (id := 3) T 0 rfl ?_
    | refine AWP.regX (id := 7) T 4 rfl ?_
    | refine AWP.seq ?_
    | refine AWP.reg T rfl ?_
    | refine AWP.drw T none rfl rfl rfl ?_
    | refine AWP.dep T none rfl rfl rfl rfl ?_
    | refine AWP.block ?_
    | refine AWP.condT rfl ?_
    | refine AWP.condF rfl ?_
    | refine AWP.cond rfl (fun hb => ?_) (fun hb => ?_)
    | refine AWP.ret ?_
    | refine AWP.exit ?_
    | refine AWP.skip ?_
    | refine GuardB.t ?_
    | refine GuardB.f ?_
    | refine GuardB.mk (fun hb => ?_) (fun hb => ?_)
    | refine NilQ.mk (fun hb => ?_) ?_
    | refine VC.mk Nat.zero_lt_one ?_
    | refine VC.mk rfl ?_
    | refine ACall.useIs [0] (calm_call _ ?_) rfl (.cons (.same rfl rfl) (.nil _)) rfl ?_
    | refine AWP.while (ι := Nat) (fun k => St.of [(0, .slice ⟨0, 0, 0, 3, 0⟩ l.length), (4, .slice ⟨1, 0, 0, 1, 0⟩ k), (10, .int .i64 k)] [.arr true .s3 l, .rows false (acN l k)]) (fun k => k ≤ 8) (fun k => 8 - k) 0 (Nat.zero_le _)
        (Weak.of [0, 2] (.cons rfl rfl (.cons rfl rfl (.cons rfl rfl .nil))) (.cons (.same rfl rfl) (.cons (.rows ?_) (.nil _))) rfl) (fun k hk => ?_)
    | refine ACall.useIs [0] (costFrom_call _ _ ?_ ?_) rfl (.cons (.same rfl rfl) (.nil _)) rfl ?_
    | refine XGoal.rows0 (o := ⟨_, .buildSlice _ 0 _, _, _, _, _⟩) rfl ?_
    | refine XGoal.wrap (o := ⟨_, .buildSlice _ 1 _, _, _, _, _⟩) rfl ?_
    | refine XGoal.rapp (o := ⟨_, .call _, _, _, _, _⟩) rfl ?_
    | refine XGoal.list rfl ?_
    | refine roundEnd (k + 1) ?_ ?_ (Weak.of [0, 4] (.cons rfl rfl (.cons rfl rfl (.cons rfl rfl .nil))) (.cons (.same rfl rfl) (.cons (.rows ?_) (.nil _))) rfl)
    | refine Ret.sb [0, 2] rfl ?_ ?_ (.cons (.same rfl rfl) (.cons (.rows ?_) (.nil _))) rfl
    | refine Ret.sb [0, 1] rfl ?_ ?_ (.cons (.same rfl rfl) (.cons (.rows ?_) (.nil _))) rfl
    | refine VC.mk ?_ ?_
  all_goals try simp only [decide_eq_true_eq, decide_eq_false_iff_not, Bool.not_eq_true', Bool.not_eq_false', cond_true, cond_false, eqB_true, eqB_false] at *
  all_goals try simp only [in64, idxAdd_zero_left, Int.toNat_natCast, fillTo_length, Int.ofNat_lt, Int.ofNat_le, Int.natCast_inj] at *
  all_goals try have hcl := (costFrom_ok (fine_good (by assumption : fine l = true)) k).len
  all_goals try have hal := acN_len l k
  all_goals first
    | exact hl
    | omega
    | rfl
    | exact fine_good (by assumption)
    | exact ⟨by omega, by omega⟩
    | exact ⟨by omega, rfl, by omega, rfl, by decide, by simp; omega⟩
    | exact ⟨by decide, by omega⟩
    | exact ⟨rfl, by omega⟩
    | (rw [acOf_none (by assumption)]; done)
    | (rw [acOf_none (by assumption)]; rfl)
    | exact (acN_zero l)
    | exact (acN_zero l).symm
    | exact acN_succ l k
    | (simp_all; done)
    | (simp_all; omega)
    | (have e : k = 8 := by omega
       subst e
       first | exact acOf_eq (by assumption) | exact (acOf_eq (by assumption)).symm | (rw [acOf_len (by assumption)]; done))

theorem specAll_call (l : List S3) (hl : l.length ≤ 1048576) : ACall Try.prog 30 [.slice ⟨0, 0, 0, 3, 0⟩ l.length] [.arr true .s3 l] (Is (.tuple [.slice ⟨1, 0, 0, 1, 0⟩ (acOf l).length, .bool (fine l)]) [.arr true .s3 l, .rows false (acOf l)]) := by
  refine ACall.walk T Try.func30 Try.ntmps30 Try.results30 rfl rfl rfl (Is.nv _ _) ?_
  repeat' (conv => whnf); first
    | refine AWP.regX (id := 7) T 4 rfl ?_
    | refine AWP.seq ?_
    | refine AWP.reg T rfl ?_
    | refine AWP.drw T none rfl rfl rfl ?_
    | refine AWP.dep T none rfl rfl rfl rfl ?_
    | refine AWP.block ?_
    | refine AWP.condT rfl ?_
    | refine AWP.condF rfl ?_
    | refine AWP.cond rfl (fun hb => ?_) (fun hb => ?_)
    | refine AWP.ret ?_
    | refine AWP.exit ?_
    | refine AWP.skip ?_
    | refine GuardB.t ?_
    | refine GuardB.f ?_
    | refine GuardB.mk (fun hb => ?_) (fun hb => ?_)
    | refine NilQ.mk (fun hb => ?_) ?_
    | refine VC.mk Nat.zero_lt_one ?_
    | refine VC.mk rfl ?_
    | refine ACall.useIs [0] (l11Fine_call _ ?_) rfl (.cons (.same rfl rfl) (.nil _)) rfl ?_
    | refine AWP.while (ι := Nat) (fun k => St.of [(0, .slice ⟨0, 0, 0, 3, 0⟩ l.length), (4, .slice ⟨1, 0, 0, 1, 0⟩ k), (5, .int .i64 k)] [.arr true .s3 l, .rows false (acN l k)]) (fun k => k ≤ 8) (fun k => 8 - k) 0 (Nat.zero_le _)
        (Weak.of [0, 2] (.cons rfl rfl (.cons rfl rfl (.cons rfl rfl .nil))) (.cons (.same rfl rfl) (.cons (.rows ?_) (.nil _))) rfl) (fun k hk => ?_)
    | refine ACall.useIs [0] (l11From_call _ _ ?_ ?_) rfl (.cons (.same rfl rfl) (.nil _)) rfl ?_
    | refine XGoal.rows0 (o := ⟨_, .buildSlice _ 0 _, _, _, _, _⟩) rfl ?_
    | refine XGoal.wrap (o := ⟨_, .buildSlice _ 1 _, _, _, _, _⟩) rfl ?_
    | refine XGoal.rapp (o := ⟨_, .call _, _, _, _, _⟩) rfl ?_
    | refine XGoal.list rfl ?_
    | refine roundEnd (k + 1) ?_ ?_ (Weak.of [0, 4] (.cons rfl rfl (.cons rfl rfl (.cons rfl rfl .nil))) (.cons (.same rfl rfl) (.cons (.rows ?_) (.nil _))) rfl)
    | refine Ret.sb [0, 2] rfl ?_ ?_ (.cons (.same rfl rfl) (.cons (.rows ?_) (.nil _))) rfl
    | refine Ret.sb [0, 1] rfl ?_ ?_ (.cons (.same rfl rfl) (.cons (.rows ?_) (.nil _))) rfl
    | refine VC.mk ?_ ?_
  all_goals try simp only [decide_eq_true_eq, decide_eq_false_iff_not, Bool.not_eq_true', Bool.not_eq_false', cond_true, cond_false, eqB_true, eqB_false] at *
  all_goals try simp only [in64, idxAdd_zero_left, Int.toNat_natCast, fillTo_length, Int.ofNat_lt, Int.ofNat_le, Int.natCast_inj] at *
  all_goals try have hcl := (costFrom_ok (fine_good (by assumption : fine l = true)) k).len
  all_goals try have hal := acN_len l k
  all_goals first
    | exact hl
    | omega
    | rfl
    | exact fine_good (by assumption)
    | exact ⟨by omega, by omega⟩
    | exact ⟨by omega, rfl, by omega, rfl, by decide, by simp; omega⟩
    | exact ⟨by decide, by omega⟩
    | exact ⟨rfl, by omega⟩
    | (rw [acOf_none (by assumption)]; done)
    | (rw [acOf_none (by assumption)]; rfl)
    | exact (acN_zero l)
    | exact (acN_zero l).symm
    | exact acN_succ l k
    | (simp_all; done)
    | (simp_all; omega)
    | (have e : k = 8 := by omega
       subst e
       first | exact acOf_eq (by assumption) | exact (acOf_eq (by assumption)).symm | (rw [acOf_len (by assumption)]; done))

theorem lawAllCosts_call (l : List S3) (hl : l.length ≤ 9223372036854775807) : ACall Try.prog 8 [.slice ⟨0, 0, 0, 3, 0⟩ l.length] [.arr true .s3 l] (Is (.bool true) [.arr true .s3 l]) := by
  refine ACall.walk T Try.func8 Try.ntmps8 Try.results8 rfl rfl rfl (Is.nv _ _) ?_
  repeat' (conv => whnf); first
    | refine AWP.seq ?_
    | refine AWP.reg T rfl ?_
    | refine AWP.drw T none rfl rfl rfl ?_
    | refine AWP.dep T none rfl rfl rfl rfl ?_
    | refine AWP.block ?_
    | refine AWP.condT rfl ?_
    | refine AWP.condF rfl ?_
    | refine AWP.cond rfl (fun hb => ?_) (fun hb => ?_)
    | refine AWP.ret ?_
    | refine AWP.exit ?_
    | refine AWP.skip ?_
    | refine GuardB.t ?_
    | refine GuardB.f ?_
    | refine GuardB.mk (fun hb => ?_) (fun hb => ?_)
    | refine NilQ.mk (fun hb => ?_) ?_
    | refine VC.mk Nat.zero_lt_one ?_
    | refine VC.mk rfl ?_
    | refine ACall.useIs [0] (szRoadS_call _ _ ?_ ?_) rfl (.cons (.same rfl rfl) (.nil _)) rfl ?_
    | refine ACall.useIs [0] (toRoadS_call _ ?_) rfl (.cons (.same rfl rfl) (.nil _)) rfl ?_
    | refine ACall.useIs [1] (specAll_call _ ?_) rfl (.cons (.ro rfl rfl) (.nil _)) rfl ?_
    | refine ACall.useIs [3] (implAll_call _ ?_) rfl (.cons (.ro rfl rfl) (.nil _)) rfl ?_
    | refine ACall.useIs [6] (implAll_call _ ?_) rfl (.cons (.ro rfl rfl) (.nil _)) rfl ?_
    | refine ACall.useIs [4, 2] (eqIntSS_call _ _ ?_) rfl (.cons (.ro rfl rfl) (.cons (.ro rfl rfl) (.nil _))) rfl ?_
    | refine ACall.useIs [7, 2] (eqIntSS_call _ _ ?_) rfl (.cons (.ro rfl rfl) (.cons (.ro rfl rfl) (.nil _))) rfl ?_
    | refine ACall.useIs [3, 5] (eqRoadS_call _ _ ?_) rfl (.cons (.ro rfl rfl) (.cons (.ro rfl rfl) (.nil _))) rfl ?_
    | refine ACall.useIs [3] (markRoadS_call _ _ ?_ ?_) rfl (.cons (.same rfl rfl) (.nil _)) rfl ?_
    | refine ACall.useIs [4] (markIntSS_call (acOf l) _ ?_ ?_) rfl (.cons (.same rfl rfl) (.nil _)) rfl ?_
    | refine ACall.useIs [4] (heldIntSS_call (acOf l) _ _ ?_ ?_ ?_) rfl (.cons (.ro rfl rfl) (.nil _)) rfl ?_
    | refine Ret.bool [0] ?_ (.cons (.same rfl rfl) (.nil _)) rfl
    | refine VC.mk ?_ ?_
  all_goals try simp only [decide_eq_true_eq, decide_eq_false_iff_not, Bool.not_eq_true', Bool.not_eq_false', cond_true, cond_false, eqB_true, eqB_false] at *
  all_goals try simp only [in64, idxAdd_zero_left, Int.toNat_natCast, fillTo_length, Int.ofNat_lt, Int.ofNat_le, Int.natCast_inj] at *
  all_goals try have hsm := acOf_small l
  all_goals try simp only [markSS_length, marks3_length] at *
  all_goals first
    | rfl
    | exact hsm
    | omega
    | (have := leftOf_ok (by assumption) (by omega : (1048576 : Int) ≤ 1048576); omega)
    | (have := hsm.tot; omega)
    | (simp_all [eqB]; done)
    | (have := hsm.tot; simp_all [eqB]; omega)

end YtcljaokjjnmioaaAM
