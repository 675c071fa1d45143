/- Contracts of functions of this seat. -/
import Derived.Test.YtofjbgpaofcpjaaAmTabPairs
import Derived.Test.YtofjbgpaofcpjaaAmModels
import Derived.Test.YtofjbgpaofcpjaaAmPairs5
set_option linter.unusedVariables false
set_option linter.unusedSimpArgs false
set_option maxRecDepth 100000
set_option maxHeartbeats 2000000
namespace YtofjbgpaofcpjaaAM
open Go Go.Proofs
attribute [local irreducible] foldN askR askN maskL impB impO bestN freeN stQ rowQ qN inQ sortI sortN goodP isMatch matchB tryA

theorem improve_call (n m : Int) (ll : List (List Int)) (hr : SmallR ll) (hg : goodP n m ll = true) (mt : List Int) (c : Nat) (hc : c = ll.length) (hlen : mt.length = c) : ACall Try.prog 56 [.agg [.int .i64 n, .int .i64 m, .slice ⟨0, 0, 0, 1, 0⟩ ll.length], .slice ⟨1, 0, 0, 1, 0⟩ c] [.rows true ll, .arr false .int mt] (Is (.bool (impB ll mt)) [.rows true ll, .arr false .int (impO ll mt)]) := by
  refine ACall.walk T Try.func56 Try.ntmps56 Try.results56 rfl rfl rfl (Is.nv _ _) ?_
  repeat' (conv => whnf); first
    | refine AWP.seq ?_
    | refine AWP.reg T rfl ?_
    | refine AWP.drw T none rfl rfl rfl ?_
    | refine AWP.dep T none rfl rfl rfl rfl ?_
    | refine AWP.block ?_
    | refine AWP.condT rfl ?_
    | refine AWP.condF rfl ?_
    | refine AWP.cond rfl (fun hb => ?_) (fun hb => ?_)
    | refine AWP.ret ?_
    | refine AWP.exit ?_
    | refine AWP.skip ?_
    | refine GuardB.t ?_
    | refine GuardB.f ?_
    | refine GuardB.mk (fun hb => ?_) (fun hb => ?_)
    | refine NilQ.mk (fun hb => ?_) ?_
    | refine VC.mk Nat.zero_lt_one ?_
    | refine VC.mk rfl ?_
    | refine AWP.while (ι := Nat) (fun k => St.of [(2, .ptr ⟨2, 0, 0, 3, 0⟩), (3, .ptr ⟨3, 0, 0, 1, 0⟩), (9, .slice ⟨1, 0, 0, 1, 0⟩ c), (10, .int .i64 c), (11, .int .i64 k)] [.rows true ll, .arr false .int mt, .arr false (.raw 3) [[.int .i64 n, .int .i64 m, .slice ⟨0, 0, 0, 1, 0⟩ ll.length]], .arr false (.raw 1) [[.slice ⟨1, 0, 0, 1, 0⟩ c]]]) (fun k => k ≤ c ∧ ∀ j, j < k → impAt ll mt j = false) (fun k => c - k) 0 ?_
        (Weak.of [0, 1, 2, 3] (.cons rfl rfl (.cons rfl rfl (.cons rfl rfl (.cons rfl rfl (.cons rfl rfl .nil))))) (.cons (.same rfl rfl) (.cons (.same rfl rfl) (.cons (.same rfl rfl) (.cons (.same rfl rfl) (.nil _))))) rfl) (fun k hk => ?_)
    | refine ACall.useIs [0, 2, 4, 3, 1, 5] (ask_call n m ll hr hg c hc 9 (k : Int) mt [] ?_ ?_ ?_ ?_) rfl (.cons (.same rfl rfl) (.cons (.ro rfl rfl) (.cons (.arr rfl ?_) (.cons (.ro rfl rfl) (.cons (.same rfl rfl) (.cons (.ro rfl rfl) (.nil _))))))) rfl ?_
    | refine Ret.bool [0, 1] ?_ (.cons (.same rfl rfl) (.cons (.arr rfl ?_) (.nil _))) rfl
    | refine roundEnd (k + 1) ?_ ?_ (Weak.of [0, 1, 2, 3] (.cons rfl rfl (.cons rfl rfl (.cons rfl rfl (.cons rfl rfl (.cons rfl rfl .nil))))) (.cons (.same rfl rfl) (.cons (.same rfl rfl) (.cons (.same rfl rfl) (.cons (.same rfl rfl) (.nil _))))) rfl)
    | refine roundEnd (k + 1) ?_ ?_ (Weak.of [0, 1, 2, 3] (.cons rfl rfl (.cons rfl rfl (.cons rfl rfl (.cons rfl rfl (.cons rfl rfl .nil))))) (.cons (.same rfl rfl) (.cons (.arr rfl ?_) (.cons (.same rfl rfl) (.cons (.same rfl rfl) (.nil _))))) rfl)
    | refine VC.mk ?_ ?_
  all_goals try simp only [decide_eq_true_eq, decide_eq_false_iff_not, Bool.not_eq_true', Bool.not_eq_false', cond_true, cond_false, eqB_true, eqB_false] at *
  all_goals try simp only [in64, idxAdd_zero_left, Int.toNat_natCast, fillTo_length, Int.ofNat_lt, Int.ofNat_le, Int.natCast_inj] at *
  all_goals try have hw := goodP_wish hg
  all_goals try have hgl := goodP_len hg
  all_goals try have hT : AskInv m k mt [] (askR ll 9 k mt []) := askR_inv hw 9 k mt [] (.nil m)
  all_goals try
    have hTl := hT.len
  all_goals first
    | omega
    | rfl
    | exact AsOk.nil m
    | exact ⟨by omega, by omega⟩
    | exact ⟨Nat.zero_le _, fun j hj => by omega⟩
    | exact maskL_nil _
    | exact (maskL_nil _).symm
    | (rw [maskL_nil]; done)
    | exact (maskL_nil _).symm
    | (have hp : impAt ll mt k = true := by simp only [impAt, tryA, Bool.and_eq_true, decide_eq_true_eq]; exact ⟨by assumption, by assumption⟩
       have e := imp_here (by omega) hk.2 hp
       first
       | (rw [e.1]; done)
       | (rw [e.2]; rfl)
       | (rw [e.2, tryA]; done)
       | (rw [impR, if_pos e.1, e.2]; rfl)
       | (rw [impR, if_pos e.1, e.2, tryA]; done)
       | (rw [impR, if_pos e.1, e.2, tryA, hTl]; omega))
    | (have hp : impAt ll mt k = false := by
         simp only [impAt, tryA, Bool.and_eq_false_iff, decide_eq_false_iff_not]
         first | exact .inl (by assumption) | exact .inr (by assumption)
       refine ⟨by omega, fun j hj => ?_⟩
       rcases Nat.lt_or_ge j k with h | h
       · exact hk.2 j h
       · have ej : j = k := by omega
         rw [ej]; exact hp)
    | exact (hT.same (by assumption)).symm
    | exact hT.same (by assumption)
    | (have e := imp_none (ll := ll) (mt := mt) (fun j hj => hk.2 j (by omega))
       first
       | (rw [e.1]; done)
       | (rw [e.2]; done)
       | (rw [impR, if_neg (by rw [e.1]; simp)]; done)
       | (rw [impR, if_neg (by rw [e.1]; simp)]; rfl))
    | exact ⟨rfl, rfl⟩
    | exact ⟨rfl, trivial⟩
    | exact ⟨by simp, by simp, by omega⟩
    | (rw [Nat.zero_add]; omega)
    | (simp [sub, List.take_of_length_le (show mt.length ≤ c by omega)]; done)
    | (simp [sub]; omega)
    | (rw [List.take_of_length_le (by omega)]; done)

theorem l10Improve_call (n m : Int) (ll : List (List Int)) (hr : SmallR ll) (hg : goodP n m ll = true) (mt : List Int) (c : Nat) (hc : c = ll.length) (hlen : mt.length = c) : ACall Try.prog 54 [.agg [.int .i64 n, .int .i64 m, .slice ⟨0, 0, 0, 1, 0⟩ ll.length], .slice ⟨1, 0, 0, 1, 0⟩ c] [.rows true ll, .arr true .int mt] (Is (.tuple [.slice ⟨2, 0, 0, 1, 0⟩ (impR ll mt).length, .bool (impB ll mt)]) [.rows true ll, .arr true .int mt, .arr false .int (impR ll mt)]) := by
  refine ACall.walk T Try.func54 Try.ntmps54 Try.results54 rfl rfl rfl (Is.nv _ _) ?_
  repeat' (conv => whnf); first
    | refine AWP.seq ?_
    | refine AWP.reg T rfl ?_
    | refine AWP.drw T none rfl rfl rfl ?_
    | refine AWP.dep T none rfl rfl rfl rfl ?_
    | refine AWP.block ?_
    | refine AWP.condT rfl ?_
    | refine AWP.condF rfl ?_
    | refine AWP.cond rfl (fun hb => ?_) (fun hb => ?_)
    | refine AWP.ret ?_
    | refine AWP.exit ?_
    | refine AWP.skip ?_
    | refine GuardB.t ?_
    | refine GuardB.f ?_
    | refine GuardB.mk (fun hb => ?_) (fun hb => ?_)
    | refine NilQ.mk (fun hb => ?_) ?_
    | refine VC.mk Nat.zero_lt_one ?_
    | refine VC.mk rfl ?_
    | refine AWP.while (ι := Nat) (fun k => St.of [(1, .slice ⟨1, 0, 0, 1, 0⟩ c), (2, .ptr ⟨2, 0, 0, 3, 0⟩), (9, .slice ⟨1, 0, 0, 1, 0⟩ c), (10, .int .i64 c), (11, .int .i64 k)] [.rows true ll, .arr true .int mt, .arr false (.raw 3) [[.int .i64 n, .int .i64 m, .slice ⟨0, 0, 0, 1, 0⟩ ll.length]]]) (fun k => k ≤ c ∧ ∀ j, j < k → impAt ll mt j = false) (fun k => c - k) 0 ?_
        (Weak.of [0, 1, 2] (.cons rfl rfl (.cons rfl rfl (.cons rfl rfl (.cons rfl rfl (.cons rfl rfl .nil))))) (.cons (.same rfl rfl) (.cons (.same rfl rfl) (.cons (.same rfl rfl) (.nil _)))) rfl) (fun k hk => ?_)
    | refine AWP.drw T (some [2]) rfl rfl rfl ?_
    | refine ACall.useIs [0, 4, 5] (try_call n m ll hr hg (0 + c) (by omega) 9 (k : Int) mt [] ?_ ?_ ?_ ?_) rfl (.cons (.same rfl rfl) (.cons (.arr rfl ?_) (.cons (.arr rfl ?_) (.nil _)))) rfl ?_
    | refine Ret.sb [0, 1, 4] rfl ?_ ?_ (.cons (.same rfl rfl) (.cons (.same rfl rfl) (.cons (.arr rfl ?_) (.nil _)))) rfl
    | refine Ret.sb [0, 1, 3] rfl ?_ ?_ (.cons (.same rfl rfl) (.cons (.same rfl rfl) (.cons (.arr rfl ?_) (.nil _)))) rfl
    | refine roundEnd (k + 1) ?_ ?_ (Weak.of [0, 1, 2] (.cons rfl rfl (.cons rfl rfl (.cons rfl rfl (.cons rfl rfl (.cons rfl rfl .nil))))) (.cons (.same rfl rfl) (.cons (.same rfl rfl) (.cons (.same rfl rfl) (.nil _)))) rfl)
    | refine VC.mk ?_ ?_
  all_goals try simp only [decide_eq_true_eq, decide_eq_false_iff_not, Bool.not_eq_true', Bool.not_eq_false', cond_true, cond_false, eqB_true, eqB_false] at *
  all_goals try simp only [in64, idxAdd_zero_left, Int.toNat_natCast, fillTo_length, Int.ofNat_lt, Int.ofNat_le, Int.natCast_inj] at *
  all_goals try have hw := goodP_wish hg
  all_goals try have hgl := goodP_len hg
  all_goals try have hT : AskInv m k mt [] (askR ll 9 k mt []) := askR_inv hw 9 k mt [] (.nil m)
  all_goals try
    have hTl := hT.len
  all_goals first
    | omega
    | rfl
    | exact AsOk.nil m
    | exact ⟨by omega, by omega⟩
    | exact ⟨Nat.zero_le _, fun j hj => by omega⟩
    | exact maskL_nil _
    | exact (maskL_nil _).symm
    | (rw [maskL_nil]; done)
    | exact (maskL_nil _).symm
    | (have hp : impAt ll mt k = true := by simp only [impAt, tryA, Bool.and_eq_true, decide_eq_true_eq]; exact ⟨by assumption, by assumption⟩
       have e := imp_here (by omega) hk.2 hp
       first
       | (rw [e.1]; done)
       | (rw [e.2]; rfl)
       | (rw [e.2, tryA]; done)
       | (rw [impR, if_pos e.1, e.2]; rfl)
       | (rw [impR, if_pos e.1, e.2, tryA]; done)
       | (rw [impR, if_pos e.1, e.2, tryA, hTl]; omega))
    | (have hp : impAt ll mt k = false := by
         simp only [impAt, tryA, Bool.and_eq_false_iff, decide_eq_false_iff_not]
         first | exact .inl (by assumption) | exact .inr (by assumption)
       refine ⟨by omega, fun j hj => ?_⟩
       rcases Nat.lt_or_ge j k with h | h
       · exact hk.2 j h
       · have ej : j = k := by omega
         rw [ej]; exact hp)
    | exact (hT.same (by assumption)).symm
    | exact hT.same (by assumption)
    | (have e := imp_none (ll := ll) (mt := mt) (fun j hj => hk.2 j (by omega))
       first
       | (rw [e.1]; done)
       | (rw [e.2]; done)
       | (rw [impR, if_neg (by rw [e.1]; simp)]; done)
       | (rw [impR, if_neg (by rw [e.1]; simp)]; rfl))
    | exact ⟨rfl, rfl⟩
    | exact ⟨rfl, trivial⟩
    | exact ⟨by simp, by simp, by omega⟩
    | (rw [Nat.zero_add]; omega)
    | (simp [sub, List.take_of_length_le (show mt.length ≤ c by omega)]; done)
    | (simp [sub]; omega)
    | (rw [List.take_of_length_le (by omega)]; done)

end YtofjbgpaofcpjaaAM
