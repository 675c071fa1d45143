/- Contracts of functions of this seat. -/
import Derived.Test.YtofjbgpaofcpjaaAmTabPairs
import Derived.Test.YtofjbgpaofcpjaaAmModels
import Derived.Test.YtofjbgpaofcpjaaAmPairs1
import Derived.Test.YtofjbgpaofcpjaaAmSortModels
import Derived.Test.YtofjbgpaofcpjaaAmRowSt
set_option linter.unusedVariables false
set_option linter.unusedSimpArgs false
set_option maxRecDepth 100000
namespace YtofjbgpaofcpjaaAM
open Go Go.Proofs
attribute [local irreducible] sortN midL sortI

theorem len64_call (x : Int) (hx : 0 ≤ x ∧ x ≤ 255) : ACall Try.prog 98 [.int .u64 x] [] (fun _ H' => H' = []) := by
  refine ACall.walk T Try.func98 Try.ntmps98 Try.results98 rfl rfl rfl ⟨.undef, [], rfl⟩ ?_
  repeat' (conv => whnf); first
    | refine AWP.regX (id := 10) T 3 rfl ?_
    | refine XGoal.str 9 Try.underlying9 rfl rfl ?_
    | refine AWP.cond rfl (fun hb => absurd (of_decide_eq_true hb) (by omega)) (fun hb => ?_)
    | refine AWP.seq ?_
    | refine AWP.reg T rfl ?_
    | refine AWP.drw T none rfl rfl rfl ?_
    | refine AWP.dep T none rfl rfl rfl rfl ?_
    | refine AWP.block ?_
    | refine AWP.condT rfl ?_
    | refine AWP.condF rfl ?_
    | refine AWP.cond rfl (fun hb => ?_) (fun hb => ?_)
    | refine AWP.ret ?_
    | refine AWP.exit ?_
    | refine AWP.skip ?_
    | refine GuardB.t ?_
    | refine GuardB.f ?_
    | refine GuardB.mk (fun hb => ?_) (fun hb => ?_)
    | refine NilQ.mk (fun hb => ?_) ?_
    | refine VC.mk Nat.zero_lt_one ?_
    | refine VC.mk rfl ?_
    | refine Ret.of [] (.int .i64 _) [] rfl (.nil _) rfl rfl
    | refine VC.mk ?_ ?_
  all_goals first
    | omega
    | exact in64_str _ _
    | exact in64_byte _ _
    | (rw [wrap_u8 hx]; exact ⟨hx.1, by show _ < 256; omega⟩)
theorem bitsLen_call (x : Int) (hx : 0 ≤ x ∧ x ≤ 255) : ACall Try.prog 84 [.int .u64 x] [] (fun _ H' => H' = []) := by
  refine ACall.walk T Try.func84 Try.ntmps84 Try.results84 rfl rfl rfl ⟨.undef, [], rfl⟩ ?_
  repeat' (conv => whnf); first
    | refine AWP.seq ?_
    | refine AWP.reg T rfl ?_
    | refine AWP.drw T none rfl rfl rfl ?_
    | refine AWP.dep T none rfl rfl rfl rfl ?_
    | refine AWP.block ?_
    | refine AWP.condT rfl ?_
    | refine AWP.condF rfl ?_
    | refine AWP.cond rfl (fun hb => ?_) (fun hb => ?_)
    | refine AWP.ret ?_
    | refine AWP.exit ?_
    | refine AWP.skip ?_
    | refine GuardB.t ?_
    | refine GuardB.f ?_
    | refine GuardB.mk (fun hb => ?_) (fun hb => ?_)
    | refine NilQ.mk (fun hb => ?_) ?_
    | refine VC.mk Nat.zero_lt_one ?_
    | refine VC.mk rfl ?_
    | refine ACall.useIs [] ((len64_call x hx).hide (fun _ _ h => h)) rfl (.nil _) rfl ?_
    | refine Ret.of [] .undef [] rfl (.nil _) rfl rfl
    | refine VC.mk ?_ ?_
theorem isNaN_call (x : Int) : ACall Try.prog 104 [.int .i64 x] [] (Is (.bool false) []) := by
  refine ACall.walk T Try.func104 Try.ntmps104 Try.results104 rfl rfl rfl (Is.nv _ _) ?_
  repeat' (conv => whnf); first
    | refine AWP.seq ?_
    | refine AWP.reg T rfl ?_
    | refine AWP.drw T none rfl rfl rfl ?_
    | refine AWP.dep T none rfl rfl rfl rfl ?_
    | refine AWP.block ?_
    | refine AWP.condT rfl ?_
    | refine AWP.condF rfl ?_
    | refine AWP.cond rfl (fun hb => ?_) (fun hb => ?_)
    | refine AWP.ret ?_
    | refine AWP.exit ?_
    | refine AWP.skip ?_
    | refine GuardB.t ?_
    | refine GuardB.f ?_
    | refine GuardB.mk (fun hb => ?_) (fun hb => ?_)
    | refine NilQ.mk (fun hb => ?_) ?_
    | refine VC.mk Nat.zero_lt_one ?_
    | refine VC.mk rfl ?_
    | refine Ret.bool [] ?_ (.nil _) rfl
    | refine VC.mk ?_ ?_
  all_goals simp
theorem less_call (x y : Int) : ACall Try.prog 94 [.int .i64 x, .int .i64 y] [] (Is (.bool (decide (x < y))) []) := by
  refine ACall.walk T Try.func94 Try.ntmps94 Try.results94 rfl rfl rfl (Is.nv _ _) ?_
  repeat' (conv => whnf); first
    | refine AWP.seq ?_
    | refine AWP.reg T rfl ?_
    | refine AWP.drw T none rfl rfl rfl ?_
    | refine AWP.dep T none rfl rfl rfl rfl ?_
    | refine AWP.block ?_
    | refine AWP.condT rfl ?_
    | refine AWP.condF rfl ?_
    | refine AWP.cond rfl (fun hb => ?_) (fun hb => ?_)
    | refine AWP.ret ?_
    | refine AWP.exit ?_
    | refine AWP.skip ?_
    | refine GuardB.t ?_
    | refine GuardB.f ?_
    | refine GuardB.mk (fun hb => ?_) (fun hb => ?_)
    | refine NilQ.mk (fun hb => ?_) ?_
    | refine VC.mk Nat.zero_lt_one ?_
    | refine VC.mk rfl ?_
    | refine ACall.useIs [] (isNaN_call _) rfl (.nil _) rfl ?_
    | refine Ret.bool [] ?_ (.nil _) rfl
    | refine VC.mk ?_ ?_
  all_goals rfl
theorem insertion_call (l : List Int) (hl : l.length ≤ 1048576) : ACall Try.prog 88 [.slice ⟨0, 0, 0, 1, 0⟩ l.length, .int .i64 0, .int .i64 l.length] [.arr false .int l] (Is (.tuple []) [.arr false .int (sortI l)]) := by
  refine ACall.walk T Try.func88 Try.ntmps88 Try.results88 rfl rfl rfl (Is.nv _ _) ?_
  repeat' (conv => whnf); first
    | refine AWP.seq ?_
    | refine AWP.reg T rfl ?_
    | refine AWP.drw T none rfl rfl rfl ?_
    | refine AWP.dep T none rfl rfl rfl rfl ?_
    | refine AWP.block ?_
    | refine AWP.condT rfl ?_
    | refine AWP.condF rfl ?_
    | refine AWP.cond rfl (fun hb => ?_) (fun hb => ?_)
    | refine AWP.ret ?_
    | refine AWP.exit ?_
    | refine AWP.skip ?_
    | refine GuardB.t ?_
    | refine GuardB.f ?_
    | refine GuardB.mk (fun hb => ?_) (fun hb => ?_)
    | refine NilQ.mk (fun hb => ?_) ?_
    | refine VC.mk Nat.zero_lt_one ?_
    | refine VC.mk rfl ?_
    | refine AWP.while (ι := Nat) (fun j => St.of [(0, .slice ⟨0, 0, 0, 1, 0⟩ l.length), (1, .int .i64 0), (2, .int .i64 l.length), (6, .int .i64 k), (7, .int .i64 j)] [.arr false .int (midL l k j)]) (fun j => j ≤ k ∧ ∀ y ∈ (sortN l k).drop j, l.getD k 0 < y) (fun j => j) k ?_
        (Weak.of [0] (.cons rfl rfl (.cons rfl rfl (.cons rfl rfl (.cons rfl rfl (.cons rfl rfl .nil))))) (.cons (.arr rfl ?_) (.nil _)) rfl) (fun j hj => ?_)
    | refine AWP.while (ι := Nat) (fun k => St.of [(0, .slice ⟨0, 0, 0, 1, 0⟩ l.length), (1, .int .i64 0), (2, .int .i64 l.length), (6, .int .i64 k)] [.arr false .int (sortN l k ++ l.drop k)]) (fun k => 1 ≤ k ∧ k ≤ l.length + 1) (fun k => l.length + 1 - k) 1 ⟨Nat.le_refl _, by omega⟩
        (Weak.of [0] (.cons rfl rfl (.cons rfl rfl (.cons rfl rfl (.i rfl ?_ .nil)))) (.cons (.arr rfl ?_) (.nil _)) rfl) (fun k hk => ?_)
    | refine ACall.useIs [] (less_call _ _) rfl (.nil _) rfl ?_
    | refine roundEnd (j - 1) ?_ ?_ (Weak.of [0] (.cons rfl rfl (.cons rfl rfl (.cons rfl rfl (.cons rfl rfl (.i rfl ?_ .nil))))) (.cons (.arr rfl ?_) (.nil _)) rfl)
    | refine roundEnd (k + 1) ?_ ?_ (Weak.of [0] (.cons rfl rfl (.cons rfl rfl (.cons rfl rfl (.cons rfl rfl .nil)))) (.cons (.arr rfl ?_) (.nil _)) rfl)
    | refine Ret.is [0] rfl (.cons (.arr rfl ?_) (.nil _)) rfl
    | refine VC.mk ?_ ?_
  all_goals try simp only [decide_eq_true_eq, decide_eq_false_iff_not, Bool.not_eq_true', Bool.not_eq_false', cond_true, cond_false, eqB_true, eqB_false] at *
  all_goals try simp only [in64, idxAdd_zero_left, Int.toNat_natCast, fillTo_length, Int.ofNat_lt, Int.ofNat_le, Int.natCast_inj] at *
  all_goals try
    have hk2 : k < l.length := by omega
    have hms := sortN_len (l := l) k (by omega)
  all_goals try have hml := midL_len hk2 hj.1
  all_goals try
    have e1 : ((j : Int) - 1).toNat = j - 1 := by omega
    simp only [e1] at *
  all_goals try simp only [List.length_set] at *
  all_goals try
    have hma := midL_at hk2 hj.1
    have hmb := midL_below hk2 hj.1 (by omega)
  all_goals first
    | omega
    | exact ⟨by omega, by omega⟩
    | rfl
    | exact (sort_start l).symm
    | exact sort_start l
    | exact ⟨Nat.le_refl _, fun y hy => by rw [List.drop_of_length_le (by omega)] at hy; simp at hy⟩
    | exact midL_start hk2
    | exact (midL_start hk2).symm
    | exact ⟨by omega, drop_more (by omega) (by omega) hj.2 (by rw [← hmb, ← hma]; assumption)⟩
    | exact midL_swap hk2 hj.1 (by omega)
    | exact (midL_swap hk2 hj.1 (by omega)).symm
    | exact (midL_end hk2 hj.1 hj.2 (.inl (by omega)))
    | exact (midL_end hk2 hj.1 hj.2 (.inl (by omega))).symm
    | exact (midL_end hk2 hj.1 hj.2 (.inr (by rw [← hmb, ← hma]; omega)))
    | exact (midL_end hk2 hj.1 hj.2 (.inr (by rw [← hmb, ← hma]; omega))).symm
    | exact sort_done (by omega)
    | exact (sort_done (by omega)).symm
    | (have := hk.1; have := hk.2; omega)
theorem pdq_call (l : List Int) (hl : l.length ≤ 12) : ACall Try.prog 83 [.slice ⟨0, 0, 0, 1, 0⟩ l.length, .int .i64 0, .int .i64 l.length, .undef] [.arr false .int l] (Is (.tuple []) [.arr false .int (sortI l)]) := by
  refine ACall.walk T Try.func83 Try.ntmps83 Try.results83 rfl rfl rfl (Is.nv _ _) ?_
  repeat' (conv => whnf); first
    | refine AWP.cond rfl (fun hb => ?_) (fun hb => absurd (of_decide_eq_false hb) (by omega))
    | refine AWP.seq ?_
    | refine AWP.reg T rfl ?_
    | refine AWP.drw T none rfl rfl rfl ?_
    | refine AWP.dep T none rfl rfl rfl rfl ?_
    | refine AWP.block ?_
    | refine AWP.condT rfl ?_
    | refine AWP.condF rfl ?_
    | refine AWP.cond rfl (fun hb => ?_) (fun hb => ?_)
    | refine AWP.ret ?_
    | refine AWP.exit ?_
    | refine AWP.skip ?_
    | refine GuardB.t ?_
    | refine GuardB.f ?_
    | refine GuardB.mk (fun hb => ?_) (fun hb => ?_)
    | refine NilQ.mk (fun hb => ?_) ?_
    | refine VC.mk Nat.zero_lt_one ?_
    | refine VC.mk rfl ?_
    | refine AWP.while (ι := Nat) (fun k => St.of [(0, .slice ⟨0, 0, 0, 1, 0⟩ l.length), (1, .int .i64 0), (2, .int .i64 l.length)] [.arr false .int l]) (fun k => True) (fun k => 0) 0 trivial
        (Weak.of [0] (.cons rfl rfl (.cons rfl rfl (.cons rfl rfl .nil))) (.cons (.same rfl rfl) (.nil _)) rfl) (fun k hk => ?_)
    | refine ACall.useIs [0] (insertion_call _ ?_) rfl (.cons (.same rfl rfl) (.nil _)) rfl ?_
    | refine Ret.is [0] rfl (.cons (.same rfl rfl) (.nil _)) rfl
    | refine VC.mk ?_ ?_
  all_goals try simp only [decide_eq_true_eq, decide_eq_false_iff_not, Bool.not_eq_true', Bool.not_eq_false', cond_true, cond_false, eqB_true, eqB_false] at *
  all_goals try simp only [in64, idxAdd_zero_left, Int.toNat_natCast, fillTo_length, Int.ofNat_lt, Int.ofNat_le, Int.natCast_inj] at *
  all_goals first
    | omega
    | rfl
theorem sort_call (l : List Int) (n : Nat) (hl : l.length ≤ 12) (hn : n = l.length) : ACall Try.prog 79 [.slice ⟨0, 0, 0, 1, 0⟩ n] [.arr false .int l] (Is (.tuple []) [.arr false .int (sortI l)]) := by
  refine ACall.walk T Try.func79 Try.ntmps79 Try.results79 rfl rfl rfl (Is.nv _ _) ?_
  repeat' (conv => whnf); first
    | refine AWP.seq ?_
    | refine AWP.reg T rfl ?_
    | refine AWP.drw T none rfl rfl rfl ?_
    | refine AWP.dep T none rfl rfl rfl rfl ?_
    | refine AWP.block ?_
    | refine AWP.condT rfl ?_
    | refine AWP.condF rfl ?_
    | refine AWP.cond rfl (fun hb => ?_) (fun hb => ?_)
    | refine AWP.ret ?_
    | refine AWP.exit ?_
    | refine AWP.skip ?_
    | refine GuardB.t ?_
    | refine GuardB.f ?_
    | refine GuardB.mk (fun hb => ?_) (fun hb => ?_)
    | refine NilQ.mk (fun hb => ?_) ?_
    | refine VC.mk Nat.zero_lt_one ?_
    | refine VC.mk rfl ?_
    | refine ACall.useIs [] ((bitsLen_call _ ?_).hide (fun _ _ h => h)) rfl (.nil _) rfl ?_
    | subst hn
      refine ACall.useIs [0] (pdq_call _ ?_) rfl (.cons (.same rfl rfl) (.nil _)) rfl ?_
    | refine Ret.is [0] rfl (.cons (.same rfl rfl) (.nil _)) rfl
    | refine VC.mk ?_ ?_
  all_goals first
    | omega
    | rfl
    | (rw [wrap_u64 ⟨by omega, by omega⟩]; omega)
    | (rw [wrap_u64 ⟨by omega, by omega⟩]; exact ⟨by omega, by omega⟩)

end YtofjbgpaofcpjaaAM
