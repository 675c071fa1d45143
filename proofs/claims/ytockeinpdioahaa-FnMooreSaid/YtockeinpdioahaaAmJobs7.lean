/- Contracts of functions of this seat. -/
import Derived.Test.YtockeinpdioahaaAmTabJobs
import Derived.Test.YtockeinpdioahaaAmModels
import Derived.Test.YtockeinpdioahaaAmJobs6
import Derived.Test.YtockeinpdioahaaAmJobLaw
import Derived.Test.YtockeinpdioahaaAmDraws
import Derived.Test.YtockeinpdioahaaAmDrawsX
set_option linter.unusedVariables false
set_option linter.unusedSimpArgs false
set_option maxRecDepth 100000
set_option maxHeartbeats 2000000
namespace YtockeinpdioahaaAM
open Go Go.Proofs
attribute [local irreducible] rangeI NextOk PickOk OneOk AmongOk

theorem sub_lenM {α : Type} (l : List α) (i m : Nat) : (sub l i m).length = min m (l.length - i) := by simp [sub]
theorem next_call (code : List Int) (hcode : ∀ x ∈ code, 0 ≤ x ∧ x ≤ 255) (a : Nat) (sd : Int) (hc : a ≤ 1099511627778) : ACall Try.prog 86 [.ptr ⟨0, 0, 0, 3, 0⟩] [.arr false (.raw 3) [[.slice ⟨1, 0, 0, 1, 0⟩ code.length, .int .i64 (a : Nat), .int .u64 (sd)]], .arr true .byte code] (Ex (ι := Int × Cu) (fun i => .int .i64 i.1) (fun i => [.arr false (.raw 3) [[.slice ⟨1, 0, 0, 1, 0⟩ code.length, .int .i64 (i.2.at' : Nat), .int .u64 (i.2.seed)]], .arr true .byte code]) (fun i => NextOk ⟨a, sd⟩ i)) := by
  refine ACall.walk T Try.func86 Try.ntmps86 Try.results86 rfl rfl rfl (Ex.nv (0, ⟨a, sd⟩) (NextOk.zero _)) ?_
  repeat' (conv => whnf); first
    | refine AWP.seq ?_
    | refine AWP.reg T rfl ?_
    | refine AWP.drw T none rfl rfl rfl ?_
    | refine AWP.dep T none rfl rfl rfl rfl ?_
    | refine AWP.block ?_
    | refine AWP.condT rfl ?_
    | refine AWP.condF rfl ?_
    | refine AWP.cond rfl (fun hb => ?_) (fun hb => ?_)
    | refine AWP.ret ?_
    | refine AWP.exit ?_
    | refine AWP.skip ?_
    | refine GuardB.t ?_
    | refine GuardB.f ?_
    | refine GuardB.mk (fun hb => ?_) (fun hb => ?_)
    | refine NilQ.mk (fun hb => ?_) ?_
    | refine VC.mk Nat.zero_lt_one ?_
    | refine VC.mk rfl ?_
    | refine Ret.ex [0, 1] (_, ⟨a + 1, _⟩) ?_ rfl (.cons (.same rfl rfl) (.cons (.same rfl rfl) (.nil _))) rfl
    | refine VC.mk ?_ ?_
  all_goals try simp only [decide_eq_true_eq, decide_eq_false_iff_not, Bool.not_eq_true', Bool.not_eq_false', cond_true, cond_false, eqB_true, eqB_false] at *
  all_goals try simp only [in64, idxAdd_zero_left, Int.toNat_natCast, fillTo_length, Int.ofNat_lt, Int.ofNat_le, Int.natCast_inj] at *
  all_goals have hby := byte_at hcode a
  all_goals try simp only [Int.toNat_natCast] at *
  all_goals first
    | omega
    | exact ⟨by omega, by omega⟩
    | exact ⟨rfl, trivial⟩
    | exact NextOk.byte hcode ⟨a, sd⟩ _ _
    | exact NextOk.low ⟨a, sd⟩ _ _
    | exact ⟨Int.le_trans (by decide) (and255 _).1, Int.le_trans (and255 _).2 (by decide)⟩
theorem pick_call (code : List Int) (hcode : ∀ x ∈ code, 0 ≤ x ∧ x ≤ 255) (a : Nat) (sd : Int) (n : Int) (hn : n ≤ 100000) (hc : a ≤ 1099511627777) : ACall Try.prog 79 [.ptr ⟨0, 0, 0, 3, 0⟩, .int .i64 n] [.arr false (.raw 3) [[.slice ⟨1, 0, 0, 1, 0⟩ code.length, .int .i64 (a : Nat), .int .u64 (sd)]], .arr true .byte code] (Ex (ι := Int × Cu) (fun i => .int .i64 i.1) (fun i => [.arr false (.raw 3) [[.slice ⟨1, 0, 0, 1, 0⟩ code.length, .int .i64 (i.2.at' : Nat), .int .u64 (i.2.seed)]], .arr true .byte code]) (fun i => PickOk ⟨a, sd⟩ n i)) := by
  refine ACall.walk T Try.func79 Try.ntmps79 Try.results79 rfl rfl rfl (Ex.nv (0, ⟨a, sd⟩) (PickOk.zero _ n)) ?_
  repeat' (conv => whnf); first
    | refine AWP.seq ?_
    | refine AWP.reg T rfl ?_
    | refine AWP.drw T none rfl rfl rfl ?_
    | refine AWP.dep T none rfl rfl rfl rfl ?_
    | refine AWP.block ?_
    | refine AWP.condT rfl ?_
    | refine AWP.condF rfl ?_
    | refine AWP.cond rfl (fun hb => ?_) (fun hb => ?_)
    | refine AWP.ret ?_
    | refine AWP.exit ?_
    | refine AWP.skip ?_
    | refine GuardB.t ?_
    | refine GuardB.f ?_
    | refine GuardB.mk (fun hb => ?_) (fun hb => ?_)
    | refine NilQ.mk (fun hb => ?_) ?_
    | refine VC.mk Nat.zero_lt_one ?_
    | refine VC.mk rfl ?_
    | refine ACall.useExC [0, 1] (next_call code hcode _ _ ?_) rfl (.cons (.same rfl rfl) (.cons (.same rfl rfl) (.nil _))) rfl (fun i iA iS hi => ?_)
    | refine Ret.ex [0, 1] (_, ⟨_, _⟩) ?_ rfl (.cons (.same rfl rfl) (.cons (.same rfl rfl) (.nil _))) rfl
    | refine VC.mk ?_ ?_
  all_goals try simp only [decide_eq_true_eq, decide_eq_false_iff_not, Bool.not_eq_true', Bool.not_eq_false', cond_true, cond_false, eqB_true, eqB_false] at *
  all_goals try simp only [in64, idxAdd_zero_left, Int.toNat_natCast, fillTo_length, Int.ofNat_lt, Int.ofNat_le, Int.natCast_inj] at *
  all_goals first
    | omega
    | exact PickOk.zero _ n
    | exact hi.in64
    | exact NextOk.in64'' (by assumption) hi
    | exact PickOk.two' (by assumption) hi (by assumption)
    | exact PickOk.one hi (by assumption)
    | exact hi.le hc
theorem one_call (code : List Int) (hcode : ∀ x ∈ code, 0 ≤ x ∧ x ≤ 255) (a : Nat) (sd : Int) (n : Int) (hn : n ≤ 100000) (hc : a ≤ 1099511627776) : ACall Try.prog 80 [.ptr ⟨0, 0, 0, 3, 0⟩, .int .i64 n] [.arr false (.raw 3) [[.slice ⟨1, 0, 0, 1, 0⟩ code.length, .int .i64 (a : Nat), .int .u64 (sd)]], .arr true .byte code] (Ex (ι := Bool × Cu) (fun i => .bool i.1) (fun i => [.arr false (.raw 3) [[.slice ⟨1, 0, 0, 1, 0⟩ code.length, .int .i64 (i.2.at' : Nat), .int .u64 (i.2.seed)]], .arr true .byte code]) (fun i => OneOk ⟨a, sd⟩ i)) := by
  refine ACall.walk T Try.func80 Try.ntmps80 Try.results80 rfl rfl rfl (Ex.nv (false, ⟨a, sd⟩) (OneOk.zero _)) ?_
  repeat' (conv => whnf); first
    | refine AWP.seq ?_
    | refine AWP.reg T rfl ?_
    | refine AWP.drw T none rfl rfl rfl ?_
    | refine AWP.dep T none rfl rfl rfl rfl ?_
    | refine AWP.block ?_
    | refine AWP.condT rfl ?_
    | refine AWP.condF rfl ?_
    | refine AWP.cond rfl (fun hb => ?_) (fun hb => ?_)
    | refine AWP.ret ?_
    | refine AWP.exit ?_
    | refine AWP.skip ?_
    | refine GuardB.t ?_
    | refine GuardB.f ?_
    | refine GuardB.mk (fun hb => ?_) (fun hb => ?_)
    | refine NilQ.mk (fun hb => ?_) ?_
    | refine VC.mk Nat.zero_lt_one ?_
    | refine VC.mk rfl ?_
    | refine ACall.useExC [0, 1] (pick_call code hcode _ _ _ ?_ ?_) rfl (.cons (.same rfl rfl) (.cons (.same rfl rfl) (.nil _))) rfl (fun i iA iS hi => ?_)
    | refine Ret.ex [0, 1] (_, ⟨_, _⟩) ?_ rfl (.cons (.same rfl rfl) (.cons (.same rfl rfl) (.nil _))) rfl
    | refine VC.mk ?_ ?_
  all_goals try simp only [decide_eq_true_eq, decide_eq_false_iff_not, Bool.not_eq_true', Bool.not_eq_false', cond_true, cond_false, eqB_true, eqB_false] at *
  all_goals try simp only [in64, idxAdd_zero_left, Int.toNat_natCast, fillTo_length, Int.ofNat_lt, Int.ofNat_le, Int.natCast_inj] at *
  all_goals first
    | omega
    | exact OneOk.of hi _
theorem among_call (code : List Int) (hcode : ∀ x ∈ code, 0 ≤ x ∧ x ≤ 255) (a : Nat) (sd : Int) (l : List Int) (n : Nat) (hn : n = l.length) (hl : 1 < n ∧ n ≤ 100000) (hc : a ≤ 1099511627776) : ACall Try.prog 81 [.ptr ⟨0, 0, 0, 3, 0⟩, .slice ⟨2, 0, 0, 1, 0⟩ n] [.arr false (.raw 3) [[.slice ⟨1, 0, 0, 1, 0⟩ code.length, .int .i64 (a : Nat), .int .u64 (sd)]], .arr true .byte code, .arr true .int l] (Ex (ι := Int × Cu) (fun i => .int .i64 i.1) (fun i => [.arr false (.raw 3) [[.slice ⟨1, 0, 0, 1, 0⟩ code.length, .int .i64 (i.2.at' : Nat), .int .u64 (i.2.seed)]], .arr true .byte code, .arr true .int l]) (fun i => AmongOk ⟨a, sd⟩ l i)) := by
  refine ACall.walk T Try.func81 Try.ntmps81 Try.results81 rfl rfl rfl (Ex.nv (_, ⟨a, sd⟩) (AmongOk.zero _ (by omega))) ?_
  repeat' (conv => whnf); first
    | refine AWP.seq ?_
    | refine AWP.reg T rfl ?_
    | refine AWP.drw T none rfl rfl rfl ?_
    | refine AWP.dep T none rfl rfl rfl rfl ?_
    | refine AWP.block ?_
    | refine AWP.condT rfl ?_
    | refine AWP.condF rfl ?_
    | refine AWP.cond rfl (fun hb => ?_) (fun hb => ?_)
    | refine AWP.ret ?_
    | refine AWP.exit ?_
    | refine AWP.skip ?_
    | refine GuardB.t ?_
    | refine GuardB.f ?_
    | refine GuardB.mk (fun hb => ?_) (fun hb => ?_)
    | refine NilQ.mk (fun hb => ?_) ?_
    | refine VC.mk Nat.zero_lt_one ?_
    | refine VC.mk rfl ?_
    | refine ACall.useExC [0, 1] (pick_call code hcode _ _ _ ?_ ?_) rfl (.cons (.same rfl rfl) (.cons (.same rfl rfl) (.nil _))) rfl (fun i iA iS hi => ?_)
    | refine Ret.ex [0, 1, 2] (_, ⟨_, _⟩) ?_ rfl (.cons (.same rfl rfl) (.cons (.same rfl rfl) (.cons (.same rfl rfl) (.nil _)))) rfl
    | refine VC.mk ?_ ?_
  all_goals try simp only [decide_eq_true_eq, decide_eq_false_iff_not, Bool.not_eq_true', Bool.not_eq_false', cond_true, cond_false, eqB_true, eqB_false] at *
  all_goals try simp only [in64, idxAdd_zero_left, Int.toNat_natCast, fillTo_length, Int.ofNat_lt, Int.ofNat_le, Int.natCast_inj] at *
  all_goals first
    | omega
    | exact hi.rng (by omega)
    | exact (hi.idx (by omega) (by omega)).2
    | (have := hi.rng (by omega); omega)
    | exact AmongOk.of (by omega) (by omega) hi

theorem jobs_call (code : List Int) (hcode : ∀ x ∈ code, 0 ≤ x ∧ x ≤ 255) (a : Nat) (sd : Int) (hc : a ≤ 1099511627000) : ACall Try.prog 66 [.ptr ⟨0, 0, 0, 3, 0⟩] [.arr false (.raw 3) [[.slice ⟨1, 0, 0, 1, 0⟩ code.length, .int .i64 (a : Nat), .int .u64 (sd)]], .arr true .byte code] (Ex (ι := List S2 × Cu) (fun i => .slice ⟨2, 0, 0, 2, 0⟩ i.1.length) (fun i => [.arr false (.raw 3) [[.slice ⟨1, 0, 0, 1, 0⟩ code.length, .int .i64 (i.2.at' : Nat), .int .u64 (i.2.seed)]], .arr true .byte code, .arr false .s2 i.1]) (fun i => i.1.length ≤ 11 ∧ a ≤ i.2.at' ∧ i.2.at' ≤ a + 300)) := by
  refine ACall.walk T Try.func66 Try.ntmps66 Try.results66 rfl rfl rfl (Ex.nv ([], ⟨a, sd⟩) ⟨by simp, Nat.le_refl _, Nat.le_add_right _ _⟩) ?_
  repeat' (conv => whnf); first
    | refine AWP.seq ?_
    | refine AWP.reg T rfl ?_
    | refine AWP.drw T none rfl rfl rfl ?_
    | refine AWP.dep T none rfl rfl rfl rfl ?_
    | refine AWP.block ?_
    | refine AWP.condT rfl ?_
    | refine AWP.condF rfl ?_
    | refine AWP.cond rfl (fun hb => ?_) (fun hb => ?_)
    | refine AWP.ret ?_
    | refine AWP.exit ?_
    | refine AWP.skip ?_
    | refine GuardB.t ?_
    | refine GuardB.f ?_
    | refine GuardB.mk (fun hb => ?_) (fun hb => ?_)
    | refine NilQ.mk (fun hb => ?_) ?_
    | refine VC.mk Nat.zero_lt_one ?_
    | refine VC.mk rfl ?_
    | refine ACall.useExC [0, 1] (pick_call code hcode _ _ _ ?_ ?_) rfl (.cons (.same rfl rfl) (.cons (.same rfl rfl) (.nil _))) rfl (fun i iA iS hi => ?_)
    | refine ACall.useExC [0, 1] (one_call code hcode _ _ _ ?_ ?_) rfl (.cons (.same rfl rfl) (.cons (.same rfl rfl) (.nil _))) rfl (fun j jA jS hj => ?_)
    | refine AWP.while (ι := Int × List S2 × Nat × Int) (fun g => St.of [(0, .ptr ⟨0, 0, 0, 3, 0⟩), (3, .slice ⟨2, 0, 0, 2, 0⟩ g.2.1.length), (4, .int .i64 g.1)] [.arr false (.raw 3) [[.slice ⟨1, 0, 0, 1, 0⟩ code.length, .int .i64 (g.2.2.1 : Nat), .int .u64 g.2.2.2]], .arr true .byte code, .arr false .s2 g.2.1]) (fun g => (0 ≤ g.1 ∧ g.1 + g.2.1.length ≤ 11) ∧ a ≤ g.2.2.1 ∧ g.2.2.1 ≤ a + 6 + 10 * g.2.1.length) (fun g => g.1.toNat) (_, [], _, _) ?_
        (Weak.of [0, 1, 3] (.cons rfl rfl (.cons rfl rfl (.cons rfl rfl .nil))) (.cons (.same rfl rfl) (.cons (.same rfl rfl) (.cons (.same rfl rfl) (.nil _)))) rfl) (fun g hg => ?_)
    | refine roundEnd (_, _, _, _) ?_ ?_ (Weak.of [0, 1, 4] (.cons rfl rfl (.s rfl ?_ rfl (.cons rfl rfl .nil))) (.cons (.same rfl rfl) (.cons (.same rfl rfl) (.cons (.same rfl rfl) (.nil _)))) rfl)
    | refine ACall.useExC [0, 1, 3] (among_call code hcode _ _ _ 3 rfl ?_ ?_) rfl (.cons (.same rfl rfl) (.cons (.same rfl rfl) (.cons (.ro rfl rfl) (.nil _)))) rfl (fun u uA uS hu => ?_)
    | refine ACall.useExC [0, 1, 4] (among_call code hcode _ _ _ 3 rfl ?_ ?_) rfl (.cons (.same rfl rfl) (.cons (.same rfl rfl) (.cons (.ro rfl rfl) (.nil _)))) rfl (fun v vA vS hv => ?_)
    | refine Ret.ex [0, 1, 2] (_, ⟨_, _⟩) ?_ rfl (.cons (.same rfl rfl) (.cons (.same rfl rfl) (.cons (.same rfl rfl) (.nil _)))) rfl
    | refine Ret.ex [0, 1, 2] (_, ⟨_, _⟩) ?_ ?_ (.cons (.same rfl rfl) (.cons (.same rfl rfl) (.cons (.same rfl rfl) (.nil _)))) rfl
    | refine VC.mk ?_ ?_
  all_goals try simp only [decide_eq_true_eq, decide_eq_false_iff_not, Bool.not_eq_true', Bool.not_eq_false', cond_true, cond_false, eqB_true, eqB_false] at *
  all_goals try simp only [in64, idxAdd_zero_left, Int.toNat_natCast, fillTo_length, Int.ofNat_lt, Int.ofNat_le, Int.natCast_inj] at *
  all_goals try obtain ⟨gn, gl, ga, gs⟩ := g
  all_goals try dsimp only at *
  all_goals try have hamu := AmongOk.le hu
  all_goals try have hamv := AmongOk.le hv
  all_goals try simp only [PickOk, OneOk, Cu.to, sub_len0, sub_len1, sub_lenM, List.length_nil, List.length_append, List.length_singleton, List.length_set] at *
  all_goals first
    | omega
    | rfl
    | exact ⟨by omega, by omega⟩
    | (refine ⟨?_, ?_, ?_⟩ <;> first | omega | (simp; done))
    | exact ⟨rfl, trivial⟩
    | exact congrArg (AV.slice ⟨2, 0, 0, 2, 0⟩) (by simp)
    | exact congrArg (AV.slice ⟨4, 0, 0, 1, 0⟩) (by simp)
    | (refine ⟨⟨?_, ?_⟩, ?_⟩ <;> first | omega | (simp; omega))

theorem jobOrder_call (code : List Int) (hcode : ∀ x ∈ code, 0 ≤ x ∧ x ≤ 255) (a : Nat) (sd : Int) (n : Int) (hn : 0 ≤ n ∧ n ≤ 1000) (hc : a ≤ 1099511620000) : ACall Try.prog 67 [.ptr ⟨0, 0, 0, 3, 0⟩, .int .i64 n] [.arr false (.raw 3) [[.slice ⟨1, 0, 0, 1, 0⟩ code.length, .int .i64 (a : Nat), .int .u64 (sd)]], .arr true .byte code] (Ex (ι := List Int × Cu) (fun i => .slice ⟨2, 0, 0, 1, 0⟩ i.1.length) (fun i => [.arr false (.raw 3) [[.slice ⟨1, 0, 0, 1, 0⟩ code.length, .int .i64 (i.2.at' : Nat), .int .u64 (i.2.seed)]], .arr true .byte code, .arr false .int (i.1)]) (fun i => (i.1.length : Int) = n ∧ a ≤ i.2.at' ∧ i.2.at' ≤ a + 5000)) := by
  refine ACall.walk T Try.func67 Try.ntmps67 Try.results67 rfl rfl rfl (Ex.nv (rangeI n.toNat, ⟨a, sd⟩) ⟨by rw [rangeI_length]; omega, Nat.le_refl _, Nat.le_add_right _ _⟩) ?_
  repeat' (conv => whnf); first
    | refine AWP.seq ?_
    | refine AWP.reg T rfl ?_
    | refine AWP.drw T none rfl rfl rfl ?_
    | refine AWP.dep T none rfl rfl rfl rfl ?_
    | refine AWP.block ?_
    | refine AWP.condT rfl ?_
    | refine AWP.condF rfl ?_
    | refine AWP.cond rfl (fun hb => ?_) (fun hb => ?_)
    | refine AWP.ret ?_
    | refine AWP.exit ?_
    | refine AWP.skip ?_
    | refine GuardB.t ?_
    | refine GuardB.f ?_
    | refine GuardB.mk (fun hb => ?_) (fun hb => ?_)
    | refine NilQ.mk (fun hb => ?_) ?_
    | refine VC.mk Nat.zero_lt_one ?_
    | refine VC.mk rfl ?_
    | refine ACall.useIs [] (l12All_call _ ?_) rfl (.nil _) rfl ?_
    | refine ACall.useExC [0, 1] (pick_call code hcode _ _ _ ?_ ?_) rfl (.cons (.same rfl rfl) (.cons (.same rfl rfl) (.nil _))) rfl (fun x xA xS hx => ?_)
    | refine ACall.useExC [0, 1] (one_call code hcode _ _ _ ?_ ?_) rfl (.cons (.same rfl rfl) (.cons (.same rfl rfl) (.nil _))) rfl (fun j jA jS hj => ?_)
    | refine AWP.while (ι := List Int × List Int × Nat × Int) (fun g => St.of [(0, .ptr ⟨0, 0, 0, 3, 0⟩), (1, .int .i64 n), (5, .slice ⟨2, 0, 0, 1, 0⟩ g.1.length), (6, .slice ⟨3, 0, 0, 1, 0⟩ g.2.1.length)] [.arr false (.raw 3) [[.slice ⟨1, 0, 0, 1, 0⟩ code.length, .int .i64 (g.2.2.1 : Nat), .int .u64 g.2.2.2]], .arr true .byte code, .arr false .int (g.1), .arr false .int (g.2.1)]) (fun g => ((g.1.length : Int) + g.2.1.length = n) ∧ a ≤ g.2.2.1 ∧ g.2.2.1 ≤ a + 2 * g.2.1.length) (fun g => g.1.length) (rangeI n.toNat, [], _, _) ?_
        (Weak.of [0, 1, 3, 4] (.cons rfl rfl (.cons rfl rfl (.s rfl ?_ rfl (.s rfl ?_ rfl .nil)))) (.cons (.same rfl rfl) (.cons (.same rfl rfl) (.cons (.same rfl rfl) (.cons (.same rfl rfl) (.nil _))))) rfl) (fun g hg => ?_)
    | refine roundEnd (_, _, _, _) ?_ ?_ (Weak.of [0, 1, 8, 5] (.cons rfl rfl (.cons rfl rfl (.s rfl ?_ rfl (.s rfl ?_ rfl .nil)))) (.cons (.same rfl rfl) (.cons (.same rfl rfl) (.cons (.same rfl rfl) (.cons (.same rfl rfl) (.nil _))))) rfl)
    | refine AWP.drw T (some [0]) rfl rfl rfl ?_
    | refine Ret.ex [0, 1, 4] (_, ⟨_, _⟩) ?_ rfl (.cons (.same rfl rfl) (.cons (.same rfl rfl) (.cons (.same rfl rfl) (.nil _)))) rfl
    | refine Ret.ex [0, 1, 4] (_, ⟨_, _⟩) ?_ ?_ (.cons (.same rfl rfl) (.cons (.same rfl rfl) (.cons (.same rfl rfl) (.nil _)))) rfl
    | refine Ret.ex [0, 1, 3] (_, ⟨_, _⟩) ?_ rfl (.cons (.same rfl rfl) (.cons (.same rfl rfl) (.cons (.same rfl rfl) (.nil _)))) rfl
    | refine Ret.ex [0, 1, 3] (_, ⟨_, _⟩) ?_ ?_ (.cons (.same rfl rfl) (.cons (.same rfl rfl) (.cons (.same rfl rfl) (.nil _)))) rfl
    | refine VC.mk ?_ ?_
  all_goals try simp only [decide_eq_true_eq, decide_eq_false_iff_not, Bool.not_eq_true', Bool.not_eq_false', cond_true, cond_false, eqB_true, eqB_false] at *
  all_goals try simp only [in64, idxAdd_zero_left, Int.toNat_natCast, fillTo_length, Int.ofNat_lt, Int.ofNat_le, Int.natCast_inj] at *
  all_goals try obtain ⟨gl, go, ga, gs⟩ := g
  all_goals try dsimp only at *
  all_goals try have hamu := AmongOk.le hu
  all_goals try have hamv := AmongOk.le hv
  all_goals try simp only [PickOk, OneOk, Cu.to, sub_len0, sub_len1, sub_lenM, List.length_nil, List.length_append, List.length_singleton, List.length_set, rangeI_length] at *
  all_goals first
    | omega
    | rfl
    | exact ⟨by omega, by omega⟩
    | (refine ⟨?_, ?_, ?_⟩ <;> first | omega | (simp; done))
    | exact ⟨rfl, trivial⟩
    | exact congrArg (AV.slice ⟨2, 0, 0, 2, 0⟩) (by simp)
    | exact congrArg (AV.slice ⟨4, 0, 0, 1, 0⟩) (by simp)
    | (refine ⟨⟨?_, ?_⟩, ?_⟩ <;> first | omega | (simp; omega))

theorem someOf_call (code : List Int) (hcode : ∀ x ∈ code, 0 ≤ x ∧ x ≤ 255) (a : Nat) (sd : Int) (n : Int) (hn : 0 ≤ n ∧ n ≤ 1000) (hc : a ≤ 1099511620000) : ACall Try.prog 68 [.ptr ⟨0, 0, 0, 3, 0⟩, .int .i64 n] [.arr false (.raw 3) [[.slice ⟨1, 0, 0, 1, 0⟩ code.length, .int .i64 (a : Nat), .int .u64 (sd)]], .arr true .byte code] (Ex (ι := List Int × Cu) (fun i => .slice ⟨2, 0, 0, 1, 0⟩ i.1.length) (fun i => [.arr false (.raw 3) [[.slice ⟨1, 0, 0, 1, 0⟩ code.length, .int .i64 (i.2.at' : Nat), .int .u64 (i.2.seed)]], .arr true .byte code, .arr false .int (i.1)]) (fun i => (i.1.length : Int) ≤ n + 1 ∧ a ≤ i.2.at' ∧ i.2.at' ≤ a + 5000)) := by
  refine ACall.walk T Try.func68 Try.ntmps68 Try.results68 rfl rfl rfl (Ex.nv ([], ⟨a, sd⟩) ⟨by simp; omega, Nat.le_refl _, Nat.le_add_right _ _⟩) ?_
  repeat' (conv => whnf); first
    | refine AWP.seq ?_
    | refine AWP.reg T rfl ?_
    | refine AWP.drw T none rfl rfl rfl ?_
    | refine AWP.dep T none rfl rfl rfl rfl ?_
    | refine AWP.block ?_
    | refine AWP.condT rfl ?_
    | refine AWP.condF rfl ?_
    | refine AWP.cond rfl (fun hb => ?_) (fun hb => ?_)
    | refine AWP.ret ?_
    | refine AWP.exit ?_
    | refine AWP.skip ?_
    | refine GuardB.t ?_
    | refine GuardB.f ?_
    | refine GuardB.mk (fun hb => ?_) (fun hb => ?_)
    | refine NilQ.mk (fun hb => ?_) ?_
    | refine VC.mk Nat.zero_lt_one ?_
    | refine VC.mk rfl ?_
    | refine ACall.useExC [0, 1] (one_call code hcode _ _ _ ?_ ?_) rfl (.cons (.same rfl rfl) (.cons (.same rfl rfl) (.nil _))) rfl (fun j jA jS hj => ?_)
    | refine AWP.while (ι := Nat × List Int × Nat × Int) (fun g => St.of [(0, .ptr ⟨0, 0, 0, 3, 0⟩), (1, .int .i64 n), (5, .slice ⟨2, 0, 0, 1, 0⟩ g.2.1.length), (6, .int .i64 (g.1 : Nat))] [.arr false (.raw 3) [[.slice ⟨1, 0, 0, 1, 0⟩ code.length, .int .i64 (g.2.2.1 : Nat), .int .u64 g.2.2.2]], .arr true .byte code, .arr false .int (g.2.1)]) (fun g => ((g.1 : Int) ≤ n ∧ g.2.1.length ≤ g.1) ∧ a ≤ g.2.2.1 ∧ g.2.2.1 ≤ a + 2 * g.1) (fun g => (n - g.1).toNat) (0, [], _, _) ?_
        (Weak.of [0, 1, 3] (.cons rfl rfl (.cons rfl rfl (.s rfl ?_ rfl (.i rfl ?_ .nil)))) (.cons (.same rfl rfl) (.cons (.same rfl rfl) (.cons (.same rfl rfl) (.nil _)))) rfl) (fun g hg => ?_)
    | refine roundEnd (g.1 + 1, _, _, _) ?_ ?_ (Weak.of [0, 1, 4] (.cons rfl rfl (.cons rfl rfl (.s rfl ?_ rfl (.i rfl ?_ .nil)))) (.cons (.same rfl rfl) (.cons (.same rfl rfl) (.cons (.same rfl rfl) (.nil _)))) rfl)
    | refine roundEnd (g.1 + 1, _, _, _) ?_ ?_ (Weak.of [0, 1, 2] (.cons rfl rfl (.cons rfl rfl (.s rfl ?_ rfl (.i rfl ?_ .nil)))) (.cons (.same rfl rfl) (.cons (.same rfl rfl) (.cons (.same rfl rfl) (.nil _)))) rfl)
    | refine Ret.ex [0, 1, 4] (_, ⟨_, _⟩) ?_ rfl (.cons (.same rfl rfl) (.cons (.same rfl rfl) (.cons (.same rfl rfl) (.nil _)))) rfl
    | refine Ret.ex [0, 1, 4] (_, ⟨_, _⟩) ?_ ?_ (.cons (.same rfl rfl) (.cons (.same rfl rfl) (.cons (.same rfl rfl) (.nil _)))) rfl
    | refine Ret.ex [0, 1, 2] (_, ⟨_, _⟩) ?_ rfl (.cons (.same rfl rfl) (.cons (.same rfl rfl) (.cons (.same rfl rfl) (.nil _)))) rfl
    | refine Ret.ex [0, 1, 2] (_, ⟨_, _⟩) ?_ ?_ (.cons (.same rfl rfl) (.cons (.same rfl rfl) (.cons (.same rfl rfl) (.nil _)))) rfl
    | refine VC.mk ?_ ?_
  all_goals try simp only [decide_eq_true_eq, decide_eq_false_iff_not, Bool.not_eq_true', Bool.not_eq_false', cond_true, cond_false, eqB_true, eqB_false] at *
  all_goals try simp only [in64, idxAdd_zero_left, Int.toNat_natCast, fillTo_length, Int.ofNat_lt, Int.ofNat_le, Int.natCast_inj] at *
  all_goals try obtain ⟨gk, gl, ga, gs⟩ := g
  all_goals try dsimp only at *
  all_goals try have hamu := AmongOk.le hu
  all_goals try have hamv := AmongOk.le hv
  all_goals try simp only [PickOk, OneOk, Cu.to, sub_len0, sub_len1, sub_lenM, List.length_nil, List.length_append, List.length_singleton, List.length_set] at *
  all_goals first
    | omega
    | rfl
    | exact ⟨by omega, by omega⟩
    | (refine ⟨?_, ?_, ?_⟩ <;> first | omega | (simp; done))
    | exact ⟨rfl, trivial⟩
    | exact congrArg (AV.slice ⟨2, 0, 0, 2, 0⟩) (by simp)
    | exact congrArg (AV.slice ⟨4, 0, 0, 1, 0⟩) (by simp)
    | (refine ⟨⟨?_, ?_⟩, ?_⟩ <;> first | omega | (simp; omega))

theorem drawLateness_call (code : List Int) (hcode : ∀ x ∈ code, 0 ≤ x ∧ x ≤ 255) : ACall Try.prog 38 [.slice ⟨0, 0, 0, 1, 0⟩ code.length] [.arr true .byte code] (Ex (ι := List S2 × List Int) (fun i => .tuple [.slice ⟨1, 0, 0, 2, 0⟩ i.1.length, .slice ⟨2, 0, 0, 1, 0⟩ i.2.length]) (fun i => [.arr true .byte code, .arr false .s2 i.1, .arr false .int (i.2)]) (fun i => i.1.length ≤ 11 ∧ i.2.length ≤ 12)) := by
  refine ACall.walk T Try.func38 Try.ntmps38 Try.results38 rfl rfl rfl (Ex.nv ([], []) ⟨by simp, by simp⟩) ?_
  repeat' (conv => whnf); first
    | refine AWP.seq ?_
    | refine AWP.reg T rfl ?_
    | refine AWP.drw T none rfl rfl rfl ?_
    | refine AWP.dep T none rfl rfl rfl rfl ?_
    | refine AWP.block ?_
    | refine AWP.condT rfl ?_
    | refine AWP.condF rfl ?_
    | refine AWP.cond rfl (fun hb => ?_) (fun hb => ?_)
    | refine AWP.ret ?_
    | refine AWP.exit ?_
    | refine AWP.skip ?_
    | refine GuardB.t ?_
    | refine GuardB.f ?_
    | refine GuardB.mk (fun hb => ?_) (fun hb => ?_)
    | refine NilQ.mk (fun hb => ?_) ?_
    | refine VC.mk Nat.zero_lt_one ?_
    | refine VC.mk rfl ?_
    | refine ACall.useExC [3, 0] (jobs_call code hcode _ _ ?_) rfl (.cons (.same rfl rfl) (.cons (.same rfl rfl) (.nil _))) rfl (fun i iA iS hi => ?_)
    | refine ACall.useExC [3, 0] (jobOrder_call code hcode _ _ _ ?_ ?_) rfl (.cons (.same rfl rfl) (.cons (.same rfl rfl) (.nil _))) rfl (fun x xA xS hx => ?_)
    | refine Ret.ex [0, 4, 5] (_, _) ?_ rfl (.cons (.same rfl rfl) (.cons (.same rfl rfl) (.cons (.same rfl rfl) (.nil _)))) rfl
    | refine VC.mk ?_ ?_
  all_goals first
    | exact Nat.zero_le _
    | exact hi
    | omega
    | rfl
    | exact ⟨by omega, by omega⟩
    | (have h1 := hi.1; have h2 := hx.1; dsimp only at *; omega)
    | (have h1 := hi.1; have h2 := hi.2; dsimp only at *; omega)
    | (have h1 := hi.1; have h2 := hi.2; dsimp only at *; exact ⟨by omega, by omega⟩)
    | (have h1 := hi.1; have h2 := hx.1; dsimp only at *; exact ⟨by omega, by omega⟩)

theorem drawOrderFor_call (code : List Int) (hcode : ∀ x ∈ code, 0 ≤ x ∧ x ≤ 255) : ACall Try.prog 41 [.slice ⟨0, 0, 0, 1, 0⟩ code.length] [.arr true .byte code] (Ex (ι := List S2 × List Int) (fun i => .tuple [.slice ⟨1, 0, 0, 2, 0⟩ i.1.length, .slice ⟨2, 0, 0, 1, 0⟩ i.2.length]) (fun i => [.arr true .byte code, .arr false .s2 i.1, .arr false .int (i.2)]) (fun i => i.1.length ≤ 11 ∧ i.2.length ≤ 12)) := by
  refine ACall.walk T Try.func41 Try.ntmps41 Try.results41 rfl rfl rfl (Ex.nv ([], []) ⟨by simp, by simp⟩) ?_
  repeat' (conv => whnf); first
    | refine AWP.seq ?_
    | refine AWP.reg T rfl ?_
    | refine AWP.drw T none rfl rfl rfl ?_
    | refine AWP.dep T none rfl rfl rfl rfl ?_
    | refine AWP.block ?_
    | refine AWP.condT rfl ?_
    | refine AWP.condF rfl ?_
    | refine AWP.cond rfl (fun hb => ?_) (fun hb => ?_)
    | refine AWP.ret ?_
    | refine AWP.exit ?_
    | refine AWP.skip ?_
    | refine GuardB.t ?_
    | refine GuardB.f ?_
    | refine GuardB.mk (fun hb => ?_) (fun hb => ?_)
    | refine NilQ.mk (fun hb => ?_) ?_
    | refine VC.mk Nat.zero_lt_one ?_
    | refine VC.mk rfl ?_
    | refine ACall.useExC [3, 0] (jobs_call code hcode _ _ ?_) rfl (.cons (.same rfl rfl) (.cons (.same rfl rfl) (.nil _))) rfl (fun i iA iS hi => ?_)
    | refine ACall.useExC [3, 0] (someOf_call code hcode _ _ _ ?_ ?_) rfl (.cons (.same rfl rfl) (.cons (.same rfl rfl) (.nil _))) rfl (fun x xA xS hx => ?_)
    | refine Ret.ex [0, 4, 5] (_, _) ?_ rfl (.cons (.same rfl rfl) (.cons (.same rfl rfl) (.cons (.same rfl rfl) (.nil _)))) rfl
    | refine VC.mk ?_ ?_
  all_goals first
    | exact Nat.zero_le _
    | exact hi
    | omega
    | rfl
    | exact ⟨by omega, by omega⟩
    | (have h1 := hi.1; have h2 := hx.1; dsimp only at *; omega)
    | (have h1 := hi.1; have h2 := hi.2; dsimp only at *; omega)
    | (have h1 := hi.1; have h2 := hi.2; dsimp only at *; exact ⟨by omega, by omega⟩)
    | (have h1 := hi.1; have h2 := hx.1; dsimp only at *; exact ⟨by omega, by omega⟩)

theorem drawLateIn_call (code : List Int) (hcode : ∀ x ∈ code, 0 ≤ x ∧ x ≤ 255) : ACall Try.prog 40 [.slice ⟨0, 0, 0, 1, 0⟩ code.length] [.arr true .byte code] (Ex (ι := List S2 × List Int) (fun i => .tuple [.slice ⟨1, 0, 0, 2, 0⟩ i.1.length, .slice ⟨2, 0, 0, 1, 0⟩ i.2.length]) (fun i => [.arr true .byte code, .arr false .s2 i.1, .arr false .int (i.2)]) (fun i => i.1.length ≤ 11 ∧ i.2.length ≤ 12)) := by
  refine ACall.walk T Try.func40 Try.ntmps40 Try.results40 rfl rfl rfl (Ex.nv ([], []) ⟨by simp, by simp⟩) ?_
  repeat' (conv => whnf); first
    | refine AWP.seq ?_
    | refine AWP.reg T rfl ?_
    | refine AWP.drw T none rfl rfl rfl ?_
    | refine AWP.dep T none rfl rfl rfl rfl ?_
    | refine AWP.block ?_
    | refine AWP.condT rfl ?_
    | refine AWP.condF rfl ?_
    | refine AWP.cond rfl (fun hb => ?_) (fun hb => ?_)
    | refine AWP.ret ?_
    | refine AWP.exit ?_
    | refine AWP.skip ?_
    | refine GuardB.t ?_
    | refine GuardB.f ?_
    | refine GuardB.mk (fun hb => ?_) (fun hb => ?_)
    | refine NilQ.mk (fun hb => ?_) ?_
    | refine VC.mk Nat.zero_lt_one ?_
    | refine VC.mk rfl ?_
    | refine ACall.useEx [0] (drawLateness_call code hcode) rfl (.cons (.same rfl rfl) (.nil _)) rfl (fun i hi => ?_)
    | refine Ret.ex [0, 3, 4] (_, _) ?_ rfl (.cons (.same rfl rfl) (.cons (.same rfl rfl) (.cons (.same rfl rfl) (.nil _)))) rfl
    | refine VC.mk ?_ ?_
  all_goals first
    | exact Nat.zero_le _
    | exact hi
    | omega
    | rfl
    | exact ⟨by omega, by omega⟩
    | (have h1 := hi.1; have h2 := hx.1; dsimp only at *; omega)
    | (have h1 := hi.1; have h2 := hi.2; dsimp only at *; omega)
    | (have h1 := hi.1; have h2 := hi.2; dsimp only at *; exact ⟨by omega, by omega⟩)
    | (have h1 := hi.1; have h2 := hx.1; dsimp only at *; exact ⟨by omega, by omega⟩)

end YtockeinpdioahaaAM
