/- Contracts of functions of this seat. -/
import Derived.Test.YtnfcnocoehkgoaaAmTabEdges
import Derived.Test.YtnfcnocoehkgoaaAmModels
import Derived.Test.YtnfcnocoehkgoaaAmEdges8
import Derived.Test.YtnfcnocoehkgoaaAmDrawLast
set_option linter.unusedVariables false
set_option linter.unusedSimpArgs false
set_option maxRecDepth 100000
set_option maxHeartbeats 4000000
namespace YtnfcnocoehkgoaaAM
open Go Go.Proofs
attribute [local irreducible] NextOk PickOk OneOk AmongOk foldN sortI sortN goodEdges kruL kruC

theorem sub_lenM {α : Type} (l : List α) (i m : Nat) : (sub l i m).length = min m (l.length - i) := by simp [sub]
theorem next_call (code : List Int) (hcode : ∀ x ∈ code, 0 ≤ x ∧ x ≤ 255) (a : Nat) (sd : Int) (hc : a ≤ 1099511627778) : ACall Try.prog 74 [.ptr ⟨0, 0, 0, 3, 0⟩] [.arr false (.raw 3) [[.slice ⟨1, 0, 0, 1, 0⟩ code.length, .int .i64 (a : Nat), .int .u64 (sd)]], .arr true .byte code] (Ex (ι := Int × Cu) (fun i => .int .i64 i.1) (fun i => [.arr false (.raw 3) [[.slice ⟨1, 0, 0, 1, 0⟩ code.length, .int .i64 (i.2.at' : Nat), .int .u64 (i.2.seed)]], .arr true .byte code]) (fun i => NextOk ⟨a, sd⟩ i)) := by
  refine ACall.walk T Try.func74 Try.ntmps74 Try.results74 rfl rfl rfl (Ex.nv (0, ⟨a, sd⟩) (NextOk.zero _)) ?_
  repeat' (conv => whnf); first
    | refine AWP.seq ?_
    | refine AWP.reg T rfl ?_
    | refine AWP.drw T none rfl rfl rfl ?_
    | refine AWP.dep T none rfl rfl rfl rfl ?_
    | refine AWP.block ?_
    | refine AWP.condT rfl ?_
    | refine AWP.condF rfl ?_
    | refine AWP.cond rfl (fun hb => ?_) (fun hb => ?_)
    | refine AWP.ret ?_
    | refine AWP.exit ?_
    | refine AWP.skip ?_
    | refine GuardB.t ?_
    | refine GuardB.f ?_
    | refine GuardB.mk (fun hb => ?_) (fun hb => ?_)
    | refine NilQ.mk (fun hb => ?_) ?_
    | refine VC.mk Nat.zero_lt_one ?_
    | refine VC.mk rfl ?_
    | refine Ret.ex [0, 1] (_, ⟨a + 1, _⟩) ?_ rfl (.cons (.same rfl rfl) (.cons (.same rfl rfl) (.nil _))) rfl
    | refine VC.mk ?_ ?_
  all_goals try simp only [decide_eq_true_eq, decide_eq_false_iff_not, Bool.not_eq_true', Bool.not_eq_false', cond_true, cond_false, eqB_true, eqB_false] at *
  all_goals try simp only [in64, idxAdd_zero_left, Int.toNat_natCast, fillTo_length, Int.ofNat_lt, Int.ofNat_le, Int.natCast_inj] at *
  all_goals have hby := byte_at hcode a
  all_goals try simp only [Int.toNat_natCast] at *
  all_goals first
    | omega
    | exact ⟨by omega, by omega⟩
    | exact ⟨rfl, trivial⟩
    | exact NextOk.byte hcode ⟨a, sd⟩ _ _
    | exact NextOk.low ⟨a, sd⟩ _ _
    | exact ⟨Int.le_trans (by decide) (and255 _).1, Int.le_trans (and255 _).2 (by decide)⟩
theorem pick_call (code : List Int) (hcode : ∀ x ∈ code, 0 ≤ x ∧ x ≤ 255) (a : Nat) (sd : Int) (n : Int) (hn : n ≤ 100000) (hc : a ≤ 1099511627777) : ACall Try.prog 63 [.ptr ⟨0, 0, 0, 3, 0⟩, .int .i64 n] [.arr false (.raw 3) [[.slice ⟨1, 0, 0, 1, 0⟩ code.length, .int .i64 (a : Nat), .int .u64 (sd)]], .arr true .byte code] (Ex (ι := Int × Cu) (fun i => .int .i64 i.1) (fun i => [.arr false (.raw 3) [[.slice ⟨1, 0, 0, 1, 0⟩ code.length, .int .i64 (i.2.at' : Nat), .int .u64 (i.2.seed)]], .arr true .byte code]) (fun i => PickOk ⟨a, sd⟩ n i)) := by
  refine ACall.walk T Try.func63 Try.ntmps63 Try.results63 rfl rfl rfl (Ex.nv (0, ⟨a, sd⟩) (PickOk.zero _ n)) ?_
  repeat' (conv => whnf); first
    | refine AWP.seq ?_
    | refine AWP.reg T rfl ?_
    | refine AWP.drw T none rfl rfl rfl ?_
    | refine AWP.dep T none rfl rfl rfl rfl ?_
    | refine AWP.block ?_
    | refine AWP.condT rfl ?_
    | refine AWP.condF rfl ?_
    | refine AWP.cond rfl (fun hb => ?_) (fun hb => ?_)
    | refine AWP.ret ?_
    | refine AWP.exit ?_
    | refine AWP.skip ?_
    | refine GuardB.t ?_
    | refine GuardB.f ?_
    | refine GuardB.mk (fun hb => ?_) (fun hb => ?_)
    | refine NilQ.mk (fun hb => ?_) ?_
    | refine VC.mk Nat.zero_lt_one ?_
    | refine VC.mk rfl ?_
    | refine ACall.useExC [0, 1] (next_call code hcode _ _ ?_) rfl (.cons (.same rfl rfl) (.cons (.same rfl rfl) (.nil _))) rfl (fun i iA iS hi => ?_)
    | refine Ret.ex [0, 1] (_, ⟨_, _⟩) ?_ rfl (.cons (.same rfl rfl) (.cons (.same rfl rfl) (.nil _))) rfl
    | refine VC.mk ?_ ?_
  all_goals try simp only [decide_eq_true_eq, decide_eq_false_iff_not, Bool.not_eq_true', Bool.not_eq_false', cond_true, cond_false, eqB_true, eqB_false] at *
  all_goals try simp only [in64, idxAdd_zero_left, Int.toNat_natCast, fillTo_length, Int.ofNat_lt, Int.ofNat_le, Int.natCast_inj] at *
  all_goals first
    | omega
    | exact PickOk.zero _ n
    | exact hi.in64
    | exact NextOk.in64'' (by assumption) hi
    | exact PickOk.two' (by assumption) hi (by assumption)
    | exact PickOk.one hi (by assumption)
    | exact hi.le hc
theorem one_call (code : List Int) (hcode : ∀ x ∈ code, 0 ≤ x ∧ x ≤ 255) (a : Nat) (sd : Int) (n : Int) (hn : n ≤ 100000) (hc : a ≤ 1099511627776) : ACall Try.prog 62 [.ptr ⟨0, 0, 0, 3, 0⟩, .int .i64 n] [.arr false (.raw 3) [[.slice ⟨1, 0, 0, 1, 0⟩ code.length, .int .i64 (a : Nat), .int .u64 (sd)]], .arr true .byte code] (Ex (ι := Bool × Cu) (fun i => .bool i.1) (fun i => [.arr false (.raw 3) [[.slice ⟨1, 0, 0, 1, 0⟩ code.length, .int .i64 (i.2.at' : Nat), .int .u64 (i.2.seed)]], .arr true .byte code]) (fun i => OneOk ⟨a, sd⟩ i)) := by
  refine ACall.walk T Try.func62 Try.ntmps62 Try.results62 rfl rfl rfl (Ex.nv (false, ⟨a, sd⟩) (OneOk.zero _)) ?_
  repeat' (conv => whnf); first
    | refine AWP.seq ?_
    | refine AWP.reg T rfl ?_
    | refine AWP.drw T none rfl rfl rfl ?_
    | refine AWP.dep T none rfl rfl rfl rfl ?_
    | refine AWP.block ?_
    | refine AWP.condT rfl ?_
    | refine AWP.condF rfl ?_
    | refine AWP.cond rfl (fun hb => ?_) (fun hb => ?_)
    | refine AWP.ret ?_
    | refine AWP.exit ?_
    | refine AWP.skip ?_
    | refine GuardB.t ?_
    | refine GuardB.f ?_
    | refine GuardB.mk (fun hb => ?_) (fun hb => ?_)
    | refine NilQ.mk (fun hb => ?_) ?_
    | refine VC.mk Nat.zero_lt_one ?_
    | refine VC.mk rfl ?_
    | refine ACall.useExC [0, 1] (pick_call code hcode _ _ _ ?_ ?_) rfl (.cons (.same rfl rfl) (.cons (.same rfl rfl) (.nil _))) rfl (fun i iA iS hi => ?_)
    | refine Ret.ex [0, 1] (_, ⟨_, _⟩) ?_ rfl (.cons (.same rfl rfl) (.cons (.same rfl rfl) (.nil _))) rfl
    | refine VC.mk ?_ ?_
  all_goals try simp only [decide_eq_true_eq, decide_eq_false_iff_not, Bool.not_eq_true', Bool.not_eq_false', cond_true, cond_false, eqB_true, eqB_false] at *
  all_goals try simp only [in64, idxAdd_zero_left, Int.toNat_natCast, fillTo_length, Int.ofNat_lt, Int.ofNat_le, Int.natCast_inj] at *
  all_goals first
    | omega
    | exact OneOk.of hi _
theorem among_call (code : List Int) (hcode : ∀ x ∈ code, 0 ≤ x ∧ x ≤ 255) (a : Nat) (sd : Int) (l : List Int) (n : Nat) (hn : n = l.length) (hl : 1 < n ∧ n ≤ 100000) (hc : a ≤ 1099511627776) : ACall Try.prog 73 [.ptr ⟨0, 0, 0, 3, 0⟩, .slice ⟨2, 0, 0, 1, 0⟩ n] [.arr false (.raw 3) [[.slice ⟨1, 0, 0, 1, 0⟩ code.length, .int .i64 (a : Nat), .int .u64 (sd)]], .arr true .byte code, .arr true .int l] (Ex (ι := Int × Cu) (fun i => .int .i64 i.1) (fun i => [.arr false (.raw 3) [[.slice ⟨1, 0, 0, 1, 0⟩ code.length, .int .i64 (i.2.at' : Nat), .int .u64 (i.2.seed)]], .arr true .byte code, .arr true .int l]) (fun i => AmongOk ⟨a, sd⟩ l i)) := by
  refine ACall.walk T Try.func73 Try.ntmps73 Try.results73 rfl rfl rfl (Ex.nv (_, ⟨a, sd⟩) (AmongOk.zero _ (by omega))) ?_
  repeat' (conv => whnf); first
    | refine AWP.seq ?_
    | refine AWP.reg T rfl ?_
    | refine AWP.drw T none rfl rfl rfl ?_
    | refine AWP.dep T none rfl rfl rfl rfl ?_
    | refine AWP.block ?_
    | refine AWP.condT rfl ?_
    | refine AWP.condF rfl ?_
    | refine AWP.cond rfl (fun hb => ?_) (fun hb => ?_)
    | refine AWP.ret ?_
    | refine AWP.exit ?_
    | refine AWP.skip ?_
    | refine GuardB.t ?_
    | refine GuardB.f ?_
    | refine GuardB.mk (fun hb => ?_) (fun hb => ?_)
    | refine NilQ.mk (fun hb => ?_) ?_
    | refine VC.mk Nat.zero_lt_one ?_
    | refine VC.mk rfl ?_
    | refine ACall.useExC [0, 1] (pick_call code hcode _ _ _ ?_ ?_) rfl (.cons (.same rfl rfl) (.cons (.same rfl rfl) (.nil _))) rfl (fun i iA iS hi => ?_)
    | refine Ret.ex [0, 1, 2] (_, ⟨_, _⟩) ?_ rfl (.cons (.same rfl rfl) (.cons (.same rfl rfl) (.cons (.same rfl rfl) (.nil _)))) rfl
    | refine VC.mk ?_ ?_
  all_goals try simp only [decide_eq_true_eq, decide_eq_false_iff_not, Bool.not_eq_true', Bool.not_eq_false', cond_true, cond_false, eqB_true, eqB_false] at *
  all_goals try simp only [in64, idxAdd_zero_left, Int.toNat_natCast, fillTo_length, Int.ofNat_lt, Int.ofNat_le, Int.natCast_inj] at *
  all_goals first
    | omega
    | exact hi.rng (by omega)
    | exact (hi.idx (by omega) (by omega)).2
    | (have := hi.rng (by omega); omega)
    | exact AmongOk.of (by omega) (by omega) hi

theorem edges_call (code : List Int) (hcode : ∀ x ∈ code, 0 ≤ x ∧ x ≤ 255) (a : Nat) (sd : Int) (hc : a ≤ 1099511620000) : ACall Try.prog 60 [.ptr ⟨0, 0, 0, 3, 0⟩] [.arr false (.raw 3) [[.slice ⟨1, 0, 0, 1, 0⟩ code.length, .int .i64 (a : Nat), .int .u64 (sd)]], .arr true .byte code] (Ex (ι := List S3 × Cu) (fun i => .slice ⟨2, 0, 0, 3, 0⟩ i.1.length) (fun i => [.arr false (.raw 3) [[.slice ⟨1, 0, 0, 1, 0⟩ code.length, .int .i64 (i.2.at' : Nat), .int .u64 (i.2.seed)]], .arr true .byte code, .arr false .s3 i.1]) (fun i => i.1.length ≤ 25 ∧ a ≤ i.2.at' ∧ i.2.at' ≤ a + 300)) := by
  refine ACall.walk T Try.func60 Try.ntmps60 Try.results60 rfl rfl rfl (Ex.nv ([], ⟨a, sd⟩) ⟨by simp, Nat.le_refl _, Nat.le_add_right _ _⟩) ?_
  repeat' (conv => whnf); first
    | refine AWP.seq ?_
    | refine AWP.reg T rfl ?_
    | refine AWP.drw T none rfl rfl rfl ?_
    | refine AWP.dep T none rfl rfl rfl rfl ?_
    | refine AWP.block ?_
    | refine AWP.condT rfl ?_
    | refine AWP.condF rfl ?_
    | refine AWP.cond rfl (fun hb => ?_) (fun hb => ?_)
    | refine AWP.ret ?_
    | refine AWP.exit ?_
    | refine AWP.skip ?_
    | refine GuardB.t ?_
    | refine GuardB.f ?_
    | refine GuardB.mk (fun hb => ?_) (fun hb => ?_)
    | refine NilQ.mk (fun hb => ?_) ?_
    | refine VC.mk Nat.zero_lt_one ?_
    | refine VC.mk rfl ?_
    | refine ACall.useExC [0, 1] (pick_call code hcode _ _ _ ?_ ?_) rfl (.cons (.same rfl rfl) (.cons (.same rfl rfl) (.nil _))) rfl (fun i iA iS hi => ?_)
    | refine ACall.useExC [0, 1] (one_call code hcode _ _ _ ?_ ?_) rfl (.cons (.same rfl rfl) (.cons (.same rfl rfl) (.nil _))) rfl (fun j jA jS hj => ?_)
    | refine AWP.while (ι := Int × List S3 × Nat × Int) (fun g => St.of [(0, .ptr ⟨0, 0, 0, 3, 0⟩), (3, .slice ⟨2, 0, 0, 3, 0⟩ g.2.1.length), (4, .int .i64 g.1)] [.arr false (.raw 3) [[.slice ⟨1, 0, 0, 1, 0⟩ code.length, .int .i64 (g.2.2.1 : Nat), .int .u64 g.2.2.2]], .arr true .byte code, .arr false .s3 g.2.1]) (fun g => (0 ≤ g.1 ∧ g.1 + g.2.1.length ≤ 25) ∧ a ≤ g.2.2.1 ∧ g.2.2.1 ≤ a + 10 + 8 * g.2.1.length) (fun g => g.1.toNat) (_, [], _, _) ?_
        (Weak.of [0, 1, 3] (.cons rfl rfl (.cons rfl rfl (.cons rfl rfl .nil))) (.cons (.same rfl rfl) (.cons (.same rfl rfl) (.cons (.same rfl rfl) (.nil _)))) rfl) (fun g hg => ?_)
    | refine roundEnd (_, _, _, _) ?_ ?_ (Weak.of [0, 1, 5] (.cons rfl rfl (.s rfl ?_ rfl (.cons rfl rfl .nil))) (.cons (.same rfl rfl) (.cons (.same rfl rfl) (.cons (.same rfl rfl) (.nil _)))) rfl)
    | refine ACall.useExC [0, 1, 3] (among_call code hcode _ _ _ 3 rfl ?_ ?_) rfl (.cons (.same rfl rfl) (.cons (.same rfl rfl) (.cons (.ro rfl rfl) (.nil _)))) rfl (fun i iA iS hi => ?_)
    | refine Ret.ex [0, 1, 2] (_, ⟨_, _⟩) ?_ rfl (.cons (.same rfl rfl) (.cons (.same rfl rfl) (.cons (.same rfl rfl) (.nil _)))) rfl
    | refine Ret.ex [0, 1, 2] (_, ⟨_, _⟩) ?_ ?_ (.cons (.same rfl rfl) (.cons (.same rfl rfl) (.cons (.same rfl rfl) (.nil _)))) rfl
    | refine VC.mk ?_ ?_
  all_goals try simp only [decide_eq_true_eq, decide_eq_false_iff_not, Bool.not_eq_true', Bool.not_eq_false', cond_true, cond_false, eqB_true, eqB_false] at *
  all_goals try simp only [in64, idxAdd_zero_left, Int.toNat_natCast, fillTo_length, Int.ofNat_lt, Int.ofNat_le, Int.natCast_inj] at *
  all_goals try obtain ⟨gn, gl, ga, gs⟩ := g
  all_goals try dsimp only at *
  all_goals try have hamong := AmongOk.le (by assumption)
  all_goals try have hp1 := hpp.1
  all_goals try have hp2 := hpp.2
  all_goals try have hkl := kruL_le l
  all_goals try simp only [PickOk, OneOk, Cu.to, sub_len0, sub_len1, sub_lenM, List.length_nil, List.length_append, List.length_singleton, List.length_set] at *
  all_goals first
    | omega
    | exact hpp
    | with_reducible rfl
    | exact ⟨by omega, by omega⟩
    | exact ⟨by simp, by omega, by omega⟩
    | exact ⟨rfl, trivial⟩
    | exact ⟨by omega, by omega, by omega⟩
    | (refine ⟨?_, ?_, ?_⟩ <;> first | omega | (simp; done))
    | exact congrArg (AV.slice ⟨2, 0, 0, 3, 0⟩) (by simp)
    | exact congrArg (AV.slice ⟨2, 0, 0, 1, 0⟩) (by simp)
    | exact congrArg (AV.slice ⟨4, 0, 0, 1, 0⟩) (by simp)
    | (refine ⟨⟨?_, ?_⟩, ?_⟩ <;> first | omega | (simp; omega))
    | (refine ⟨⟨?_, ?_⟩, ?_, ?_⟩ <;> first | omega | (simp; omega))
    | rfl

theorem someOf_call (code : List Int) (hcode : ∀ x ∈ code, 0 ≤ x ∧ x ≤ 255) (a : Nat) (sd : Int) (n : Int) (hn : 0 ≤ n ∧ n ≤ 1000) (hc : a ≤ 1099511620000) : ACall Try.prog 61 [.ptr ⟨0, 0, 0, 3, 0⟩, .int .i64 n] [.arr false (.raw 3) [[.slice ⟨1, 0, 0, 1, 0⟩ code.length, .int .i64 (a : Nat), .int .u64 (sd)]], .arr true .byte code] (Ex (ι := List Int × Cu) (fun i => .slice ⟨2, 0, 0, 1, 0⟩ i.1.length) (fun i => [.arr false (.raw 3) [[.slice ⟨1, 0, 0, 1, 0⟩ code.length, .int .i64 (i.2.at' : Nat), .int .u64 (i.2.seed)]], .arr true .byte code, .arr false .int (i.1)]) (fun i => (i.1.length : Int) ≤ n + 1 ∧ a ≤ i.2.at' ∧ i.2.at' ≤ a + 5000)) := by
  refine ACall.walk T Try.func61 Try.ntmps61 Try.results61 rfl rfl rfl (Ex.nv ([], ⟨a, sd⟩) ⟨by simp; omega, Nat.le_refl _, Nat.le_add_right _ _⟩) ?_
  repeat' (conv => whnf); first
    | refine AWP.seq ?_
    | refine AWP.reg T rfl ?_
    | refine AWP.drw T none rfl rfl rfl ?_
    | refine AWP.dep T none rfl rfl rfl rfl ?_
    | refine AWP.block ?_
    | refine AWP.condT rfl ?_
    | refine AWP.condF rfl ?_
    | refine AWP.cond rfl (fun hb => ?_) (fun hb => ?_)
    | refine AWP.ret ?_
    | refine AWP.exit ?_
    | refine AWP.skip ?_
    | refine GuardB.t ?_
    | refine GuardB.f ?_
    | refine GuardB.mk (fun hb => ?_) (fun hb => ?_)
    | refine NilQ.mk (fun hb => ?_) ?_
    | refine VC.mk Nat.zero_lt_one ?_
    | refine VC.mk rfl ?_
    | refine ACall.useExC [0, 1] (one_call code hcode _ _ _ ?_ ?_) rfl (.cons (.same rfl rfl) (.cons (.same rfl rfl) (.nil _))) rfl (fun j jA jS hj => ?_)
    | refine AWP.while (ι := Nat × List Int × Nat × Int) (fun g => St.of [(0, .ptr ⟨0, 0, 0, 3, 0⟩), (1, .int .i64 n), (5, .slice ⟨2, 0, 0, 1, 0⟩ g.2.1.length), (6, .int .i64 (g.1 : Nat))] [.arr false (.raw 3) [[.slice ⟨1, 0, 0, 1, 0⟩ code.length, .int .i64 (g.2.2.1 : Nat), .int .u64 g.2.2.2]], .arr true .byte code, .arr false .int (g.2.1)]) (fun g => ((g.1 : Int) ≤ n ∧ g.2.1.length ≤ g.1) ∧ a ≤ g.2.2.1 ∧ g.2.2.1 ≤ a + 2 * g.1) (fun g => (n - g.1).toNat) (0, [], _, _) ?_
        (Weak.of [0, 1, 3] (.cons rfl rfl (.cons rfl rfl (.s rfl ?_ rfl (.i rfl ?_ .nil)))) (.cons (.same rfl rfl) (.cons (.same rfl rfl) (.cons (.same rfl rfl) (.nil _)))) rfl) (fun g hg => ?_)
    | refine roundEnd (g.1 + 1, _, _, _) ?_ ?_ (Weak.of [0, 1, 4] (.cons rfl rfl (.cons rfl rfl (.s rfl ?_ rfl (.i rfl ?_ .nil)))) (.cons (.same rfl rfl) (.cons (.same rfl rfl) (.cons (.same rfl rfl) (.nil _)))) rfl)
    | refine roundEnd (g.1 + 1, _, _, _) ?_ ?_ (Weak.of [0, 1, 2] (.cons rfl rfl (.cons rfl rfl (.s rfl ?_ rfl (.i rfl ?_ .nil)))) (.cons (.same rfl rfl) (.cons (.same rfl rfl) (.cons (.same rfl rfl) (.nil _)))) rfl)
    | refine Ret.ex [0, 1, 4] (_, ⟨_, _⟩) ?_ rfl (.cons (.same rfl rfl) (.cons (.same rfl rfl) (.cons (.same rfl rfl) (.nil _)))) rfl
    | refine Ret.ex [0, 1, 4] (_, ⟨_, _⟩) ?_ ?_ (.cons (.same rfl rfl) (.cons (.same rfl rfl) (.cons (.same rfl rfl) (.nil _)))) rfl
    | refine Ret.ex [0, 1, 2] (_, ⟨_, _⟩) ?_ rfl (.cons (.same rfl rfl) (.cons (.same rfl rfl) (.cons (.same rfl rfl) (.nil _)))) rfl
    | refine Ret.ex [0, 1, 2] (_, ⟨_, _⟩) ?_ ?_ (.cons (.same rfl rfl) (.cons (.same rfl rfl) (.cons (.same rfl rfl) (.nil _)))) rfl
    | refine VC.mk ?_ ?_
  all_goals try simp only [decide_eq_true_eq, decide_eq_false_iff_not, Bool.not_eq_true', Bool.not_eq_false', cond_true, cond_false, eqB_true, eqB_false] at *
  all_goals try simp only [in64, idxAdd_zero_left, Int.toNat_natCast, fillTo_length, Int.ofNat_lt, Int.ofNat_le, Int.natCast_inj] at *
  all_goals try obtain ⟨gn, gl, ga, gs⟩ := g
  all_goals try dsimp only at *
  all_goals try have hamong := AmongOk.le (by assumption)
  all_goals try have hp1 := hpp.1
  all_goals try have hp2 := hpp.2
  all_goals try have hkl := kruL_le l
  all_goals try simp only [PickOk, OneOk, Cu.to, sub_len0, sub_len1, sub_lenM, List.length_nil, List.length_append, List.length_singleton, List.length_set] at *
  all_goals first
    | omega
    | exact hpp
    | with_reducible rfl
    | exact ⟨by omega, by omega⟩
    | exact ⟨by simp, by omega, by omega⟩
    | exact ⟨rfl, trivial⟩
    | exact ⟨by omega, by omega, by omega⟩
    | (refine ⟨?_, ?_, ?_⟩ <;> first | omega | (simp; done))
    | exact congrArg (AV.slice ⟨2, 0, 0, 3, 0⟩) (by simp)
    | exact congrArg (AV.slice ⟨2, 0, 0, 1, 0⟩) (by simp)
    | exact congrArg (AV.slice ⟨4, 0, 0, 1, 0⟩) (by simp)
    | (refine ⟨⟨?_, ?_⟩, ?_⟩ <;> first | omega | (simp; omega))
    | (refine ⟨⟨?_, ?_⟩, ?_, ?_⟩ <;> first | omega | (simp; omega))
    | rfl

theorem drawGood_call (code : List Int) (hcode : ∀ x ∈ code, 0 ≤ x ∧ x ≤ 255) : ACall Try.prog 64 [.slice ⟨0, 0, 0, 1, 0⟩ code.length] [.arr true .byte code] (Ex (ι := List S3) (fun i => .slice ⟨1, 0, 0, 3, 0⟩ i.length) (fun i => [.arr true .byte code, .arr false .s3 i]) (fun i => i.length ≤ 25)) := by
  refine ACall.walk T Try.func64 Try.ntmps64 Try.results64 rfl rfl rfl (Ex.nv [] (by simp)) ?_
  repeat' (conv => whnf); first
    | refine AWP.seq ?_
    | refine AWP.reg T rfl ?_
    | refine AWP.drw T none rfl rfl rfl ?_
    | refine AWP.dep T none rfl rfl rfl rfl ?_
    | refine AWP.block ?_
    | refine AWP.condT rfl ?_
    | refine AWP.condF rfl ?_
    | refine AWP.cond rfl (fun hb => ?_) (fun hb => ?_)
    | refine AWP.ret ?_
    | refine AWP.exit ?_
    | refine AWP.skip ?_
    | refine GuardB.t ?_
    | refine GuardB.f ?_
    | refine GuardB.mk (fun hb => ?_) (fun hb => ?_)
    | refine NilQ.mk (fun hb => ?_) ?_
    | refine VC.mk Nat.zero_lt_one ?_
    | refine VC.mk rfl ?_
    | refine ACall.useExC [2, 0] (edges_call code hcode _ _ ?_) rfl (.cons (.same rfl rfl) (.cons (.same rfl rfl) (.nil _))) rfl (fun l lA lS hl => ?_)
    | refine Ret.ex [0, 3] _ ?_ rfl (.cons (.same rfl rfl) (.cons (.same rfl rfl) (.nil _))) rfl
    | refine VC.mk ?_ ?_
  all_goals try simp only [decide_eq_true_eq, decide_eq_false_iff_not, Bool.not_eq_true', Bool.not_eq_false', cond_true, cond_false, eqB_true, eqB_false] at *
  all_goals try simp only [in64, idxAdd_zero_left, Int.toNat_natCast, fillTo_length, Int.ofNat_lt, Int.ofNat_le, Int.natCast_inj] at *
  all_goals try obtain ⟨gn, gl, ga, gs⟩ := g
  all_goals try dsimp only at *
  all_goals try have hamong := AmongOk.le (by assumption)
  all_goals try have hp1 := hpp.1
  all_goals try have hp2 := hpp.2
  all_goals try have hkl := kruL_le l
  all_goals try simp only [PickOk, OneOk, Cu.to, sub_len0, sub_len1, sub_lenM, List.length_nil, List.length_append, List.length_singleton, List.length_set] at *
  all_goals first
    | omega
    | exact hpp
    | with_reducible rfl
    | exact ⟨by omega, by omega⟩
    | exact ⟨by simp, by omega, by omega⟩
    | exact ⟨rfl, trivial⟩
    | exact ⟨by omega, by omega, by omega⟩
    | (refine ⟨?_, ?_, ?_⟩ <;> first | omega | (simp; done))
    | exact congrArg (AV.slice ⟨2, 0, 0, 3, 0⟩) (by simp)
    | exact congrArg (AV.slice ⟨2, 0, 0, 1, 0⟩) (by simp)
    | exact congrArg (AV.slice ⟨4, 0, 0, 1, 0⟩) (by simp)
    | (refine ⟨⟨?_, ?_⟩, ?_⟩ <;> first | omega | (simp; omega))
    | (refine ⟨⟨?_, ?_⟩, ?_, ?_⟩ <;> first | omega | (simp; omega))
    | rfl

theorem drawKruskal_call (code : List Int) (hcode : ∀ x ∈ code, 0 ≤ x ∧ x ≤ 255) : ACall Try.prog 35 [.slice ⟨0, 0, 0, 1, 0⟩ code.length] [.arr true .byte code] (Ex (ι := List S3) (fun i => .slice ⟨1, 0, 0, 3, 0⟩ i.length) (fun i => [.arr true .byte code, .arr false .s3 i]) (fun i => i.length ≤ 25)) := by
  refine ACall.walk T Try.func35 Try.ntmps35 Try.results35 rfl rfl rfl (Ex.nv [] (by simp)) ?_
  repeat' (conv => whnf); first
    | refine AWP.seq ?_
    | refine AWP.reg T rfl ?_
    | refine AWP.drw T none rfl rfl rfl ?_
    | refine AWP.dep T none rfl rfl rfl rfl ?_
    | refine AWP.block ?_
    | refine AWP.condT rfl ?_
    | refine AWP.condF rfl ?_
    | refine AWP.cond rfl (fun hb => ?_) (fun hb => ?_)
    | refine AWP.ret ?_
    | refine AWP.exit ?_
    | refine AWP.skip ?_
    | refine GuardB.t ?_
    | refine GuardB.f ?_
    | refine GuardB.mk (fun hb => ?_) (fun hb => ?_)
    | refine NilQ.mk (fun hb => ?_) ?_
    | refine VC.mk Nat.zero_lt_one ?_
    | refine VC.mk rfl ?_
    | refine ACall.useEx [0] (drawGood_call code hcode) rfl (.cons (.same rfl rfl) (.nil _)) rfl (fun i hi => ?_)
    | refine Ret.ex [0, 2] _ ?_ rfl (.cons (.same rfl rfl) (.cons (.same rfl rfl) (.nil _))) rfl
    | refine VC.mk ?_ ?_
  all_goals try simp only [decide_eq_true_eq, decide_eq_false_iff_not, Bool.not_eq_true', Bool.not_eq_false', cond_true, cond_false, eqB_true, eqB_false] at *
  all_goals try simp only [in64, idxAdd_zero_left, Int.toNat_natCast, fillTo_length, Int.ofNat_lt, Int.ofNat_le, Int.natCast_inj] at *
  all_goals try obtain ⟨gn, gl, ga, gs⟩ := g
  all_goals try dsimp only at *
  all_goals try have hamong := AmongOk.le (by assumption)
  all_goals try have hp1 := hpp.1
  all_goals try have hp2 := hpp.2
  all_goals try have hkl := kruL_le l
  all_goals try simp only [PickOk, OneOk, Cu.to, sub_len0, sub_len1, sub_lenM, List.length_nil, List.length_append, List.length_singleton, List.length_set] at *
  all_goals first
    | omega
    | exact hpp
    | with_reducible rfl
    | exact ⟨by omega, by omega⟩
    | exact ⟨by simp, by omega, by omega⟩
    | exact ⟨rfl, trivial⟩
    | exact ⟨by omega, by omega, by omega⟩
    | (refine ⟨?_, ?_, ?_⟩ <;> first | omega | (simp; done))
    | exact congrArg (AV.slice ⟨2, 0, 0, 3, 0⟩) (by simp)
    | exact congrArg (AV.slice ⟨2, 0, 0, 1, 0⟩) (by simp)
    | exact congrArg (AV.slice ⟨4, 0, 0, 1, 0⟩) (by simp)
    | (refine ⟨⟨?_, ?_⟩, ?_⟩ <;> first | omega | (simp; omega))
    | (refine ⟨⟨?_, ?_⟩, ?_, ?_⟩ <;> first | omega | (simp; omega))
    | rfl

theorem drawCutOf_call (code : List Int) (hcode : ∀ x ∈ code, 0 ≤ x ∧ x ≤ 255) : ACall Try.prog 28 [.slice ⟨0, 0, 0, 1, 0⟩ code.length] [.arr true .byte code] (Ex (ι := List S3 × List Int) (fun i => .tuple [.slice ⟨1, 0, 0, 3, 0⟩ i.1.length, .slice ⟨2, 0, 0, 1, 0⟩ i.2.length]) (fun i => [.arr true .byte code, .arr false .s3 i.1, .arr false .int i.2]) (fun i => i.1.length ≤ 25 ∧ i.2.length ≤ 1001)) := by
  refine ACall.walk T Try.func28 Try.ntmps28 Try.results28 rfl rfl rfl (Ex.nv ([], []) ⟨by simp, by simp⟩) ?_
  repeat' (conv => whnf); first
    | refine AWP.seq ?_
    | refine AWP.reg T rfl ?_
    | refine AWP.drw T none rfl rfl rfl ?_
    | refine AWP.dep T none rfl rfl rfl rfl ?_
    | refine AWP.block ?_
    | refine AWP.condT rfl ?_
    | refine AWP.condF rfl ?_
    | refine AWP.cond rfl (fun hb => ?_) (fun hb => ?_)
    | refine AWP.ret ?_
    | refine AWP.exit ?_
    | refine AWP.skip ?_
    | refine GuardB.t ?_
    | refine GuardB.f ?_
    | refine GuardB.mk (fun hb => ?_) (fun hb => ?_)
    | refine NilQ.mk (fun hb => ?_) ?_
    | refine VC.mk Nat.zero_lt_one ?_
    | refine VC.mk rfl ?_
    | refine ACall.useExC [3, 0] (edges_call code hcode _ _ ?_) rfl (.cons (.same rfl rfl) (.cons (.same rfl rfl) (.nil _))) rfl (fun l lA lS hl => ?_)
    | refine ACall.useExC [3, 0] (someOf_call code hcode _ _ _ ?_ ?_) rfl (.cons (.same rfl rfl) (.cons (.same rfl rfl) (.nil _))) rfl (fun z zA zS hz => ?_)
    | refine Ret.ex [0, 4, 5] (_, _) ?_ rfl (.cons (.same rfl rfl) (.cons (.same rfl rfl) (.cons (.same rfl rfl) (.nil _)))) rfl
    | refine VC.mk ?_ ?_
  all_goals try simp only [decide_eq_true_eq, decide_eq_false_iff_not, Bool.not_eq_true', Bool.not_eq_false', cond_true, cond_false, eqB_true, eqB_false] at *
  all_goals try simp only [in64, idxAdd_zero_left, Int.toNat_natCast, fillTo_length, Int.ofNat_lt, Int.ofNat_le, Int.natCast_inj] at *
  all_goals try obtain ⟨gn, gl, ga, gs⟩ := g
  all_goals try dsimp only at *
  all_goals try have hamong := AmongOk.le (by assumption)
  all_goals try have hp1 := hpp.1
  all_goals try have hp2 := hpp.2
  all_goals try have hkl := kruL_le l
  all_goals try simp only [PickOk, OneOk, Cu.to, sub_len0, sub_len1, sub_lenM, List.length_nil, List.length_append, List.length_singleton, List.length_set] at *
  all_goals first
    | omega
    | exact hpp
    | with_reducible rfl
    | exact ⟨by omega, by omega⟩
    | exact ⟨by simp, by omega, by omega⟩
    | exact ⟨rfl, trivial⟩
    | exact ⟨by omega, by omega, by omega⟩
    | (refine ⟨?_, ?_, ?_⟩ <;> first | omega | (simp; done))
    | exact congrArg (AV.slice ⟨2, 0, 0, 3, 0⟩) (by simp)
    | exact congrArg (AV.slice ⟨2, 0, 0, 1, 0⟩) (by simp)
    | exact congrArg (AV.slice ⟨4, 0, 0, 1, 0⟩) (by simp)
    | (refine ⟨⟨?_, ?_⟩, ?_⟩ <;> first | omega | (simp; omega))
    | (refine ⟨⟨?_, ?_⟩, ?_, ?_⟩ <;> first | omega | (simp; omega))
    | rfl

theorem drawPartsOf_call (code : List Int) (hcode : ∀ x ∈ code, 0 ≤ x ∧ x ≤ 255) : ACall Try.prog 31 [.slice ⟨0, 0, 0, 1, 0⟩ code.length] [.arr true .byte code] (Ex (ι := List S3 × List Int) (fun i => .tuple [.slice ⟨1, 0, 0, 3, 0⟩ i.1.length, .slice ⟨2, 0, 0, 1, 0⟩ i.2.length]) (fun i => [.arr true .byte code, .arr false .s3 i.1, .arr false .int i.2]) (fun i => i.1.length ≤ 25 ∧ i.2.length ≤ 1001)) := by
  refine ACall.walk T Try.func31 Try.ntmps31 Try.results31 rfl rfl rfl (Ex.nv ([], []) ⟨by simp, by simp⟩) ?_
  repeat' (conv => whnf); first
    | refine AWP.seq ?_
    | refine AWP.reg T rfl ?_
    | refine AWP.drw T none rfl rfl rfl ?_
    | refine AWP.dep T none rfl rfl rfl rfl ?_
    | refine AWP.block ?_
    | refine AWP.condT rfl ?_
    | refine AWP.condF rfl ?_
    | refine AWP.cond rfl (fun hb => ?_) (fun hb => ?_)
    | refine AWP.ret ?_
    | refine AWP.exit ?_
    | refine AWP.skip ?_
    | refine GuardB.t ?_
    | refine GuardB.f ?_
    | refine GuardB.mk (fun hb => ?_) (fun hb => ?_)
    | refine NilQ.mk (fun hb => ?_) ?_
    | refine VC.mk Nat.zero_lt_one ?_
    | refine VC.mk rfl ?_
    | refine ACall.useExC [3, 0] (edges_call code hcode _ _ ?_) rfl (.cons (.same rfl rfl) (.cons (.same rfl rfl) (.nil _))) rfl (fun l lA lS hl => ?_)
    | refine ACall.useExC [3, 0] (someOf_call code hcode _ _ _ ?_ ?_) rfl (.cons (.same rfl rfl) (.cons (.same rfl rfl) (.nil _))) rfl (fun z zA zS hz => ?_)
    | refine Ret.ex [0, 4, 5] (_, _) ?_ rfl (.cons (.same rfl rfl) (.cons (.same rfl rfl) (.cons (.same rfl rfl) (.nil _)))) rfl
    | refine VC.mk ?_ ?_
  all_goals try simp only [decide_eq_true_eq, decide_eq_false_iff_not, Bool.not_eq_true', Bool.not_eq_false', cond_true, cond_false, eqB_true, eqB_false] at *
  all_goals try simp only [in64, idxAdd_zero_left, Int.toNat_natCast, fillTo_length, Int.ofNat_lt, Int.ofNat_le, Int.natCast_inj] at *
  all_goals try obtain ⟨gn, gl, ga, gs⟩ := g
  all_goals try dsimp only at *
  all_goals try have hamong := AmongOk.le (by assumption)
  all_goals try have hp1 := hpp.1
  all_goals try have hp2 := hpp.2
  all_goals try have hkl := kruL_le l
  all_goals try simp only [PickOk, OneOk, Cu.to, sub_len0, sub_len1, sub_lenM, List.length_nil, List.length_append, List.length_singleton, List.length_set] at *
  all_goals first
    | omega
    | exact hpp
    | with_reducible rfl
    | exact ⟨by omega, by omega⟩
    | exact ⟨by simp, by omega, by omega⟩
    | exact ⟨rfl, trivial⟩
    | exact ⟨by omega, by omega, by omega⟩
    | (refine ⟨?_, ?_, ?_⟩ <;> first | omega | (simp; done))
    | exact congrArg (AV.slice ⟨2, 0, 0, 3, 0⟩) (by simp)
    | exact congrArg (AV.slice ⟨2, 0, 0, 1, 0⟩) (by simp)
    | exact congrArg (AV.slice ⟨4, 0, 0, 1, 0⟩) (by simp)
    | (refine ⟨⟨?_, ?_⟩, ?_⟩ <;> first | omega | (simp; omega))
    | (refine ⟨⟨?_, ?_⟩, ?_, ?_⟩ <;> first | omega | (simp; omega))
    | rfl

theorem drawPathIn_call (code : List Int) (hcode : ∀ x ∈ code, 0 ≤ x ∧ x ≤ 255) : ACall Try.prog 34 [.slice ⟨0, 0, 0, 1, 0⟩ code.length] [.arr true .byte code] (Ex (ι := List S3 × List Int × Int × Int) (fun i => .tuple [.slice ⟨1, 0, 0, 3, 0⟩ i.1.length, .slice ⟨2, 0, 0, 1, 0⟩ i.2.1.length, .int .i64 i.2.2.1, .int .i64 i.2.2.2]) (fun i => [.arr true .byte code, .arr false .s3 i.1, .arr false .int i.2.1]) (fun i => i.1.length ≤ 25 ∧ i.2.1.length ≤ 1001)) := by
  refine ACall.walk T Try.func34 Try.ntmps34 Try.results34 rfl rfl rfl (Ex.nv ([], [], 0, 0) ⟨by simp, by simp⟩) ?_
  repeat' (conv => whnf); first
    | refine AWP.seq ?_
    | refine AWP.reg T rfl ?_
    | refine AWP.drw T none rfl rfl rfl ?_
    | refine AWP.dep T none rfl rfl rfl rfl ?_
    | refine AWP.block ?_
    | refine AWP.condT rfl ?_
    | refine AWP.condF rfl ?_
    | refine AWP.cond rfl (fun hb => ?_) (fun hb => ?_)
    | refine AWP.ret ?_
    | refine AWP.exit ?_
    | refine AWP.skip ?_
    | refine GuardB.t ?_
    | refine GuardB.f ?_
    | refine GuardB.mk (fun hb => ?_) (fun hb => ?_)
    | refine NilQ.mk (fun hb => ?_) ?_
    | refine VC.mk Nat.zero_lt_one ?_
    | refine VC.mk rfl ?_
    | refine ACall.useExC [3, 0] (edges_call code hcode _ _ ?_) rfl (.cons (.same rfl rfl) (.cons (.same rfl rfl) (.nil _))) rfl (fun l lA lS hl => ?_)
    | refine ACall.useIs [4] (specKruskal_call _ ?_) rfl (.cons (.ro rfl rfl) (.nil _)) rfl ?_
    | refine ACall.useExC [3, 0] (one_call code hcode _ _ _ ?_ ?_) rfl (.cons (.same rfl rfl) (.cons (.same rfl rfl) (.nil _))) rfl (fun y yA yS hy => ?_)
    | refine ACall.useExC [3, 0] (someOf_call code hcode _ _ _ ?_ ?_) rfl (.cons (.same rfl rfl) (.cons (.same rfl rfl) (.nil _))) rfl (fun z zA zS hz => ?_)
    | refine ACall.useExC [3, 0] (pick_call code hcode _ _ _ ?_ ?_) rfl (.cons (.same rfl rfl) (.cons (.same rfl rfl) (.nil _))) rfl (fun y yA yS hy => ?_)
    | refine Ret.ex [0, 4, 6] (_, _, _, _) ?_ rfl (.cons (.same rfl rfl) (.cons (.same rfl rfl) (.cons (.same rfl rfl) (.nil _)))) rfl
    | refine Ret.ex [0, 4, 5] (_, _, _, _) ?_ rfl (.cons (.same rfl rfl) (.cons (.same rfl rfl) (.cons (.same rfl rfl) (.nil _)))) rfl
    | refine VC.mk ?_ ?_
  all_goals try simp only [decide_eq_true_eq, decide_eq_false_iff_not, Bool.not_eq_true', Bool.not_eq_false', cond_true, cond_false, eqB_true, eqB_false] at *
  all_goals try simp only [in64, idxAdd_zero_left, Int.toNat_natCast, fillTo_length, Int.ofNat_lt, Int.ofNat_le, Int.natCast_inj] at *
  all_goals try obtain ⟨gn, gl, ga, gs⟩ := g
  all_goals try dsimp only at *
  all_goals try have hamong := AmongOk.le (by assumption)
  all_goals try have hp1 := hpp.1
  all_goals try have hp2 := hpp.2
  all_goals try have hkl := kruL_le l
  all_goals try simp only [PickOk, OneOk, Cu.to, sub_len0, sub_len1, sub_lenM, List.length_nil, List.length_append, List.length_singleton, List.length_set] at *
  all_goals first
    | omega
    | exact hpp
    | with_reducible rfl
    | exact ⟨by omega, by omega⟩
    | exact ⟨by simp, by omega, by omega⟩
    | exact ⟨rfl, trivial⟩
    | exact ⟨by omega, by omega, by omega⟩
    | (refine ⟨?_, ?_, ?_⟩ <;> first | omega | (simp; done))
    | exact congrArg (AV.slice ⟨2, 0, 0, 3, 0⟩) (by simp)
    | exact congrArg (AV.slice ⟨2, 0, 0, 1, 0⟩) (by simp)
    | exact congrArg (AV.slice ⟨4, 0, 0, 1, 0⟩) (by simp)
    | (refine ⟨⟨?_, ?_⟩, ?_⟩ <;> first | omega | (simp; omega))
    | (refine ⟨⟨?_, ?_⟩, ?_, ?_⟩ <;> first | omega | (simp; omega))
    | rfl

end YtnfcnocoehkgoaaAM
