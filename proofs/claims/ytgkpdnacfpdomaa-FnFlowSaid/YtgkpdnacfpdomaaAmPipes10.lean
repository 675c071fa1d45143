/- Contracts of functions of this seat. -/
import Derived.Test.YtgkpdnacfpdomaaAmTabPipes
import Derived.Test.YtgkpdnacfpdomaaAmModels
import Derived.Test.YtgkpdnacfpdomaaAmPipes9
import Derived.Test.YtgkpdnacfpdomaaAmFlowLaw
import Derived.Test.YtgkpdnacfpdomaaAmMatchModels
import Derived.Test.YtgkpdnacfpdomaaAmDrawLast
set_option linter.unusedVariables false
set_option linter.unusedSimpArgs false
set_option maxRecDepth 100000
set_option maxHeartbeats 4000000
namespace YtgkpdnacfpdomaaAM
open Go Go.Proofs
attribute [local irreducible] NextOk PickOk OneOk AmongOk askB isFl flowOk isB outM outN cutM grM sideM mfL mfN mcL mcN aoL aoN aoB augO augM augF hasB someB goodPipes cutSz cutOk flowM selN

theorem sub_lenM {α : Type} (l : List α) (i m : Nat) : (sub l i m).length = min m (l.length - i) := by simp [sub]
theorem next_call (code : List Int) (hcode : ∀ x ∈ code, 0 ≤ x ∧ x ≤ 255) (a : Nat) (sd : Int) (hc : a ≤ 1099511627778) : ACall Try.prog 76 [.ptr ⟨0, 0, 0, 3, 0⟩] [.arr false (.raw 3) [[.slice ⟨1, 0, 0, 1, 0⟩ code.length, .int .i64 (a : Nat), .int .u64 (sd)]], .arr true .byte code] (Ex (ι := Int × Cu) (fun i => .int .i64 i.1) (fun i => [.arr false (.raw 3) [[.slice ⟨1, 0, 0, 1, 0⟩ code.length, .int .i64 (i.2.at' : Nat), .int .u64 (i.2.seed)]], .arr true .byte code]) (fun i => NextOk ⟨a, sd⟩ i)) := by
  refine ACall.walk T Try.func76 Try.ntmps76 Try.results76 rfl rfl rfl (Ex.nv (0, ⟨a, sd⟩) (NextOk.zero _)) ?_
  repeat' (conv => whnf); first
    | refine AWP.seq ?_
    | refine AWP.reg T rfl ?_
    | refine AWP.drw T none rfl rfl rfl ?_
    | refine AWP.dep T none rfl rfl rfl rfl ?_
    | refine AWP.block ?_
    | refine AWP.condT rfl ?_
    | refine AWP.condF rfl ?_
    | refine AWP.cond rfl (fun hb => ?_) (fun hb => ?_)
    | refine AWP.ret ?_
    | refine AWP.exit ?_
    | refine AWP.skip ?_
    | refine GuardB.t ?_
    | refine GuardB.f ?_
    | refine GuardB.mk (fun hb => ?_) (fun hb => ?_)
    | refine NilQ.mk (fun hb => ?_) ?_
    | refine VC.mk Nat.zero_lt_one ?_
    | refine VC.mk rfl ?_
    | refine Ret.ex [0, 1] (_, ⟨a + 1, _⟩) ?_ rfl (.cons (.same rfl rfl) (.cons (.same rfl rfl) (.nil _))) rfl
    | refine VC.mk ?_ ?_
  all_goals try simp only [decide_eq_true_eq, decide_eq_false_iff_not, Bool.not_eq_true', Bool.not_eq_false', cond_true, cond_false, eqB_true, eqB_false] at *
  all_goals try simp only [in64, idxAdd_zero_left, Int.toNat_natCast, fillTo_length, Int.ofNat_lt, Int.ofNat_le, Int.natCast_inj] at *
  all_goals have hby := byte_at hcode a
  all_goals try simp only [Int.toNat_natCast] at *
  all_goals first
    | omega
    | exact ⟨by omega, by omega⟩
    | exact ⟨rfl, trivial⟩
    | exact NextOk.byte hcode ⟨a, sd⟩ _ _
    | exact NextOk.low ⟨a, sd⟩ _ _
    | exact ⟨Int.le_trans (by decide) (and255 _).1, Int.le_trans (and255 _).2 (by decide)⟩
theorem pick_call (code : List Int) (hcode : ∀ x ∈ code, 0 ≤ x ∧ x ≤ 255) (a : Nat) (sd : Int) (n : Int) (hn : n ≤ 100000) (hc : a ≤ 1099511627777) : ACall Try.prog 64 [.ptr ⟨0, 0, 0, 3, 0⟩, .int .i64 n] [.arr false (.raw 3) [[.slice ⟨1, 0, 0, 1, 0⟩ code.length, .int .i64 (a : Nat), .int .u64 (sd)]], .arr true .byte code] (Ex (ι := Int × Cu) (fun i => .int .i64 i.1) (fun i => [.arr false (.raw 3) [[.slice ⟨1, 0, 0, 1, 0⟩ code.length, .int .i64 (i.2.at' : Nat), .int .u64 (i.2.seed)]], .arr true .byte code]) (fun i => PickOk ⟨a, sd⟩ n i)) := by
  refine ACall.walk T Try.func64 Try.ntmps64 Try.results64 rfl rfl rfl (Ex.nv (0, ⟨a, sd⟩) (PickOk.zero _ n)) ?_
  repeat' (conv => whnf); first
    | refine AWP.seq ?_
    | refine AWP.reg T rfl ?_
    | refine AWP.drw T none rfl rfl rfl ?_
    | refine AWP.dep T none rfl rfl rfl rfl ?_
    | refine AWP.block ?_
    | refine AWP.condT rfl ?_
    | refine AWP.condF rfl ?_
    | refine AWP.cond rfl (fun hb => ?_) (fun hb => ?_)
    | refine AWP.ret ?_
    | refine AWP.exit ?_
    | refine AWP.skip ?_
    | refine GuardB.t ?_
    | refine GuardB.f ?_
    | refine GuardB.mk (fun hb => ?_) (fun hb => ?_)
    | refine NilQ.mk (fun hb => ?_) ?_
    | refine VC.mk Nat.zero_lt_one ?_
    | refine VC.mk rfl ?_
    | refine ACall.useExC [0, 1] (next_call code hcode _ _ ?_) rfl (.cons (.same rfl rfl) (.cons (.same rfl rfl) (.nil _))) rfl (fun i iA iS hi => ?_)
    | refine Ret.ex [0, 1] (_, ⟨_, _⟩) ?_ rfl (.cons (.same rfl rfl) (.cons (.same rfl rfl) (.nil _))) rfl
    | refine VC.mk ?_ ?_
  all_goals try simp only [decide_eq_true_eq, decide_eq_false_iff_not, Bool.not_eq_true', Bool.not_eq_false', cond_true, cond_false, eqB_true, eqB_false] at *
  all_goals try simp only [in64, idxAdd_zero_left, Int.toNat_natCast, fillTo_length, Int.ofNat_lt, Int.ofNat_le, Int.natCast_inj] at *
  all_goals first
    | omega
    | exact PickOk.zero _ n
    | exact hi.in64
    | exact NextOk.in64'' (by assumption) hi
    | exact PickOk.two' (by assumption) hi (by assumption)
    | exact PickOk.one hi (by assumption)
    | exact hi.le hc
theorem one_call (code : List Int) (hcode : ∀ x ∈ code, 0 ≤ x ∧ x ≤ 255) (a : Nat) (sd : Int) (n : Int) (hn : n ≤ 100000) (hc : a ≤ 1099511627776) : ACall Try.prog 74 [.ptr ⟨0, 0, 0, 3, 0⟩, .int .i64 n] [.arr false (.raw 3) [[.slice ⟨1, 0, 0, 1, 0⟩ code.length, .int .i64 (a : Nat), .int .u64 (sd)]], .arr true .byte code] (Ex (ι := Bool × Cu) (fun i => .bool i.1) (fun i => [.arr false (.raw 3) [[.slice ⟨1, 0, 0, 1, 0⟩ code.length, .int .i64 (i.2.at' : Nat), .int .u64 (i.2.seed)]], .arr true .byte code]) (fun i => OneOk ⟨a, sd⟩ i)) := by
  refine ACall.walk T Try.func74 Try.ntmps74 Try.results74 rfl rfl rfl (Ex.nv (false, ⟨a, sd⟩) (OneOk.zero _)) ?_
  repeat' (conv => whnf); first
    | refine AWP.seq ?_
    | refine AWP.reg T rfl ?_
    | refine AWP.drw T none rfl rfl rfl ?_
    | refine AWP.dep T none rfl rfl rfl rfl ?_
    | refine AWP.block ?_
    | refine AWP.condT rfl ?_
    | refine AWP.condF rfl ?_
    | refine AWP.cond rfl (fun hb => ?_) (fun hb => ?_)
    | refine AWP.ret ?_
    | refine AWP.exit ?_
    | refine AWP.skip ?_
    | refine GuardB.t ?_
    | refine GuardB.f ?_
    | refine GuardB.mk (fun hb => ?_) (fun hb => ?_)
    | refine NilQ.mk (fun hb => ?_) ?_
    | refine VC.mk Nat.zero_lt_one ?_
    | refine VC.mk rfl ?_
    | refine ACall.useExC [0, 1] (pick_call code hcode _ _ _ ?_ ?_) rfl (.cons (.same rfl rfl) (.cons (.same rfl rfl) (.nil _))) rfl (fun i iA iS hi => ?_)
    | refine Ret.ex [0, 1] (_, ⟨_, _⟩) ?_ rfl (.cons (.same rfl rfl) (.cons (.same rfl rfl) (.nil _))) rfl
    | refine VC.mk ?_ ?_
  all_goals try simp only [decide_eq_true_eq, decide_eq_false_iff_not, Bool.not_eq_true', Bool.not_eq_false', cond_true, cond_false, eqB_true, eqB_false] at *
  all_goals try simp only [in64, idxAdd_zero_left, Int.toNat_natCast, fillTo_length, Int.ofNat_lt, Int.ofNat_le, Int.natCast_inj] at *
  all_goals first
    | omega
    | exact OneOk.of hi _
theorem among_call (code : List Int) (hcode : ∀ x ∈ code, 0 ≤ x ∧ x ≤ 255) (a : Nat) (sd : Int) (l : List Int) (n : Nat) (hn : n = l.length) (hl : 1 < n ∧ n ≤ 100000) (hc : a ≤ 1099511627776) : ACall Try.prog 75 [.ptr ⟨0, 0, 0, 3, 0⟩, .slice ⟨2, 0, 0, 1, 0⟩ n] [.arr false (.raw 3) [[.slice ⟨1, 0, 0, 1, 0⟩ code.length, .int .i64 (a : Nat), .int .u64 (sd)]], .arr true .byte code, .arr true .int l] (Ex (ι := Int × Cu) (fun i => .int .i64 i.1) (fun i => [.arr false (.raw 3) [[.slice ⟨1, 0, 0, 1, 0⟩ code.length, .int .i64 (i.2.at' : Nat), .int .u64 (i.2.seed)]], .arr true .byte code, .arr true .int l]) (fun i => AmongOk ⟨a, sd⟩ l i)) := by
  refine ACall.walk T Try.func75 Try.ntmps75 Try.results75 rfl rfl rfl (Ex.nv (_, ⟨a, sd⟩) (AmongOk.zero _ (by omega))) ?_
  repeat' (conv => whnf); first
    | refine AWP.seq ?_
    | refine AWP.reg T rfl ?_
    | refine AWP.drw T none rfl rfl rfl ?_
    | refine AWP.dep T none rfl rfl rfl rfl ?_
    | refine AWP.block ?_
    | refine AWP.condT rfl ?_
    | refine AWP.condF rfl ?_
    | refine AWP.cond rfl (fun hb => ?_) (fun hb => ?_)
    | refine AWP.ret ?_
    | refine AWP.exit ?_
    | refine AWP.skip ?_
    | refine GuardB.t ?_
    | refine GuardB.f ?_
    | refine GuardB.mk (fun hb => ?_) (fun hb => ?_)
    | refine NilQ.mk (fun hb => ?_) ?_
    | refine VC.mk Nat.zero_lt_one ?_
    | refine VC.mk rfl ?_
    | refine ACall.useExC [0, 1] (pick_call code hcode _ _ _ ?_ ?_) rfl (.cons (.same rfl rfl) (.cons (.same rfl rfl) (.nil _))) rfl (fun i iA iS hi => ?_)
    | refine Ret.ex [0, 1, 2] (_, ⟨_, _⟩) ?_ rfl (.cons (.same rfl rfl) (.cons (.same rfl rfl) (.cons (.same rfl rfl) (.nil _)))) rfl
    | refine VC.mk ?_ ?_
  all_goals try simp only [decide_eq_true_eq, decide_eq_false_iff_not, Bool.not_eq_true', Bool.not_eq_false', cond_true, cond_false, eqB_true, eqB_false] at *
  all_goals try simp only [in64, idxAdd_zero_left, Int.toNat_natCast, fillTo_length, Int.ofNat_lt, Int.ofNat_le, Int.natCast_inj] at *
  all_goals first
    | omega
    | exact hi.rng (by omega)
    | exact (hi.idx (by omega) (by omega)).2
    | (have := hi.rng (by omega); omega)
    | exact AmongOk.of (by omega) (by omega) hi

theorem pipes_draw (code : List Int) (hcode : ∀ x ∈ code, 0 ≤ x ∧ x ≤ 255) (a : Nat) (sd : Int) (hc : a ≤ 1099511627000) : ACall Try.prog 63 [.ptr ⟨0, 0, 0, 3, 0⟩] [.arr false (.raw 3) [[.slice ⟨1, 0, 0, 1, 0⟩ code.length, .int .i64 (a : Nat), .int .u64 (sd)]], .arr true .byte code] (Ex (ι := List S3 × Cu) (fun i => .slice ⟨2, 0, 0, 3, 0⟩ i.1.length) (fun i => [.arr false (.raw 3) [[.slice ⟨1, 0, 0, 1, 0⟩ code.length, .int .i64 (i.2.at' : Nat), .int .u64 (i.2.seed)]], .arr true .byte code, .arr false .s3 i.1]) (fun i => i.1.length ≤ 21 ∧ a ≤ i.2.at' ∧ i.2.at' ≤ a + 300)) := by
  refine ACall.walk T Try.func63 Try.ntmps63 Try.results63 rfl rfl rfl (Ex.nv ([], ⟨a, sd⟩) ⟨by simp, Nat.le_refl _, Nat.le_add_right _ _⟩) ?_
  repeat' (conv => whnf); first
    | refine AWP.seq ?_
    | refine AWP.reg T rfl ?_
    | refine AWP.drw T none rfl rfl rfl ?_
    | refine AWP.dep T none rfl rfl rfl rfl ?_
    | refine AWP.block ?_
    | refine AWP.condT rfl ?_
    | refine AWP.condF rfl ?_
    | refine AWP.cond rfl (fun hb => ?_) (fun hb => ?_)
    | refine AWP.ret ?_
    | refine AWP.exit ?_
    | refine AWP.skip ?_
    | refine GuardB.t ?_
    | refine GuardB.f ?_
    | refine GuardB.mk (fun hb => ?_) (fun hb => ?_)
    | refine NilQ.mk (fun hb => ?_) ?_
    | refine VC.mk Nat.zero_lt_one ?_
    | refine VC.mk rfl ?_
    | refine ACall.useExC [0, 1] (pick_call code hcode _ _ _ ?_ ?_) rfl (.cons (.same rfl rfl) (.cons (.same rfl rfl) (.nil _))) rfl (fun i iA iS hi => ?_)
    | refine ACall.useExC [0, 1] (one_call code hcode _ _ _ ?_ ?_) rfl (.cons (.same rfl rfl) (.cons (.same rfl rfl) (.nil _))) rfl (fun j jA jS hj => ?_)
    | refine AWP.while (ι := Int × List S3 × Nat × Int) (fun g => St.of [(0, .ptr ⟨0, 0, 0, 3, 0⟩), (3, .slice ⟨2, 0, 0, 3, 0⟩ g.2.1.length), (4, .int .i64 g.1)] [.arr false (.raw 3) [[.slice ⟨1, 0, 0, 1, 0⟩ code.length, .int .i64 (g.2.2.1 : Nat), .int .u64 g.2.2.2]], .arr true .byte code, .arr false .s3 g.2.1]) (fun g => (0 ≤ g.1 ∧ g.1 + g.2.1.length ≤ 21) ∧ a ≤ g.2.2.1 ∧ g.2.2.1 ≤ a + 6 + 10 * g.2.1.length) (fun g => g.1.toNat) (_, [], _, _) ?_
        (Weak.of [0, 1, 3] (.cons rfl rfl (.cons rfl rfl (.cons rfl rfl .nil))) (.cons (.same rfl rfl) (.cons (.same rfl rfl) (.cons (.same rfl rfl) (.nil _)))) rfl) (fun g hg => ?_)
    | refine roundEnd (_, _, _, _) ?_ ?_ (Weak.of [0, 1, 5] (.cons rfl rfl (.s rfl ?_ rfl (.cons rfl rfl .nil))) (.cons (.same rfl rfl) (.cons (.same rfl rfl) (.cons (.same rfl rfl) (.nil _)))) rfl)
    | refine ACall.useExC [0, 1, 3] (among_call code hcode _ _ _ 3 rfl ?_ ?_) rfl (.cons (.same rfl rfl) (.cons (.same rfl rfl) (.cons (.ro rfl rfl) (.nil _)))) rfl (fun u uA uS hu => ?_)
    | refine Ret.ex [0, 1, 2] (_, ⟨_, _⟩) ?_ rfl (.cons (.same rfl rfl) (.cons (.same rfl rfl) (.cons (.same rfl rfl) (.nil _)))) rfl
    | refine Ret.ex [0, 1, 2] (_, ⟨_, _⟩) ?_ ?_ (.cons (.same rfl rfl) (.cons (.same rfl rfl) (.cons (.same rfl rfl) (.nil _)))) rfl
    | refine VC.mk ?_ ?_
  all_goals try simp only [decide_eq_true_eq, decide_eq_false_iff_not, Bool.not_eq_true', Bool.not_eq_false', cond_true, cond_false, eqB_true, eqB_false] at *
  all_goals try simp only [in64, idxAdd_zero_left, Int.toNat_natCast, fillTo_length, Int.ofNat_lt, Int.ofNat_le, Int.natCast_inj] at *
  all_goals try obtain ⟨gn, gl, ga, gs⟩ := g
  all_goals try dsimp only at *
  all_goals try have hamu := AmongOk.le hu
  all_goals try simp only [PickOk, OneOk, Cu.to, sub_len0, sub_len1, sub_lenM, List.length_nil, List.length_append, List.length_singleton, List.length_set, List.length_replicate] at *
  all_goals first
    | omega
    | rfl
    | exact ⟨by omega, by omega⟩
    | (refine ⟨?_, ?_, ?_⟩ <;> first | omega | (simp; done))
    | exact ⟨rfl, trivial⟩
    | exact congrArg (AV.slice ⟨2, 0, 0, 3, 0⟩) (by simp)
    | exact congrArg (AV.slice ⟨4, 0, 0, 1, 0⟩) (by simp)
    | (refine ⟨⟨?_, ?_⟩, ?_⟩ <;> first | omega | (simp; omega))

theorem someOf_call (code : List Int) (hcode : ∀ x ∈ code, 0 ≤ x ∧ x ≤ 255) (a : Nat) (sd : Int) (n : Int) (hn : 0 ≤ n ∧ n ≤ 1000) (hc : a ≤ 1099511620000) : ACall Try.prog 66 [.ptr ⟨0, 0, 0, 3, 0⟩, .int .i64 n] [.arr false (.raw 3) [[.slice ⟨1, 0, 0, 1, 0⟩ code.length, .int .i64 (a : Nat), .int .u64 (sd)]], .arr true .byte code] (Ex (ι := List Int × Cu) (fun i => .slice ⟨2, 0, 0, 1, 0⟩ i.1.length) (fun i => [.arr false (.raw 3) [[.slice ⟨1, 0, 0, 1, 0⟩ code.length, .int .i64 (i.2.at' : Nat), .int .u64 (i.2.seed)]], .arr true .byte code, .arr false .int (i.1)]) (fun i => (i.1.length : Int) ≤ n + 1 ∧ a ≤ i.2.at' ∧ i.2.at' ≤ a + 5000)) := by
  refine ACall.walk T Try.func66 Try.ntmps66 Try.results66 rfl rfl rfl (Ex.nv ([], ⟨a, sd⟩) ⟨by simp; omega, Nat.le_refl _, Nat.le_add_right _ _⟩) ?_
  repeat' (conv => whnf); first
    | refine AWP.seq ?_
    | refine AWP.reg T rfl ?_
    | refine AWP.drw T none rfl rfl rfl ?_
    | refine AWP.dep T none rfl rfl rfl rfl ?_
    | refine AWP.block ?_
    | refine AWP.condT rfl ?_
    | refine AWP.condF rfl ?_
    | refine AWP.cond rfl (fun hb => ?_) (fun hb => ?_)
    | refine AWP.ret ?_
    | refine AWP.exit ?_
    | refine AWP.skip ?_
    | refine GuardB.t ?_
    | refine GuardB.f ?_
    | refine GuardB.mk (fun hb => ?_) (fun hb => ?_)
    | refine NilQ.mk (fun hb => ?_) ?_
    | refine VC.mk Nat.zero_lt_one ?_
    | refine VC.mk rfl ?_
    | refine ACall.useExC [0, 1] (one_call code hcode _ _ _ ?_ ?_) rfl (.cons (.same rfl rfl) (.cons (.same rfl rfl) (.nil _))) rfl (fun j jA jS hj => ?_)
    | refine AWP.while (ι := Nat × List Int × Nat × Int) (fun g => St.of [(0, .ptr ⟨0, 0, 0, 3, 0⟩), (1, .int .i64 n), (5, .slice ⟨2, 0, 0, 1, 0⟩ g.2.1.length), (6, .int .i64 (g.1 : Nat))] [.arr false (.raw 3) [[.slice ⟨1, 0, 0, 1, 0⟩ code.length, .int .i64 (g.2.2.1 : Nat), .int .u64 g.2.2.2]], .arr true .byte code, .arr false .int (g.2.1)]) (fun g => ((g.1 : Int) ≤ n ∧ g.2.1.length ≤ g.1) ∧ a ≤ g.2.2.1 ∧ g.2.2.1 ≤ a + 2 * g.1) (fun g => (n - g.1).toNat) (0, [], _, _) ?_
        (Weak.of [0, 1, 3] (.cons rfl rfl (.cons rfl rfl (.s rfl ?_ rfl (.i rfl ?_ .nil)))) (.cons (.same rfl rfl) (.cons (.same rfl rfl) (.cons (.same rfl rfl) (.nil _)))) rfl) (fun g hg => ?_)
    | refine roundEnd (g.1 + 1, _, _, _) ?_ ?_ (Weak.of [0, 1, 4] (.cons rfl rfl (.cons rfl rfl (.s rfl ?_ rfl (.i rfl ?_ .nil)))) (.cons (.same rfl rfl) (.cons (.same rfl rfl) (.cons (.same rfl rfl) (.nil _)))) rfl)
    | refine roundEnd (g.1 + 1, _, _, _) ?_ ?_ (Weak.of [0, 1, 2] (.cons rfl rfl (.cons rfl rfl (.s rfl ?_ rfl (.i rfl ?_ .nil)))) (.cons (.same rfl rfl) (.cons (.same rfl rfl) (.cons (.same rfl rfl) (.nil _)))) rfl)
    | refine Ret.ex [0, 1, 4] (_, ⟨_, _⟩) ?_ rfl (.cons (.same rfl rfl) (.cons (.same rfl rfl) (.cons (.same rfl rfl) (.nil _)))) rfl
    | refine Ret.ex [0, 1, 4] (_, ⟨_, _⟩) ?_ ?_ (.cons (.same rfl rfl) (.cons (.same rfl rfl) (.cons (.same rfl rfl) (.nil _)))) rfl
    | refine Ret.ex [0, 1, 2] (_, ⟨_, _⟩) ?_ rfl (.cons (.same rfl rfl) (.cons (.same rfl rfl) (.cons (.same rfl rfl) (.nil _)))) rfl
    | refine Ret.ex [0, 1, 2] (_, ⟨_, _⟩) ?_ ?_ (.cons (.same rfl rfl) (.cons (.same rfl rfl) (.cons (.same rfl rfl) (.nil _)))) rfl
    | refine VC.mk ?_ ?_
  all_goals try simp only [decide_eq_true_eq, decide_eq_false_iff_not, Bool.not_eq_true', Bool.not_eq_false', cond_true, cond_false, eqB_true, eqB_false] at *
  all_goals try simp only [in64, idxAdd_zero_left, Int.toNat_natCast, fillTo_length, Int.ofNat_lt, Int.ofNat_le, Int.natCast_inj] at *
  all_goals try obtain ⟨gk, gl, ga, gs⟩ := g
  all_goals try dsimp only at *
  all_goals try have hamu := AmongOk.le hu
  all_goals try simp only [PickOk, OneOk, Cu.to, sub_len0, sub_len1, sub_lenM, List.length_nil, List.length_append, List.length_singleton, List.length_set, List.length_replicate] at *
  all_goals first
    | omega
    | rfl
    | exact ⟨by omega, by omega⟩
    | (refine ⟨?_, ?_, ?_⟩ <;> first | omega | (simp; done))
    | exact ⟨rfl, trivial⟩
    | exact congrArg (AV.slice ⟨2, 0, 0, 3, 0⟩) (by simp)
    | exact congrArg (AV.slice ⟨4, 0, 0, 1, 0⟩) (by simp)
    | (refine ⟨⟨?_, ?_⟩, ?_⟩ <;> first | omega | (simp; omega))

def SmF (fl : List Int) : Prop := fl.length ≤ 21 ∧ ∀ k, 0 ≤ fl.getD k 0 ∧ fl.getD k 0 ≤ 100
theorem sm_add {fl : List Int} {k : Nat} {x : Int} (h : SmF fl) (h1 : 0 ≤ x) (h2 : x < 3) : -9223372036854775808 ≤ fl.getD k 0 + (x - 1) ∧ fl.getD k 0 + (x - 1) ≤ 9223372036854775807 := by have := h.2 k; omega
theorem mul01 {p q : Int} (h1 : 0 ≤ p) (h2 : p < 2) (h3 : 0 ≤ q) (h4 : q < 2) : -9223372036854775808 ≤ p * q ∧ p * q ≤ 9223372036854775807 := by
  have hp : p = 0 ∨ p = 1 := by omega
  rcases hp with rfl | rfl
  · simp
  · simp; omega
theorem sub01 {x p q : Int} (hx : 0 ≤ x ∧ x < 6) (h1 : 0 ≤ p) (h2 : p < 2) (h3 : 0 ≤ q) (h4 : q < 2) : -9223372036854775808 ≤ x - p * q ∧ x - p * q ≤ 9223372036854775807 := by
  have hp : p = 0 ∨ p = 1 := by omega
  rcases hp with rfl | rfl
  · simp; omega
  · simp; omega
theorem SmF.zero {n : Nat} (h : n ≤ 21) : SmF (List.replicate n 0) := ⟨by simpa using h, fun k => by rw [List.getD_eq_getElem?_getD, List.getElem?_replicate]; split <;> decide⟩
theorem SmF.aug (l : List S3) (u t : Int) (fl : List Int) : SmF (aoL l u t fl) := by
  refine ⟨by have := aoL_le l u t fl; omega, fun k => ?_⟩
  unfold aoL
  split
  · rename_i h
    by_cases hn : 0 < augM l fl u t
    · have hs := isFl_spec (aug_more h hn).1
      rcases Nat.lt_or_ge k l.length with hk | hk
      · have h1 := capB_iff.1 (hs.2.2.2.2.2.1.2 k hk)
        have h2 := goodPipes_at hs.1 hk
        omega
      · rw [List.getD_eq_getElem?_getD, List.getElem?_eq_none (by rw [hs.2.2.2.2.1]; exact hk)]; decide
    · obtain ⟨h1, h2, h3, h4, h5, h6, _⟩ := isFl_spec h
      have h0 := (aug_spec h1 h2 h4 h5 h6).2.2.1
      rw [augO_nil h1 h2 h4 h5 h6 (by omega)]; simp
  · simp

theorem flow_call (code : List Int) (hcode : ∀ x ∈ code, 0 ≤ x ∧ x ≤ 255) (a : Nat) (sd : Int) (l : List S3) (u t : Int) (hl : l.length ≤ 21) (hc : a ≤ 1099511620000) : ACall Try.prog 77 [.ptr ⟨0, 0, 0, 3, 0⟩, .slice ⟨2, 0, 0, 3, 0⟩ l.length, .int .i64 u, .int .i64 t] [.arr false (.raw 3) [[.slice ⟨1, 0, 0, 1, 0⟩ code.length, .int .i64 (a : Nat), .int .u64 (sd)]], .arr true .byte code, .arr true .s3 l] (Ex (ι := List Int × Cu) (fun i => .slice ⟨3, 0, 0, 1, 0⟩ i.1.length) (fun i => [.arr false (.raw 3) [[.slice ⟨1, 0, 0, 1, 0⟩ code.length, .int .i64 (i.2.at' : Nat), .int .u64 (i.2.seed)]], .arr true .byte code, .arr true .s3 l, .arr false .int (i.1)]) (fun i => i.1.length ≤ 22)) := by
  refine ACall.walk T Try.func77 Try.ntmps77 Try.results77 rfl rfl rfl (Ex.nv ([], ⟨a, sd⟩) (by simp)) ?_
  repeat' (conv => whnf); first
    | refine AWP.seq ?_
    | refine AWP.reg T rfl ?_
    | refine AWP.drw T none rfl rfl rfl ?_
    | refine AWP.dep T none rfl rfl rfl rfl ?_
    | refine AWP.block ?_
    | refine AWP.condT rfl ?_
    | refine AWP.condF rfl ?_
    | refine AWP.cond rfl (fun hb => ?_) (fun hb => ?_)
    | refine AWP.ret ?_
    | refine AWP.exit ?_
    | refine AWP.skip ?_
    | refine GuardB.t ?_
    | refine GuardB.f ?_
    | refine GuardB.mk (fun hb => ?_) (fun hb => ?_)
    | refine NilQ.mk (fun hb => ?_) ?_
    | refine VC.mk Nat.zero_lt_one ?_
    | refine VC.mk rfl ?_
    | refine ACall.useExC [0, 1] (pick_call code hcode _ _ _ ?_ ?_) rfl (.cons (.same rfl rfl) (.cons (.same rfl rfl) (.nil _))) rfl (fun px b bs hx => ?_)
    | refine ACall.useExC [0, 1] (one_call code hcode _ _ _ ?_ ?_) rfl (.cons (.same rfl rfl) (.cons (.same rfl rfl) (.nil _))) rfl (fun j jA jS hj => ?_)
    | refine AWP.while (ι := Int × List Int) (fun g => St.of [(0, .ptr ⟨0, 0, 0, 3, 0⟩), (1, .slice ⟨2, 0, 0, 3, 0⟩ l.length), (2, .int .i64 u), (3, .int .i64 t), (9, .slice ⟨3, 0, 0, 1, 0⟩ g.2.length), (10, .int .i64 g.1)] [.arr false (.raw 3) [[.slice ⟨1, 0, 0, 1, 0⟩ code.length, .int .i64 (b : Nat), .int .u64 bs]], .arr true .byte code, .arr true .s3 l, .arr false .int (g.2)]) (fun g => (0 ≤ g.1 ∧ g.1 ≤ 4) ∧ SmF g.2) (fun g => g.1.toNat) (_, List.replicate l.length 0) ?_
        (Weak.of [0, 1, 2, 4] (.cons rfl rfl (.cons rfl rfl (.cons rfl rfl (.cons rfl rfl (.s rfl ?_ rfl (.cons rfl rfl .nil)))))) (.cons (.same rfl rfl) (.cons (.same rfl rfl) (.cons (.same rfl rfl) (.cons (.arr rfl ?_) (.nil _))))) rfl) (fun g hg => ?_)
    | refine ACall.useIs [2, 3] (specAugmentOnce_call l u t g.2 ?_ ?_) rfl (.cons (.same rfl rfl) (.cons (.ro rfl rfl) (.nil _))) rfl ?_
    | refine roundEnd (_, aoL l u t g.2) ?_ ?_ (Weak.of [0, 1, 2, 4] (.cons rfl rfl (.cons rfl rfl (.cons rfl rfl (.cons rfl rfl (.s rfl ?_ rfl (.cons rfl rfl .nil)))))) (.cons (.same rfl rfl) (.cons (.same rfl rfl) (.cons (.same rfl rfl) (.cons (.same rfl rfl) (.nil _))))) rfl)
    | refine roundEnd (_, g.2) ?_ ?_ (Weak.of [0, 1, 2, 3] (.cons rfl rfl (.cons rfl rfl (.cons rfl rfl (.cons rfl rfl (.s rfl ?_ rfl (.cons rfl rfl .nil)))))) (.cons (.same rfl rfl) (.cons (.same rfl rfl) (.cons (.same rfl rfl) (.cons (.same rfl rfl) (.nil _))))) rfl)
    | refine AWP.drwL T 12 (some [3]) rfl rfl rfl ?_
    | refine LGoal.list ?_
    | refine Ret.ex [0, 1, 2, 5] (_, ⟨_, _⟩) ?_ rfl (.cons (.same rfl rfl) (.cons (.same rfl rfl) (.cons (.same rfl rfl) (.cons (.same rfl rfl) (.nil _))))) rfl
    | refine Ret.ex [0, 1, 2, 5] (_, ⟨_, _⟩) ?_ ?_ (.cons (.same rfl rfl) (.cons (.same rfl rfl) (.cons (.same rfl rfl) (.cons (.same rfl rfl) (.nil _))))) rfl
    | refine Ret.ex [0, 1, 2, 3] (_, ⟨_, _⟩) ?_ rfl (.cons (.same rfl rfl) (.cons (.same rfl rfl) (.cons (.same rfl rfl) (.cons (.same rfl rfl) (.nil _))))) rfl
    | refine Ret.ex [0, 1, 2, 3] (_, ⟨_, _⟩) ?_ ?_ (.cons (.same rfl rfl) (.cons (.same rfl rfl) (.cons (.same rfl rfl) (.cons (.same rfl rfl) (.nil _))))) rfl
    | refine VC.mk ?_ ?_
  all_goals try simp only [decide_eq_true_eq, decide_eq_false_iff_not, Bool.not_eq_true', Bool.not_eq_false', cond_true, cond_false, eqB_true, eqB_false] at *
  all_goals try simp only [in64, idxAdd_zero_left, Int.toNat_natCast, fillTo_length, Int.ofNat_lt, Int.ofNat_le, Int.natCast_inj] at *
  all_goals try obtain ⟨gn, gl⟩ := g
  all_goals try dsimp only at *
  all_goals try have hsm := hg.2
  all_goals try have hs1 := hsm.1
  all_goals try simp only [PickOk, OneOk, Cu.to, sub_len0, sub_len1, sub_lenM, List.length_nil, List.length_append, List.length_singleton, List.length_set, List.length_replicate] at *
  all_goals first
    | omega
    | rfl
    | exact ⟨by omega, by omega⟩
    | exact sm_add hsm (by omega) (by omega)
    | exact ⟨⟨by omega, by omega⟩, SmF.zero hl⟩
    | exact ⟨⟨by omega, by omega⟩, SmF.aug _ _ _ _⟩
    | exact ⟨⟨by omega, by omega⟩, hsm⟩
    | exact ⟨⟨by omega, by omega⟩, hg.2⟩
    | exact ⟨by omega, SmF.zero hl⟩
    | exact ⟨by omega, SmF.aug _ _ _ _⟩
    | exact ⟨by omega, hsm⟩
    | exact ⟨by omega, hg.2⟩
    | (refine ⟨?_, ?_, ?_⟩ <;> first | omega | (simp; done))
    | exact ⟨rfl, trivial⟩
    | exact congrArg (AV.slice ⟨5, 0, 0, 1, 0⟩) (by simp)
    | exact congrArg (AV.slice ⟨4, 0, 0, 1, 0⟩) (by simp)
    | exact congrArg (AV.slice ⟨3, 0, 0, 1, 0⟩) (by simp)

theorem drawMaxFlow_call (code : List Int) (hcode : ∀ x ∈ code, 0 ≤ x ∧ x ≤ 255) : ACall Try.prog 34 [.slice ⟨0, 0, 0, 1, 0⟩ code.length] [.arr true .byte code] (Ex (ι := List S3 × Int × Int) (fun i => .tuple [.slice ⟨1, 0, 0, 3, 0⟩ i.1.length, .int .i64 i.2.1, .int .i64 i.2.2]) (fun i => [.arr true .byte code, .arr false .s3 i.1]) (fun i => i.1.length ≤ 21)) := by
  refine ACall.walk T Try.func34 Try.ntmps34 Try.results34 rfl rfl rfl (Ex.nv ([], 0, 0) (by simp)) ?_
  repeat' (conv => whnf); first
    | refine AWP.seq ?_
    | refine AWP.reg T rfl ?_
    | refine AWP.drw T none rfl rfl rfl ?_
    | refine AWP.dep T none rfl rfl rfl rfl ?_
    | refine AWP.block ?_
    | refine AWP.condT rfl ?_
    | refine AWP.condF rfl ?_
    | refine AWP.cond rfl (fun hb => ?_) (fun hb => ?_)
    | refine AWP.ret ?_
    | refine AWP.exit ?_
    | refine AWP.skip ?_
    | refine GuardB.t ?_
    | refine GuardB.f ?_
    | refine GuardB.mk (fun hb => ?_) (fun hb => ?_)
    | refine NilQ.mk (fun hb => ?_) ?_
    | refine VC.mk Nat.zero_lt_one ?_
    | refine VC.mk rfl ?_
    | refine ACall.useExC [2, 0] (pipes_draw code hcode _ _ ?_) rfl (.cons (.same rfl rfl) (.cons (.same rfl rfl) (.nil _))) rfl (fun i iA iS hi => ?_)
    | refine ACall.useExC [2, 0] (pick_call code hcode _ _ _ ?_ ?_) rfl (.cons (.same rfl rfl) (.cons (.same rfl rfl) (.nil _))) rfl (fun x xA xS hx => ?_)
    | refine Ret.ex [0, 3] (_, _, _) ?_ rfl (.cons (.same rfl rfl) (.cons (.same rfl rfl) (.nil _))) rfl
    | refine VC.mk ?_ ?_
  all_goals try simp only [decide_eq_true_eq, decide_eq_false_iff_not, Bool.not_eq_true', Bool.not_eq_false', cond_true, cond_false, eqB_true, eqB_false] at *
  all_goals try simp only [in64, idxAdd_zero_left, Int.toNat_natCast, fillTo_length, Int.ofNat_lt, Int.ofNat_le, Int.natCast_inj] at *
  all_goals try have hi1 := hi.1
  all_goals try have hi2 := hi.2
  all_goals try simp only [PickOk, OneOk, Cu.to] at *
  all_goals first
    | exact mul01 (by omega) (by omega) (by omega) (by omega)
    | exact sub01 (by omega) (by omega) (by omega) (by omega) (by omega)
    | exact Nat.zero_le _
    | omega
    | rfl
    | exact ⟨by omega, by omega⟩
    | (have := hx.1; omega)
    | exact hi

theorem drawCutSize_call (code : List Int) (hcode : ∀ x ∈ code, 0 ≤ x ∧ x ≤ 255) : ACall Try.prog 38 [.slice ⟨0, 0, 0, 1, 0⟩ code.length] [.arr true .byte code] (Ex (ι := List S3 × List Int) (fun i => .tuple [.slice ⟨1, 0, 0, 3, 0⟩ i.1.length, .slice ⟨2, 0, 0, 1, 0⟩ i.2.length]) (fun i => [.arr true .byte code, .arr false .s3 i.1, .arr false .int (i.2)]) (fun i => i.1.length ≤ 21 ∧ i.2.length ≤ 9)) := by
  refine ACall.walk T Try.func38 Try.ntmps38 Try.results38 rfl rfl rfl (Ex.nv ([], []) ⟨by simp, by simp⟩) ?_
  repeat' (conv => whnf); first
    | refine AWP.seq ?_
    | refine AWP.reg T rfl ?_
    | refine AWP.drw T none rfl rfl rfl ?_
    | refine AWP.dep T none rfl rfl rfl rfl ?_
    | refine AWP.block ?_
    | refine AWP.condT rfl ?_
    | refine AWP.condF rfl ?_
    | refine AWP.cond rfl (fun hb => ?_) (fun hb => ?_)
    | refine AWP.ret ?_
    | refine AWP.exit ?_
    | refine AWP.skip ?_
    | refine GuardB.t ?_
    | refine GuardB.f ?_
    | refine GuardB.mk (fun hb => ?_) (fun hb => ?_)
    | refine NilQ.mk (fun hb => ?_) ?_
    | refine VC.mk Nat.zero_lt_one ?_
    | refine VC.mk rfl ?_
    | refine ACall.useExC [3, 0] (pipes_draw code hcode _ _ ?_) rfl (.cons (.same rfl rfl) (.cons (.same rfl rfl) (.nil _))) rfl (fun i iA iS hi => ?_)
    | refine ACall.useExC [3, 0] (someOf_call code hcode _ _ _ ?_ ?_) rfl (.cons (.same rfl rfl) (.cons (.same rfl rfl) (.nil _))) rfl (fun x xA xS hx => ?_)
    | refine Ret.ex [0, 4, 5] (_, _) ?_ rfl (.cons (.same rfl rfl) (.cons (.same rfl rfl) (.cons (.same rfl rfl) (.nil _)))) rfl
    | refine VC.mk ?_ ?_
  all_goals try simp only [decide_eq_true_eq, decide_eq_false_iff_not, Bool.not_eq_true', Bool.not_eq_false', cond_true, cond_false, eqB_true, eqB_false] at *
  all_goals try simp only [in64, idxAdd_zero_left, Int.toNat_natCast, fillTo_length, Int.ofNat_lt, Int.ofNat_le, Int.natCast_inj] at *
  all_goals try have hi1 := hi.1
  all_goals try have hi2 := hi.2
  all_goals try simp only [PickOk, OneOk, Cu.to] at *
  all_goals first
    | exact Nat.zero_le _
    | omega
    | rfl
    | exact ⟨by omega, by omega⟩
    | (have := hx.1; omega)
    | exact hi

theorem drawIsFlow_call (code : List Int) (hcode : ∀ x ∈ code, 0 ≤ x ∧ x ≤ 255) : ACall Try.prog 65 [.slice ⟨0, 0, 0, 1, 0⟩ code.length] [.arr true .byte code] (Ex (ι := List S3 × Int × Int × List Int) (fun i => .tuple [.slice ⟨1, 0, 0, 3, 0⟩ i.1.length, .int .i64 i.2.1, .int .i64 i.2.2.1, .slice ⟨2, 0, 0, 1, 0⟩ i.2.2.2.length]) (fun i => [.arr true .byte code, .arr false .s3 i.1, .arr false .int (i.2.2.2)]) (fun i => i.1.length ≤ 21 ∧ i.2.2.2.length ≤ 22)) := by
  refine ACall.walk T Try.func65 Try.ntmps65 Try.results65 rfl rfl rfl (Ex.nv ([], 0, 0, []) ⟨by simp, by simp⟩) ?_
  repeat' (conv => whnf); first
    | refine AWP.seq ?_
    | refine AWP.reg T rfl ?_
    | refine AWP.drw T none rfl rfl rfl ?_
    | refine AWP.dep T none rfl rfl rfl rfl ?_
    | refine AWP.block ?_
    | refine AWP.condT rfl ?_
    | refine AWP.condF rfl ?_
    | refine AWP.cond rfl (fun hb => ?_) (fun hb => ?_)
    | refine AWP.ret ?_
    | refine AWP.exit ?_
    | refine AWP.skip ?_
    | refine GuardB.t ?_
    | refine GuardB.f ?_
    | refine GuardB.mk (fun hb => ?_) (fun hb => ?_)
    | refine NilQ.mk (fun hb => ?_) ?_
    | refine VC.mk Nat.zero_lt_one ?_
    | refine VC.mk rfl ?_
    | refine ACall.useExC [3, 0] (pipes_draw code hcode _ _ ?_) rfl (.cons (.same rfl rfl) (.cons (.same rfl rfl) (.nil _))) rfl (fun i iA iS hi => ?_)
    | refine ACall.useExC [3, 0] (pick_call code hcode _ _ _ ?_ ?_) rfl (.cons (.same rfl rfl) (.cons (.same rfl rfl) (.nil _))) rfl (fun x xA xS hx => ?_)
    | refine ACall.useExC [3, 0, 4] (flow_call code hcode _ _ _ _ _ ?_ ?_) rfl (.cons (.same rfl rfl) (.cons (.same rfl rfl) (.cons (.ro rfl rfl) (.nil _)))) rfl (fun y yA yS hy => ?_)
    | refine Ret.ex [0, 4, 5] (_, _, _, _) ?_ rfl (.cons (.same rfl rfl) (.cons (.same rfl rfl) (.cons (.same rfl rfl) (.nil _)))) rfl
    | refine VC.mk ?_ ?_
  all_goals try simp only [decide_eq_true_eq, decide_eq_false_iff_not, Bool.not_eq_true', Bool.not_eq_false', cond_true, cond_false, eqB_true, eqB_false] at *
  all_goals try simp only [in64, idxAdd_zero_left, Int.toNat_natCast, fillTo_length, Int.ofNat_lt, Int.ofNat_le, Int.natCast_inj] at *
  all_goals try have hi1 := hi.1
  all_goals try have hi2 := hi.2
  all_goals try simp only [PickOk, OneOk, Cu.to] at *
  all_goals first
    | exact Nat.zero_le _
    | omega
    | rfl
    | exact ⟨by omega, by omega⟩
    | (have := hx.1; omega)
    | exact hi
    | exact ⟨hi.1, hy⟩

theorem drawAugment_call (code : List Int) (hcode : ∀ x ∈ code, 0 ≤ x ∧ x ≤ 255) : ACall Try.prog 37 [.slice ⟨0, 0, 0, 1, 0⟩ code.length] [.arr true .byte code] (Ex (ι := List S3 × Int × Int × List Int) (fun i => .tuple [.slice ⟨1, 0, 0, 3, 0⟩ i.1.length, .int .i64 i.2.1, .int .i64 i.2.2.1, .slice ⟨2, 0, 0, 1, 0⟩ i.2.2.2.length]) (fun i => [.arr true .byte code, .arr false .s3 i.1, .arr false .int (i.2.2.2)]) (fun i => i.1.length ≤ 21 ∧ i.2.2.2.length ≤ 22)) := by
  refine ACall.walk T Try.func37 Try.ntmps37 Try.results37 rfl rfl rfl (Ex.nv ([], 0, 0, []) ⟨by simp, by simp⟩) ?_
  repeat' (conv => whnf); first
    | refine AWP.seq ?_
    | refine AWP.reg T rfl ?_
    | refine AWP.drw T none rfl rfl rfl ?_
    | refine AWP.dep T none rfl rfl rfl rfl ?_
    | refine AWP.block ?_
    | refine AWP.condT rfl ?_
    | refine AWP.condF rfl ?_
    | refine AWP.cond rfl (fun hb => ?_) (fun hb => ?_)
    | refine AWP.ret ?_
    | refine AWP.exit ?_
    | refine AWP.skip ?_
    | refine GuardB.t ?_
    | refine GuardB.f ?_
    | refine GuardB.mk (fun hb => ?_) (fun hb => ?_)
    | refine NilQ.mk (fun hb => ?_) ?_
    | refine VC.mk Nat.zero_lt_one ?_
    | refine VC.mk rfl ?_
    | refine ACall.useEx [0] (drawIsFlow_call code hcode) rfl (.cons (.same rfl rfl) (.nil _)) rfl (fun i hi => ?_)
    | refine Ret.ex [0, 3, 4] (_, _, _, _) ?_ rfl (.cons (.same rfl rfl) (.cons (.same rfl rfl) (.cons (.same rfl rfl) (.nil _)))) rfl
    | refine VC.mk ?_ ?_
  all_goals first
    | exact hi
    | rfl

end YtgkpdnacfpdomaaAM
