/- Contracts of functions of this seat. -/
import Derived.Test.YtofjbgpaofcpjaaAmTabPairs
import Derived.Test.YtofjbgpaofcpjaaAmModels
import Derived.Test.YtofjbgpaofcpjaaAmPairs13
set_option linter.unusedVariables false
set_option linter.unusedSimpArgs false
set_option maxRecDepth 100000
set_option maxHeartbeats 4000000
namespace YtofjbgpaofcpjaaAM
open Go Go.Proofs
attribute [local irreducible] NextOk PickOk OneOk AmongOk foldN sortI sortN goodP isMatch matchOk isCover coverOk coverB shB shL coA coR imL imOk maL

theorem sub_lenM {α : Type} (l : List α) (i m : Nat) : (sub l i m).length = min m (l.length - i) := by simp [sub]
theorem smallNil : SmallR [] := ⟨by simp, by rw [show ([] : List (List Int)).length = 0 from rfl, totN_zero]; decide⟩
theorem tupL {a : AV} {b : AAddr} {n m : Nat} (h : n = m) : AV.tuple [a, .slice b n] = AV.tuple [a, .slice b m] := by rw [h]
theorem next_call (code : List Int) (hcode : ∀ x ∈ code, 0 ≤ x ∧ x ≤ 255) (a : Nat) (sd : Int) (hc : a ≤ 1099511627778) : ACall Try.prog 85 [.ptr ⟨0, 0, 0, 3, 0⟩] [.arr false (.raw 3) [[.slice ⟨1, 0, 0, 1, 0⟩ code.length, .int .i64 (a : Nat), .int .u64 (sd)]], .arr true .byte code] (Ex (ι := Int × Cu) (fun i => .int .i64 i.1) (fun i => [.arr false (.raw 3) [[.slice ⟨1, 0, 0, 1, 0⟩ code.length, .int .i64 (i.2.at' : Nat), .int .u64 (i.2.seed)]], .arr true .byte code]) (fun i => NextOk ⟨a, sd⟩ i)) := by
  refine ACall.walk T Try.func85 Try.ntmps85 Try.results85 rfl rfl rfl (Ex.nv (0, ⟨a, sd⟩) (NextOk.zero _)) ?_
  repeat' (conv => whnf); first
    | refine AWP.seq ?_
    | refine AWP.reg T rfl ?_
    | refine AWP.drw T none rfl rfl rfl ?_
    | refine AWP.dep T none rfl rfl rfl rfl ?_
    | refine AWP.block ?_
    | refine AWP.condT rfl ?_
    | refine AWP.condF rfl ?_
    | refine AWP.cond rfl (fun hb => ?_) (fun hb => ?_)
    | refine AWP.ret ?_
    | refine AWP.exit ?_
    | refine AWP.skip ?_
    | refine GuardB.t ?_
    | refine GuardB.f ?_
    | refine GuardB.mk (fun hb => ?_) (fun hb => ?_)
    | refine NilQ.mk (fun hb => ?_) ?_
    | refine VC.mk Nat.zero_lt_one ?_
    | refine VC.mk rfl ?_
    | refine Ret.ex [0, 1] (_, ⟨a + 1, _⟩) ?_ rfl (.cons (.same rfl rfl) (.cons (.same rfl rfl) (.nil _))) rfl
    | refine VC.mk ?_ ?_
  all_goals try simp only [decide_eq_true_eq, decide_eq_false_iff_not, Bool.not_eq_true', Bool.not_eq_false', cond_true, cond_false, eqB_true, eqB_false] at *
  all_goals try simp only [in64, idxAdd_zero_left, Int.toNat_natCast, fillTo_length, Int.ofNat_lt, Int.ofNat_le, Int.natCast_inj] at *
  all_goals have hby := byte_at hcode a
  all_goals try simp only [Int.toNat_natCast] at *
  all_goals first
    | omega
    | exact ⟨by omega, by omega⟩
    | exact ⟨rfl, trivial⟩
    | exact NextOk.byte hcode ⟨a, sd⟩ _ _
    | exact NextOk.low ⟨a, sd⟩ _ _
    | exact ⟨Int.le_trans (by decide) (and255 _).1, Int.le_trans (and255 _).2 (by decide)⟩
theorem pick_call (code : List Int) (hcode : ∀ x ∈ code, 0 ≤ x ∧ x ≤ 255) (a : Nat) (sd : Int) (n : Int) (hn : n ≤ 100000) (hc : a ≤ 1099511627777) : ACall Try.prog 80 [.ptr ⟨0, 0, 0, 3, 0⟩, .int .i64 n] [.arr false (.raw 3) [[.slice ⟨1, 0, 0, 1, 0⟩ code.length, .int .i64 (a : Nat), .int .u64 (sd)]], .arr true .byte code] (Ex (ι := Int × Cu) (fun i => .int .i64 i.1) (fun i => [.arr false (.raw 3) [[.slice ⟨1, 0, 0, 1, 0⟩ code.length, .int .i64 (i.2.at' : Nat), .int .u64 (i.2.seed)]], .arr true .byte code]) (fun i => PickOk ⟨a, sd⟩ n i)) := by
  refine ACall.walk T Try.func80 Try.ntmps80 Try.results80 rfl rfl rfl (Ex.nv (0, ⟨a, sd⟩) (PickOk.zero _ n)) ?_
  repeat' (conv => whnf); first
    | refine AWP.seq ?_
    | refine AWP.reg T rfl ?_
    | refine AWP.drw T none rfl rfl rfl ?_
    | refine AWP.dep T none rfl rfl rfl rfl ?_
    | refine AWP.block ?_
    | refine AWP.condT rfl ?_
    | refine AWP.condF rfl ?_
    | refine AWP.cond rfl (fun hb => ?_) (fun hb => ?_)
    | refine AWP.ret ?_
    | refine AWP.exit ?_
    | refine AWP.skip ?_
    | refine GuardB.t ?_
    | refine GuardB.f ?_
    | refine GuardB.mk (fun hb => ?_) (fun hb => ?_)
    | refine NilQ.mk (fun hb => ?_) ?_
    | refine VC.mk Nat.zero_lt_one ?_
    | refine VC.mk rfl ?_
    | refine ACall.useExC [0, 1] (next_call code hcode _ _ ?_) rfl (.cons (.same rfl rfl) (.cons (.same rfl rfl) (.nil _))) rfl (fun i iA iS hi => ?_)
    | refine Ret.ex [0, 1] (_, ⟨_, _⟩) ?_ rfl (.cons (.same rfl rfl) (.cons (.same rfl rfl) (.nil _))) rfl
    | refine VC.mk ?_ ?_
  all_goals try simp only [decide_eq_true_eq, decide_eq_false_iff_not, Bool.not_eq_true', Bool.not_eq_false', cond_true, cond_false, eqB_true, eqB_false] at *
  all_goals try simp only [in64, idxAdd_zero_left, Int.toNat_natCast, fillTo_length, Int.ofNat_lt, Int.ofNat_le, Int.natCast_inj] at *
  all_goals first
    | omega
    | exact PickOk.zero _ n
    | exact hi.in64
    | exact NextOk.in64'' (by assumption) hi
    | exact PickOk.two' (by assumption) hi (by assumption)
    | exact PickOk.one hi (by assumption)
    | exact hi.le hc
theorem one_call (code : List Int) (hcode : ∀ x ∈ code, 0 ≤ x ∧ x ≤ 255) (a : Nat) (sd : Int) (n : Int) (hn : n ≤ 100000) (hc : a ≤ 1099511627776) : ACall Try.prog 69 [.ptr ⟨0, 0, 0, 3, 0⟩, .int .i64 n] [.arr false (.raw 3) [[.slice ⟨1, 0, 0, 1, 0⟩ code.length, .int .i64 (a : Nat), .int .u64 (sd)]], .arr true .byte code] (Ex (ι := Bool × Cu) (fun i => .bool i.1) (fun i => [.arr false (.raw 3) [[.slice ⟨1, 0, 0, 1, 0⟩ code.length, .int .i64 (i.2.at' : Nat), .int .u64 (i.2.seed)]], .arr true .byte code]) (fun i => OneOk ⟨a, sd⟩ i)) := by
  refine ACall.walk T Try.func69 Try.ntmps69 Try.results69 rfl rfl rfl (Ex.nv (false, ⟨a, sd⟩) (OneOk.zero _)) ?_
  repeat' (conv => whnf); first
    | refine AWP.seq ?_
    | refine AWP.reg T rfl ?_
    | refine AWP.drw T none rfl rfl rfl ?_
    | refine AWP.dep T none rfl rfl rfl rfl ?_
    | refine AWP.block ?_
    | refine AWP.condT rfl ?_
    | refine AWP.condF rfl ?_
    | refine AWP.cond rfl (fun hb => ?_) (fun hb => ?_)
    | refine AWP.ret ?_
    | refine AWP.exit ?_
    | refine AWP.skip ?_
    | refine GuardB.t ?_
    | refine GuardB.f ?_
    | refine GuardB.mk (fun hb => ?_) (fun hb => ?_)
    | refine NilQ.mk (fun hb => ?_) ?_
    | refine VC.mk Nat.zero_lt_one ?_
    | refine VC.mk rfl ?_
    | refine ACall.useExC [0, 1] (pick_call code hcode _ _ _ ?_ ?_) rfl (.cons (.same rfl rfl) (.cons (.same rfl rfl) (.nil _))) rfl (fun i iA iS hi => ?_)
    | refine Ret.ex [0, 1] (_, ⟨_, _⟩) ?_ rfl (.cons (.same rfl rfl) (.cons (.same rfl rfl) (.nil _))) rfl
    | refine VC.mk ?_ ?_
  all_goals try simp only [decide_eq_true_eq, decide_eq_false_iff_not, Bool.not_eq_true', Bool.not_eq_false', cond_true, cond_false, eqB_true, eqB_false] at *
  all_goals try simp only [in64, idxAdd_zero_left, Int.toNat_natCast, fillTo_length, Int.ofNat_lt, Int.ofNat_le, Int.natCast_inj] at *
  all_goals first
    | omega
    | exact OneOk.of hi _
theorem among_call (code : List Int) (hcode : ∀ x ∈ code, 0 ≤ x ∧ x ≤ 255) (a : Nat) (sd : Int) (l : List Int) (n : Nat) (hn : n = l.length) (hl : 1 < n ∧ n ≤ 100000) (hc : a ≤ 1099511627776) : ACall Try.prog 81 [.ptr ⟨0, 0, 0, 3, 0⟩, .slice ⟨2, 0, 0, 1, 0⟩ n] [.arr false (.raw 3) [[.slice ⟨1, 0, 0, 1, 0⟩ code.length, .int .i64 (a : Nat), .int .u64 (sd)]], .arr true .byte code, .arr true .int l] (Ex (ι := Int × Cu) (fun i => .int .i64 i.1) (fun i => [.arr false (.raw 3) [[.slice ⟨1, 0, 0, 1, 0⟩ code.length, .int .i64 (i.2.at' : Nat), .int .u64 (i.2.seed)]], .arr true .byte code, .arr true .int l]) (fun i => AmongOk ⟨a, sd⟩ l i)) := by
  refine ACall.walk T Try.func81 Try.ntmps81 Try.results81 rfl rfl rfl (Ex.nv (_, ⟨a, sd⟩) (AmongOk.zero _ (by omega))) ?_
  repeat' (conv => whnf); first
    | refine AWP.seq ?_
    | refine AWP.reg T rfl ?_
    | refine AWP.drw T none rfl rfl rfl ?_
    | refine AWP.dep T none rfl rfl rfl rfl ?_
    | refine AWP.block ?_
    | refine AWP.condT rfl ?_
    | refine AWP.condF rfl ?_
    | refine AWP.cond rfl (fun hb => ?_) (fun hb => ?_)
    | refine AWP.ret ?_
    | refine AWP.exit ?_
    | refine AWP.skip ?_
    | refine GuardB.t ?_
    | refine GuardB.f ?_
    | refine GuardB.mk (fun hb => ?_) (fun hb => ?_)
    | refine NilQ.mk (fun hb => ?_) ?_
    | refine VC.mk Nat.zero_lt_one ?_
    | refine VC.mk rfl ?_
    | refine ACall.useExC [0, 1] (pick_call code hcode _ _ _ ?_ ?_) rfl (.cons (.same rfl rfl) (.cons (.same rfl rfl) (.nil _))) rfl (fun i iA iS hi => ?_)
    | refine Ret.ex [0, 1, 2] (_, ⟨_, _⟩) ?_ rfl (.cons (.same rfl rfl) (.cons (.same rfl rfl) (.cons (.same rfl rfl) (.nil _)))) rfl
    | refine VC.mk ?_ ?_
  all_goals try simp only [decide_eq_true_eq, decide_eq_false_iff_not, Bool.not_eq_true', Bool.not_eq_false', cond_true, cond_false, eqB_true, eqB_false] at *
  all_goals try simp only [in64, idxAdd_zero_left, Int.toNat_natCast, fillTo_length, Int.ofNat_lt, Int.ofNat_le, Int.natCast_inj] at *
  all_goals first
    | omega
    | exact hi.rng (by omega)
    | exact (hi.idx (by omega) (by omega)).2
    | (have := hi.rng (by omega); omega)
    | exact AmongOk.of (by omega) (by omega) hi

theorem someOf_call (code : List Int) (hcode : ∀ x ∈ code, 0 ≤ x ∧ x ≤ 255) (a : Nat) (sd : Int) (n : Int) (hn : 0 ≤ n ∧ n ≤ 1000) (hc : a ≤ 1099511620000) : ACall Try.prog 70 [.ptr ⟨0, 0, 0, 3, 0⟩, .int .i64 n] [.arr false (.raw 3) [[.slice ⟨1, 0, 0, 1, 0⟩ code.length, .int .i64 (a : Nat), .int .u64 (sd)]], .arr true .byte code] (Ex (ι := List Int × Cu) (fun i => .slice ⟨2, 0, 0, 1, 0⟩ i.1.length) (fun i => [.arr false (.raw 3) [[.slice ⟨1, 0, 0, 1, 0⟩ code.length, .int .i64 (i.2.at' : Nat), .int .u64 (i.2.seed)]], .arr true .byte code, .arr false .int (i.1)]) (fun i => (i.1.length : Int) ≤ n + 1 ∧ a ≤ i.2.at' ∧ i.2.at' ≤ a + 5000)) := by
  refine ACall.walk T Try.func70 Try.ntmps70 Try.results70 rfl rfl rfl (Ex.nv ([], ⟨a, sd⟩) ⟨by simp; omega, Nat.le_refl _, Nat.le_add_right _ _⟩) ?_
  repeat' (conv => whnf); first
    | refine AWP.seq ?_
    | refine AWP.reg T rfl ?_
    | refine AWP.drw T none rfl rfl rfl ?_
    | refine AWP.dep T none rfl rfl rfl rfl ?_
    | refine AWP.block ?_
    | refine AWP.condT rfl ?_
    | refine AWP.condF rfl ?_
    | refine AWP.cond rfl (fun hb => ?_) (fun hb => ?_)
    | refine AWP.ret ?_
    | refine AWP.exit ?_
    | refine AWP.skip ?_
    | refine GuardB.t ?_
    | refine GuardB.f ?_
    | refine GuardB.mk (fun hb => ?_) (fun hb => ?_)
    | refine NilQ.mk (fun hb => ?_) ?_
    | refine VC.mk Nat.zero_lt_one ?_
    | refine VC.mk rfl ?_
    | refine ACall.useExC [0, 1] (one_call code hcode _ _ _ ?_ ?_) rfl (.cons (.same rfl rfl) (.cons (.same rfl rfl) (.nil _))) rfl (fun j jA jS hj => ?_)
    | refine AWP.while (ι := Nat × List Int × Nat × Int) (fun g => St.of [(0, .ptr ⟨0, 0, 0, 3, 0⟩), (1, .int .i64 n), (5, .slice ⟨2, 0, 0, 1, 0⟩ g.2.1.length), (6, .int .i64 (g.1 : Nat))] [.arr false (.raw 3) [[.slice ⟨1, 0, 0, 1, 0⟩ code.length, .int .i64 (g.2.2.1 : Nat), .int .u64 g.2.2.2]], .arr true .byte code, .arr false .int (g.2.1)]) (fun g => ((g.1 : Int) ≤ n ∧ g.2.1.length ≤ g.1) ∧ a ≤ g.2.2.1 ∧ g.2.2.1 ≤ a + 2 * g.1) (fun g => (n - g.1).toNat) (0, [], _, _) ?_
        (Weak.of [0, 1, 3] (.cons rfl rfl (.cons rfl rfl (.s rfl ?_ rfl (.i rfl ?_ .nil)))) (.cons (.same rfl rfl) (.cons (.same rfl rfl) (.cons (.same rfl rfl) (.nil _)))) rfl) (fun g hg => ?_)
    | refine roundEnd (g.1 + 1, _, _, _) ?_ ?_ (Weak.of [0, 1, 4] (.cons rfl rfl (.cons rfl rfl (.s rfl ?_ rfl (.i rfl ?_ .nil)))) (.cons (.same rfl rfl) (.cons (.same rfl rfl) (.cons (.same rfl rfl) (.nil _)))) rfl)
    | refine roundEnd (g.1 + 1, _, _, _) ?_ ?_ (Weak.of [0, 1, 2] (.cons rfl rfl (.cons rfl rfl (.s rfl ?_ rfl (.i rfl ?_ .nil)))) (.cons (.same rfl rfl) (.cons (.same rfl rfl) (.cons (.same rfl rfl) (.nil _)))) rfl)
    | refine Ret.ex [0, 1, 4] (_, ⟨_, _⟩) ?_ rfl (.cons (.same rfl rfl) (.cons (.same rfl rfl) (.cons (.same rfl rfl) (.nil _)))) rfl
    | refine Ret.ex [0, 1, 4] (_, ⟨_, _⟩) ?_ ?_ (.cons (.same rfl rfl) (.cons (.same rfl rfl) (.cons (.same rfl rfl) (.nil _)))) rfl
    | refine Ret.ex [0, 1, 2] (_, ⟨_, _⟩) ?_ rfl (.cons (.same rfl rfl) (.cons (.same rfl rfl) (.cons (.same rfl rfl) (.nil _)))) rfl
    | refine Ret.ex [0, 1, 2] (_, ⟨_, _⟩) ?_ ?_ (.cons (.same rfl rfl) (.cons (.same rfl rfl) (.cons (.same rfl rfl) (.nil _)))) rfl
    | refine VC.mk ?_ ?_
  all_goals try simp only [decide_eq_true_eq, decide_eq_false_iff_not, Bool.not_eq_true', Bool.not_eq_false', cond_true, cond_false, eqB_true, eqB_false] at *
  all_goals try simp only [in64, idxAdd_zero_left, Int.toNat_natCast, fillTo_length, Int.ofNat_lt, Int.ofNat_le, Int.natCast_inj] at *
  all_goals try obtain ⟨gk, gl, ga, gs⟩ := g
  all_goals try obtain ⟨gk2, gl2⟩ := g2
  all_goals try dsimp only at *
  all_goals try have hp1 := hpp.1
  all_goals try have hp2 := hpp.2
  all_goals try simp only [PickOk, OneOk, Cu.to, sub_len0, sub_len1, sub_lenM, List.length_nil, List.length_append, List.length_singleton, List.length_set, List.length_replicate] at *
  all_goals first
    | omega
    | exact hp1
    | exact hpp
    | with_reducible rfl
    | exact ⟨by omega, by omega⟩
    | (refine ⟨?_, ?_, ?_⟩ <;> first | omega | (simp; done))
    | exact ⟨rfl, trivial⟩
    | exact congrArg (AV.slice ⟨2, 0, 0, 1, 0⟩) (by simp)
    | exact congrArg (AV.slice ⟨4, 0, 0, 1, 0⟩) (by simp)
    | exact ⟨hp1, by omega⟩
    | exact ⟨hp1, by omega, by omega⟩
    | exact ⟨hp1, by omega, rfl⟩
    | (refine ⟨hp1, ?_, ?_⟩ <;> first | omega | (simp; done) | (simp; omega))
    | (have := imL_le n m ll gl2; omega)
    | (have := imL_le n m ll gl2; exact ⟨by omega, by omega⟩)
    | (have h1 := coA_le n m ll; have h2 := coR_le n m ll; exact ⟨hp1, by omega, by omega⟩)
    | exact tupL (by simp)
    | (refine ⟨⟨?_, ?_⟩, ?_⟩ <;> first | omega | (simp; omega))
    | rfl

/-- What the draw of a pairing hands back. -/
abbrev PairIn (f : FuncId) : Prop := ∀ (code : List Int), (∀ x ∈ code, 0 ≤ x ∧ x ≤ 255) → ∀ (a : Nat) (sd : Int), a ≤ 1000 → ACall Try.prog f [.ptr ⟨0, 0, 0, 3, 0⟩] [.arr false (.raw 3) [[.slice ⟨1, 0, 0, 1, 0⟩ code.length, .int .i64 (a : Nat), .int .u64 (sd)]], .arr true .byte code] (Ex (fun i : Int × Int × List (List Int) × Cu => .agg [.int .i64 i.1, .int .i64 i.2.1, .slice ⟨2, 0, 0, 1, 0⟩ i.2.2.1.length]) (fun i => [.arr false (.raw 3) [[.slice ⟨1, 0, 0, 1, 0⟩ code.length, .int .i64 (i.2.2.2.at' : Nat), .int .u64 (i.2.2.2.seed)]], .arr true .byte code, .rows false i.2.2.1]) (fun i => SmallR i.2.2.1 ∧ (0 ≤ i.1 ∧ i.1 ≤ 9) ∧ (0 ≤ i.2.1 ∧ i.2.1 ≤ 9) ∧ i.2.2.2.at' ≤ a + 500))

theorem drawGood_of (hp : PairIn 68) (code : List Int) (hcode : ∀ x ∈ code, 0 ≤ x ∧ x ≤ 255) : ACall Try.prog 66 [.slice ⟨0, 0, 0, 1, 0⟩ code.length] [.arr true .byte code] (Ex (ι := Int × Int × List (List Int)) (fun i => .agg [.int .i64 i.1, .int .i64 i.2.1, .slice ⟨1, 0, 0, 1, 0⟩ i.2.2.length]) (fun i => [.arr true .byte code, .rows false i.2.2]) (fun i => SmallR i.2.2)) := by
  refine ACall.walk T Try.func66 Try.ntmps66 Try.results66 rfl rfl rfl (Ex.nv (0, 0, []) smallNil) ?_
  repeat' (conv => whnf); first
    | refine AWP.seq ?_
    | refine AWP.reg T rfl ?_
    | refine AWP.drw T none rfl rfl rfl ?_
    | refine AWP.dep T none rfl rfl rfl rfl ?_
    | refine AWP.block ?_
    | refine AWP.condT rfl ?_
    | refine AWP.condF rfl ?_
    | refine AWP.cond rfl (fun hb => ?_) (fun hb => ?_)
    | refine AWP.ret ?_
    | refine AWP.exit ?_
    | refine AWP.skip ?_
    | refine GuardB.t ?_
    | refine GuardB.f ?_
    | refine GuardB.mk (fun hb => ?_) (fun hb => ?_)
    | refine NilQ.mk (fun hb => ?_) ?_
    | refine VC.mk Nat.zero_lt_one ?_
    | refine VC.mk rfl ?_
    | refine ACall.useEx4 [2, 0] (hp code hcode _ _ ?_) rfl (.cons (.same rfl rfl) (.cons (.same rfl rfl) (.nil _))) rfl (fun n m ll u hpp => ?_)
    | refine Ret.ex [0, 3] (_, _, _) ?_ rfl (.cons (.same rfl rfl) (.cons (.same rfl rfl) (.nil _))) rfl
    | refine VC.mk ?_ ?_
  all_goals try simp only [decide_eq_true_eq, decide_eq_false_iff_not, Bool.not_eq_true', Bool.not_eq_false', cond_true, cond_false, eqB_true, eqB_false] at *
  all_goals try simp only [in64, idxAdd_zero_left, Int.toNat_natCast, fillTo_length, Int.ofNat_lt, Int.ofNat_le, Int.natCast_inj] at *
  all_goals try obtain ⟨gk, gl, ga, gs⟩ := g
  all_goals try obtain ⟨gk2, gl2⟩ := g2
  all_goals try dsimp only at *
  all_goals try have hp1 := hpp.1
  all_goals try have hp2 := hpp.2
  all_goals try simp only [PickOk, OneOk, Cu.to, sub_len0, sub_len1, sub_lenM, List.length_nil, List.length_append, List.length_singleton, List.length_set, List.length_replicate] at *
  all_goals first
    | omega
    | exact hp1
    | exact hpp
    | with_reducible rfl
    | exact ⟨by omega, by omega⟩
    | (refine ⟨?_, ?_, ?_⟩ <;> first | omega | (simp; done))
    | exact ⟨rfl, trivial⟩
    | exact congrArg (AV.slice ⟨2, 0, 0, 1, 0⟩) (by simp)
    | exact congrArg (AV.slice ⟨4, 0, 0, 1, 0⟩) (by simp)
    | exact ⟨hp1, by omega⟩
    | exact ⟨hp1, by omega, by omega⟩
    | exact ⟨hp1, by omega, rfl⟩
    | (refine ⟨hp1, ?_, ?_⟩ <;> first | omega | (simp; done) | (simp; omega))
    | (have := imL_le n m ll gl2; omega)
    | (have := imL_le n m ll gl2; exact ⟨by omega, by omega⟩)
    | (have h1 := coA_le n m ll; have h2 := coR_le n m ll; exact ⟨hp1, by omega, by omega⟩)
    | exact tupL (by simp)
    | (refine ⟨⟨?_, ?_⟩, ?_⟩ <;> first | omega | (simp; omega))
    | rfl

theorem drawMatchAll_of (hp : PairIn 68) (code : List Int) (hcode : ∀ x ∈ code, 0 ≤ x ∧ x ≤ 255) : ACall Try.prog 34 [.slice ⟨0, 0, 0, 1, 0⟩ code.length] [.arr true .byte code] (Ex (ι := Int × Int × List (List Int)) (fun i => .agg [.int .i64 i.1, .int .i64 i.2.1, .slice ⟨1, 0, 0, 1, 0⟩ i.2.2.length]) (fun i => [.arr true .byte code, .rows false i.2.2]) (fun i => SmallR i.2.2)) := by
  refine ACall.walk T Try.func34 Try.ntmps34 Try.results34 rfl rfl rfl (Ex.nv (0, 0, []) smallNil) ?_
  repeat' (conv => whnf); first
    | refine AWP.seq ?_
    | refine AWP.reg T rfl ?_
    | refine AWP.drw T none rfl rfl rfl ?_
    | refine AWP.dep T none rfl rfl rfl rfl ?_
    | refine AWP.block ?_
    | refine AWP.condT rfl ?_
    | refine AWP.condF rfl ?_
    | refine AWP.cond rfl (fun hb => ?_) (fun hb => ?_)
    | refine AWP.ret ?_
    | refine AWP.exit ?_
    | refine AWP.skip ?_
    | refine GuardB.t ?_
    | refine GuardB.f ?_
    | refine GuardB.mk (fun hb => ?_) (fun hb => ?_)
    | refine NilQ.mk (fun hb => ?_) ?_
    | refine VC.mk Nat.zero_lt_one ?_
    | refine VC.mk rfl ?_
    | refine ACall.useEx3 [0] (drawGood_of hp code hcode) rfl (.cons (.same rfl rfl) (.nil _)) rfl (fun n m ll hpp => ?_)
    | refine Ret.ex [0, 2] (_, _, _) ?_ rfl (.cons (.same rfl rfl) (.cons (.same rfl rfl) (.nil _))) rfl
    | refine VC.mk ?_ ?_
  all_goals try simp only [decide_eq_true_eq, decide_eq_false_iff_not, Bool.not_eq_true', Bool.not_eq_false', cond_true, cond_false, eqB_true, eqB_false] at *
  all_goals try simp only [in64, idxAdd_zero_left, Int.toNat_natCast, fillTo_length, Int.ofNat_lt, Int.ofNat_le, Int.natCast_inj] at *
  all_goals try obtain ⟨gk, gl, ga, gs⟩ := g
  all_goals try obtain ⟨gk2, gl2⟩ := g2
  all_goals try dsimp only at *
  all_goals try have hp1 := hpp.1
  all_goals try have hp2 := hpp.2
  all_goals try simp only [PickOk, OneOk, Cu.to, sub_len0, sub_len1, sub_lenM, List.length_nil, List.length_append, List.length_singleton, List.length_set, List.length_replicate] at *
  all_goals first
    | omega
    | exact hp1
    | exact hpp
    | with_reducible rfl
    | exact ⟨by omega, by omega⟩
    | (refine ⟨?_, ?_, ?_⟩ <;> first | omega | (simp; done))
    | exact ⟨rfl, trivial⟩
    | exact congrArg (AV.slice ⟨2, 0, 0, 1, 0⟩) (by simp)
    | exact congrArg (AV.slice ⟨4, 0, 0, 1, 0⟩) (by simp)
    | exact ⟨hp1, by omega⟩
    | exact ⟨hp1, by omega, by omega⟩
    | exact ⟨hp1, by omega, rfl⟩
    | (refine ⟨hp1, ?_, ?_⟩ <;> first | omega | (simp; done) | (simp; omega))
    | (have := imL_le n m ll gl2; omega)
    | (have := imL_le n m ll gl2; exact ⟨by omega, by omega⟩)
    | (have h1 := coA_le n m ll; have h2 := coR_le n m ll; exact ⟨hp1, by omega, by omega⟩)
    | exact tupL (by simp)
    | (refine ⟨⟨?_, ?_⟩, ?_⟩ <;> first | omega | (simp; omega))
    | rfl

theorem drawIsMatch0 (hp : PairIn 68) (code : List Int) (hcode : ∀ x ∈ code, 0 ≤ x ∧ x ≤ 255) : ACall Try.prog 67 [.slice ⟨0, 0, 0, 1, 0⟩ code.length] [.arr true .byte code] (Ex (ι := Int × Int × List (List Int) × List Int × Nat) (fun i => .tuple [.agg [.int .i64 i.1, .int .i64 i.2.1, .slice ⟨1, 0, 0, 1, 0⟩ i.2.2.1.length], .slice ⟨2, 0, 0, 1, 0⟩ i.2.2.2.2]) (fun i => [.arr true .byte code, .rows false i.2.2.1, .arr false .int (i.2.2.2.1)]) (fun i => SmallR i.2.2.1 ∧ i.2.2.2.1.length ≤ 1048576 ∧ i.2.2.2.2 = i.2.2.2.1.length)) := by
  refine ACall.walk T Try.func67 Try.ntmps67 Try.results67 rfl rfl rfl (Ex.nv (0, 0, [], [], 0) ⟨smallNil, by simp, rfl⟩) ?_
  repeat' (conv => whnf); first
    | refine AWP.seq ?_
    | refine AWP.reg T rfl ?_
    | refine AWP.drw T none rfl rfl rfl ?_
    | refine AWP.dep T none rfl rfl rfl rfl ?_
    | refine AWP.block ?_
    | refine AWP.condT rfl ?_
    | refine AWP.condF rfl ?_
    | refine AWP.cond rfl (fun hb => ?_) (fun hb => ?_)
    | refine AWP.ret ?_
    | refine AWP.exit ?_
    | refine AWP.skip ?_
    | refine GuardB.t ?_
    | refine GuardB.f ?_
    | refine GuardB.mk (fun hb => ?_) (fun hb => ?_)
    | refine NilQ.mk (fun hb => ?_) ?_
    | refine VC.mk Nat.zero_lt_one ?_
    | refine VC.mk rfl ?_
    | refine ACall.useEx4 [3, 0] (hp code hcode _ _ ?_) rfl (.cons (.same rfl rfl) (.cons (.same rfl rfl) (.nil _))) rfl (fun n m ll u hpp => ?_)
    | refine ACall.useExC [2, 0] (pick_call code hcode _ _ _ ?_ ?_) rfl (.cons (.same rfl rfl) (.cons (.same rfl rfl) (.nil _))) rfl (fun x xA xS hx => ?_)
    | refine ACall.useExC [2, 0] (one_call code hcode _ _ _ ?_ ?_) rfl (.cons (.same rfl rfl) (.cons (.same rfl rfl) (.nil _))) rfl (fun y yA yS hy => ?_)
    | refine AWP.while (ι := Int × List Int) (fun g2 => St.of [(2, .ptr ⟨1, 0, 0, 3, 0⟩), (4, .ptr ⟨2, 0, 0, 3, 0⟩), (5, .ptr ⟨4, 0, 0, 3, 0⟩), (6, .slice ⟨5, 0, 0, 1, 0⟩ g2.2.length), (8, .int .i64 g2.1)] [.arr true .byte code, .arr false (.raw 3) [[.int .i64 0, .int .i64 0, .nilS]], .arr false (.raw 3) [[.slice ⟨0, 0, 0, 1, 0⟩ code.length, .int .i64 (xA : Nat), .int .u64 xS]], .rows false ll, .arr false (.raw 3) [[.int .i64 n, .int .i64 m, .slice ⟨3, 0, 0, 1, 0⟩ ll.length]], .arr false .int (g2.2)]) (fun g2 => (0 ≤ g2.1 ∧ g2.1 ≤ 4) ∧ g2.2.length ≤ 20) (fun g2 => g2.1.toNat) (_, _) ?_
        (Weak.of [0, 1, 2, 3, 4, 5] (.cons rfl rfl (.cons rfl rfl (.cons rfl rfl (.cons rfl rfl (.cons rfl rfl .nil))))) (.cons (.same rfl rfl) (.cons (.same rfl rfl) (.cons (.same rfl rfl) (.cons (.same rfl rfl) (.cons (.same rfl rfl) (.cons (.same rfl rfl) (.nil _))))))) rfl) (fun g2 hg2 => ?_)
    | refine AWP.while (ι := Nat × List Int) (fun g2 => St.of [(2, .ptr ⟨1, 0, 0, 3, 0⟩), (4, .ptr ⟨2, 0, 0, 3, 0⟩), (5, .ptr ⟨4, 0, 0, 3, 0⟩), (6, .slice ⟨5, 0, 0, 1, 0⟩ g2.2.length), (7, .int .i64 (g2.1 : Nat))] [.arr true .byte code, .arr false (.raw 3) [[.int .i64 0, .int .i64 0, .nilS]], .arr false (.raw 3) [[.slice ⟨0, 0, 0, 1, 0⟩ code.length, .int .i64 (u.at' : Nat), .int .u64 u.seed]], .rows false ll, .arr false (.raw 3) [[.int .i64 n, .int .i64 m, .slice ⟨3, 0, 0, 1, 0⟩ ll.length]], .arr false .int (g2.2)]) (fun g2 => (g2.1 : Int) ≤ n ∧ g2.2.length ≤ g2.1) (fun g2 => (n - g2.1).toNat) (0, []) ?_
        (Weak.of [0, 1, 3, 4, 5, 6] (.cons rfl rfl (.cons rfl rfl (.cons rfl rfl (.cons rfl rfl (.i rfl ?_ .nil))))) (.cons (.same rfl rfl) (.cons (.same rfl rfl) (.cons (.same rfl rfl) (.cons (.same rfl rfl) (.cons (.same rfl rfl) (.cons (.same rfl rfl) (.nil _))))))) rfl) (fun g2 hg2 => ?_)
    | refine ACall.useIs [3, 5] (specImproveMatch_call n m ll g2.2 hpp.1 ?_) rfl (.cons (.ro rfl rfl) (.cons (.ro rfl rfl) (.nil _))) rfl ?_
    | refine roundEnd (g2.1 + 1, _) ?_ ?_ (Weak.of [0, 1, 2, 3, 4, 7] (.cons rfl rfl (.cons rfl rfl (.cons rfl rfl (.s rfl ?_ rfl (.i rfl ?_ .nil))))) (.cons (.same rfl rfl) (.cons (.same rfl rfl) (.cons (.same rfl rfl) (.cons (.same rfl rfl) (.cons (.same rfl rfl) (.cons (.same rfl rfl) (.nil _))))))) rfl)
    | refine roundEnd (_, _) ?_ ?_ (Weak.of [0, 1, 2, 3, 4, 6] (.cons rfl rfl (.cons rfl rfl (.cons rfl rfl (.s rfl ?_ rfl (.cons rfl rfl .nil))))) (.cons (.same rfl rfl) (.cons (.same rfl rfl) (.cons (.same rfl rfl) (.cons (.same rfl rfl) (.cons (.same rfl rfl) (.cons (.same rfl rfl) (.nil _))))))) rfl)
    | refine roundEnd (_, _) ?_ ?_ (Weak.of [0, 1, 2, 3, 4, 5] (.cons rfl rfl (.cons rfl rfl (.cons rfl rfl (.s rfl ?_ rfl (.cons rfl rfl .nil))))) (.cons (.same rfl rfl) (.cons (.same rfl rfl) (.cons (.same rfl rfl) (.cons (.same rfl rfl) (.cons (.same rfl rfl) (.cons (.same rfl rfl) (.nil _))))))) rfl)
    | refine Ret.ex [0, 3, 5] (_, _, _, _, _) ?_ rfl (.cons (.same rfl rfl) (.cons (.same rfl rfl) (.cons (.same rfl rfl) (.nil _)))) rfl
    | refine VC.mk ?_ ?_
  all_goals try simp only [decide_eq_true_eq, decide_eq_false_iff_not, Bool.not_eq_true', Bool.not_eq_false', cond_true, cond_false, eqB_true, eqB_false] at *
  all_goals try simp only [in64, idxAdd_zero_left, Int.toNat_natCast, fillTo_length, Int.ofNat_lt, Int.ofNat_le, Int.natCast_inj] at *
  all_goals try obtain ⟨gk, gl, ga, gs⟩ := g
  all_goals try obtain ⟨gk2, gl2⟩ := g2
  all_goals try dsimp only at *
  all_goals try have hp1 := hpp.1
  all_goals try have hp2 := hpp.2
  all_goals try simp only [PickOk, OneOk, Cu.to, sub_len0, sub_len1, sub_lenM, List.length_nil, List.length_append, List.length_singleton, List.length_set, List.length_replicate] at *
  all_goals first
    | omega
    | exact hp1
    | exact hpp
    | with_reducible rfl
    | exact ⟨by omega, by omega⟩
    | (refine ⟨?_, ?_, ?_⟩ <;> first | omega | (simp; done))
    | exact ⟨rfl, trivial⟩
    | exact congrArg (AV.slice ⟨2, 0, 0, 1, 0⟩) (by simp)
    | exact congrArg (AV.slice ⟨4, 0, 0, 1, 0⟩) (by simp)
    | exact ⟨hp1, by omega⟩
    | exact ⟨hp1, by omega, by omega⟩
    | exact ⟨hp1, by omega, rfl⟩
    | (refine ⟨hp1, ?_, ?_⟩ <;> first | omega | (simp; done) | (simp; omega))
    | (have := imL_le n m ll gl2; omega)
    | (have := imL_le n m ll gl2; exact ⟨by omega, by omega⟩)
    | (have h1 := coA_le n m ll; have h2 := coR_le n m ll; exact ⟨hp1, by omega, by omega⟩)
    | exact tupL (by simp)
    | (refine ⟨⟨?_, ?_⟩, ?_⟩ <;> first | omega | (simp; omega))
    | rfl

theorem drawIsMatch_of (hp : PairIn 68) (code : List Int) (hcode : ∀ x ∈ code, 0 ≤ x ∧ x ≤ 255) : ACall Try.prog 67 [.slice ⟨0, 0, 0, 1, 0⟩ code.length] [.arr true .byte code] (Ex (ι := Int × Int × List (List Int) × List Int) (fun i => .tuple [.agg [.int .i64 i.1, .int .i64 i.2.1, .slice ⟨1, 0, 0, 1, 0⟩ i.2.2.1.length], .slice ⟨2, 0, 0, 1, 0⟩ i.2.2.2.length]) (fun i => [.arr true .byte code, .rows false i.2.2.1, .arr false .int (i.2.2.2)]) (fun i => SmallR i.2.2.1 ∧ i.2.2.2.length ≤ 1048576)) :=
  (drawIsMatch0 hp code hcode).mono fun r H' h => by
    obtain ⟨⟨n, m, ll, mt, c⟩, ⟨h1, h2, h3⟩, rfl, rfl⟩ := h
    dsimp only at h3
    subst h3
    exact ⟨(n, m, ll, mt), ⟨h1, h2⟩, rfl, rfl⟩

theorem drawImprove_of (hp : PairIn 68) (code : List Int) (hcode : ∀ x ∈ code, 0 ≤ x ∧ x ≤ 255) : ACall Try.prog 36 [.slice ⟨0, 0, 0, 1, 0⟩ code.length] [.arr true .byte code] (Ex (ι := Int × Int × List (List Int) × List Int) (fun i => .tuple [.agg [.int .i64 i.1, .int .i64 i.2.1, .slice ⟨1, 0, 0, 1, 0⟩ i.2.2.1.length], .slice ⟨2, 0, 0, 1, 0⟩ i.2.2.2.length]) (fun i => [.arr true .byte code, .rows false i.2.2.1, .arr false .int (i.2.2.2)]) (fun i => SmallR i.2.2.1 ∧ i.2.2.2.length ≤ 1048576)) := by
  refine ACall.walk T Try.func36 Try.ntmps36 Try.results36 rfl rfl rfl (Ex.nv (0, 0, [], []) ⟨smallNil, by simp⟩) ?_
  repeat' (conv => whnf); first
    | refine AWP.seq ?_
    | refine AWP.reg T rfl ?_
    | refine AWP.drw T none rfl rfl rfl ?_
    | refine AWP.dep T none rfl rfl rfl rfl ?_
    | refine AWP.block ?_
    | refine AWP.condT rfl ?_
    | refine AWP.condF rfl ?_
    | refine AWP.cond rfl (fun hb => ?_) (fun hb => ?_)
    | refine AWP.ret ?_
    | refine AWP.exit ?_
    | refine AWP.skip ?_
    | refine GuardB.t ?_
    | refine GuardB.f ?_
    | refine GuardB.mk (fun hb => ?_) (fun hb => ?_)
    | refine NilQ.mk (fun hb => ?_) ?_
    | refine VC.mk Nat.zero_lt_one ?_
    | refine VC.mk rfl ?_
    | refine ACall.useEx4 [0] (drawIsMatch_of hp code hcode) rfl (.cons (.same rfl rfl) (.nil _)) rfl (fun n m ll mt hpp => ?_)
    | refine Ret.ex [0, 3, 4] (_, _, _, _) ?_ rfl (.cons (.same rfl rfl) (.cons (.same rfl rfl) (.cons (.same rfl rfl) (.nil _)))) rfl
    | refine VC.mk ?_ ?_
  all_goals try simp only [decide_eq_true_eq, decide_eq_false_iff_not, Bool.not_eq_true', Bool.not_eq_false', cond_true, cond_false, eqB_true, eqB_false] at *
  all_goals try simp only [in64, idxAdd_zero_left, Int.toNat_natCast, fillTo_length, Int.ofNat_lt, Int.ofNat_le, Int.natCast_inj] at *
  all_goals try obtain ⟨gk, gl, ga, gs⟩ := g
  all_goals try obtain ⟨gk2, gl2⟩ := g2
  all_goals try dsimp only at *
  all_goals try have hp1 := hpp.1
  all_goals try have hp2 := hpp.2
  all_goals try simp only [PickOk, OneOk, Cu.to, sub_len0, sub_len1, sub_lenM, List.length_nil, List.length_append, List.length_singleton, List.length_set, List.length_replicate] at *
  all_goals first
    | omega
    | exact hp1
    | exact hpp
    | with_reducible rfl
    | exact ⟨by omega, by omega⟩
    | (refine ⟨?_, ?_, ?_⟩ <;> first | omega | (simp; done))
    | exact ⟨rfl, trivial⟩
    | exact congrArg (AV.slice ⟨2, 0, 0, 1, 0⟩) (by simp)
    | exact congrArg (AV.slice ⟨4, 0, 0, 1, 0⟩) (by simp)
    | exact ⟨hp1, by omega⟩
    | exact ⟨hp1, by omega, by omega⟩
    | exact ⟨hp1, by omega, rfl⟩
    | (refine ⟨hp1, ?_, ?_⟩ <;> first | omega | (simp; done) | (simp; omega))
    | (have := imL_le n m ll gl2; omega)
    | (have := imL_le n m ll gl2; exact ⟨by omega, by omega⟩)
    | (have h1 := coA_le n m ll; have h2 := coR_le n m ll; exact ⟨hp1, by omega, by omega⟩)
    | exact tupL (by simp)
    | (refine ⟨⟨?_, ?_⟩, ?_⟩ <;> first | omega | (simp; omega))
    | rfl

theorem drawIsCover_of (hp : PairIn 68) (code : List Int) (hcode : ∀ x ∈ code, 0 ≤ x ∧ x ≤ 255) : ACall Try.prog 38 [.slice ⟨0, 0, 0, 1, 0⟩ code.length] [.arr true .byte code] (Ex (ι := Int × Int × List (List Int) × List Int × List Int) (fun i => .tuple [.agg [.int .i64 i.1, .int .i64 i.2.1, .slice ⟨1, 0, 0, 1, 0⟩ i.2.2.1.length], .slice ⟨2, 0, 0, 1, 0⟩ i.2.2.2.1.length, .slice ⟨3, 0, 0, 1, 0⟩ i.2.2.2.2.length]) (fun i => [.arr true .byte code, .rows false i.2.2.1, .arr false .int (i.2.2.2.1), .arr false .int (i.2.2.2.2)]) (fun i => SmallR i.2.2.1 ∧ i.2.2.2.1.length ≤ 1048576 ∧ i.2.2.2.2.length ≤ 1048576)) := by
  refine ACall.walk T Try.func38 Try.ntmps38 Try.results38 rfl rfl rfl (Ex.nv (0, 0, [], [], []) ⟨smallNil, by simp, by simp⟩) ?_
  repeat' (conv => whnf); first
    | refine AWP.seq ?_
    | refine AWP.reg T rfl ?_
    | refine AWP.drw T none rfl rfl rfl ?_
    | refine AWP.dep T none rfl rfl rfl rfl ?_
    | refine AWP.block ?_
    | refine AWP.condT rfl ?_
    | refine AWP.condF rfl ?_
    | refine AWP.cond rfl (fun hb => ?_) (fun hb => ?_)
    | refine AWP.ret ?_
    | refine AWP.exit ?_
    | refine AWP.skip ?_
    | refine GuardB.t ?_
    | refine GuardB.f ?_
    | refine GuardB.mk (fun hb => ?_) (fun hb => ?_)
    | refine NilQ.mk (fun hb => ?_) ?_
    | refine VC.mk Nat.zero_lt_one ?_
    | refine VC.mk rfl ?_
    | refine ACall.useEx4 [4, 0] (hp code hcode _ _ ?_) rfl (.cons (.same rfl rfl) (.cons (.same rfl rfl) (.nil _))) rfl (fun n m ll u hpp => ?_)
    | refine ACall.useIs [5] (specCoverOf_call n m ll hpp.1) rfl (.cons (.ro rfl rfl) (.nil _)) rfl ?_
    | refine ACall.useExC [4, 0] (one_call code hcode _ _ _ ?_ ?_) rfl (.cons (.same rfl rfl) (.cons (.same rfl rfl) (.nil _))) rfl (fun y yA yS hy => ?_)
    | refine ACall.useExC [4, 0] (someOf_call code hcode _ _ _ ?_ ?_) rfl (.cons (.same rfl rfl) (.cons (.same rfl rfl) (.nil _))) rfl (fun z zA zS hz => ?_)
    | refine AWP.drw T (some [6]) rfl rfl rfl ?_
    | refine AWP.drwL T 9 (some [6]) rfl rfl rfl ?_
    | refine LGoal.list ?_
    | refine Ret.ex [0, 5, 7, 8] (_, _, _, _, _) ?_ rfl (.cons (.same rfl rfl) (.cons (.same rfl rfl) (.cons (.same rfl rfl) (.cons (.same rfl rfl) (.nil _))))) rfl
    | refine Ret.ex [0, 5, 9, 10] (_, _, _, _, _) ?_ rfl (.cons (.same rfl rfl) (.cons (.same rfl rfl) (.cons (.same rfl rfl) (.cons (.same rfl rfl) (.nil _))))) rfl
    | refine VC.mk ?_ ?_
  all_goals try simp only [decide_eq_true_eq, decide_eq_false_iff_not, Bool.not_eq_true', Bool.not_eq_false', cond_true, cond_false, eqB_true, eqB_false] at *
  all_goals try simp only [in64, idxAdd_zero_left, Int.toNat_natCast, fillTo_length, Int.ofNat_lt, Int.ofNat_le, Int.natCast_inj] at *
  all_goals try obtain ⟨gk, gl, ga, gs⟩ := g
  all_goals try obtain ⟨gk2, gl2⟩ := g2
  all_goals try dsimp only at *
  all_goals try have hp1 := hpp.1
  all_goals try have hp2 := hpp.2
  all_goals try simp only [PickOk, OneOk, Cu.to, sub_len0, sub_len1, sub_lenM, List.length_nil, List.length_append, List.length_singleton, List.length_set, List.length_replicate] at *
  all_goals first
    | omega
    | exact hp1
    | exact hpp
    | with_reducible rfl
    | exact ⟨by omega, by omega⟩
    | (refine ⟨?_, ?_, ?_⟩ <;> first | omega | (simp; done))
    | exact ⟨rfl, trivial⟩
    | exact congrArg (AV.slice ⟨2, 0, 0, 1, 0⟩) (by simp)
    | exact congrArg (AV.slice ⟨4, 0, 0, 1, 0⟩) (by simp)
    | exact ⟨hp1, by omega⟩
    | exact ⟨hp1, by omega, by omega⟩
    | exact ⟨hp1, by omega, rfl⟩
    | (refine ⟨hp1, ?_, ?_⟩ <;> first | omega | (simp; done) | (simp; omega))
    | (have := imL_le n m ll gl2; omega)
    | (have := imL_le n m ll gl2; exact ⟨by omega, by omega⟩)
    | (have h1 := coA_le n m ll; have h2 := coR_le n m ll; exact ⟨hp1, by omega, by omega⟩)
    | exact tupL (by simp)
    | (refine ⟨⟨?_, ?_⟩, ?_⟩ <;> first | omega | (simp; omega))
    | rfl

theorem lawKonig_in (hp : PairIn 68) (code : List Int) (hcode : ∀ x ∈ code, 0 ≤ x ∧ x ≤ 255) : ACall Try.prog 10 [.slice ⟨0, 0, 0, 1, 0⟩ code.length] [.arr true .byte code] (Is (.bool true) [.arr true .byte code]) := lawKonig_of (fun code hcode => drawMatchAll_of hp code hcode) code hcode
theorem lawHall_in (hp : PairIn 68) (code more : List Int) (hcode : ∀ x ∈ code, 0 ≤ x ∧ x ≤ 255) (hmore : ∀ x ∈ more, 0 ≤ x ∧ x ≤ 255) : ACall Try.prog 11 [.slice ⟨0, 0, 0, 1, 0⟩ code.length, .slice ⟨1, 0, 0, 1, 0⟩ more.length] [.arr true .byte code, .arr true .byte more] (Is (.bool true) [.arr true .byte code, .arr true .byte more]) := lawHall_of (fun code hcode => drawImprove_of hp code hcode) (fun code hcode => drawIsCover_of hp code hcode) code more hcode hmore

end YtofjbgpaofcpjaaAM
