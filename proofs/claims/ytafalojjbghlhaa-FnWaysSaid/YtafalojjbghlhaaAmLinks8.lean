/- Contracts of functions of this seat. -/
import Derived.Test.YtafalojjbghlhaaAmTabLinks
import Derived.Test.YtafalojjbghlhaaAmModels
import Derived.Test.YtafalojjbghlhaaAmLinks4
import Derived.Test.YtafalojjbghlhaaAmLinks6
import Derived.Test.YtafalojjbghlhaaAmLinks7
import Derived.Test.YtafalojjbghlhaaAmLinkLaw
import Derived.Test.YtafalojjbghlhaaAmDrawLast
set_option linter.unusedVariables false
set_option linter.unusedSimpArgs false
set_option maxRecDepth 100000
set_option maxHeartbeats 4000000
namespace YtafalojjbghlhaaAM
open Go Go.Proofs
attribute [local irreducible] NextOk PickOk OneOk AmongOk foldN sortI sortN goodLinks linkAsk waL waV fcL rbL rbOk rcM apartB fewB isWay wayOk hasB someB

theorem sub_lenM {α : Type} (l : List α) (i m : Nat) : (sub l i m).length = min m (l.length - i) := by simp [sub]
theorem ACall.row3 {P : Program} {f : FuncId} {a b c : AV} {post : List AV} {H : List AObj} {K : AV → List AObj → Prop} {id i n : Nat} {ll : List (List Int)} (hg : getL H id = some (.rows true ll))
    (h : VC (i < ll.length) (natF H.length fun N => ACall P f (a :: b :: c :: .slice ⟨N, 0, 0, 1, 0⟩ n :: post) (snocL H (.arr true .int (ll.getD i []))) (fun r H' => K r (setL H' N .dead)))) :
    ACall P f (a :: b :: c :: .slice ⟨id, i + 1, 0, 1, 0⟩ n :: post) H K := by
  obtain ⟨hi, h⟩ := h
  rw [natF_eq] at h
  simp only [snocL_eq, setL_eq] at h
  refine ACall.aliasG (pre := [a, b, c]) (l := ll.getD i []) (m := (ll.getD i []).length) (by rw [← getL_eq]; exact hg) rfl (by rw [rows_row, getD_some (d := []) hi]; rfl) ?_
  rw [List.take_of_length_le (Nat.le_refl _)]
  exact h

theorem next_call (code : List Int) (hcode : ∀ x ∈ code, 0 ≤ x ∧ x ≤ 255) (a : Nat) (sd : Int) (hc : a ≤ 1099511627778) : ACall Try.prog 94 [.ptr ⟨0, 0, 0, 3, 0⟩] [.arr false (.raw 3) [[.slice ⟨1, 0, 0, 1, 0⟩ code.length, .int .i64 (a : Nat), .int .u64 (sd)]], .arr true .byte code] (Ex (ι := Int × Cu) (fun i => .int .i64 i.1) (fun i => [.arr false (.raw 3) [[.slice ⟨1, 0, 0, 1, 0⟩ code.length, .int .i64 (i.2.at' : Nat), .int .u64 (i.2.seed)]], .arr true .byte code]) (fun i => NextOk ⟨a, sd⟩ i)) := by
  refine ACall.walk T Try.func94 Try.ntmps94 Try.results94 rfl rfl rfl (Ex.nv (0, ⟨a, sd⟩) (NextOk.zero _)) ?_
  repeat' (conv => whnf); first
    | refine AWP.seq ?_
    | refine AWP.reg T rfl ?_
    | refine AWP.drw T none rfl rfl rfl ?_
    | refine AWP.dep T none rfl rfl rfl rfl ?_
    | refine AWP.block ?_
    | refine AWP.condT rfl ?_
    | refine AWP.condF rfl ?_
    | refine AWP.cond rfl (fun hb => ?_) (fun hb => ?_)
    | refine AWP.ret ?_
    | refine AWP.exit ?_
    | refine AWP.skip ?_
    | refine GuardB.t ?_
    | refine GuardB.f ?_
    | refine GuardB.mk (fun hb => ?_) (fun hb => ?_)
    | refine NilQ.mk (fun hb => ?_) ?_
    | refine VC.mk Nat.zero_lt_one ?_
    | refine VC.mk rfl ?_
    | refine Ret.ex [0, 1] (_, ⟨a + 1, _⟩) ?_ rfl (.cons (.same rfl rfl) (.cons (.same rfl rfl) (.nil _))) rfl
    | refine VC.mk ?_ ?_
  all_goals try simp only [decide_eq_true_eq, decide_eq_false_iff_not, Bool.not_eq_true', Bool.not_eq_false', cond_true, cond_false, eqB_true, eqB_false] at *
  all_goals try simp only [in64, idxAdd_zero_left, Int.toNat_natCast, fillTo_length, Int.ofNat_lt, Int.ofNat_le, Int.natCast_inj] at *
  all_goals have hby := byte_at hcode a
  all_goals try simp only [Int.toNat_natCast] at *
  all_goals first
    | omega
    | exact ⟨by omega, by omega⟩
    | exact ⟨rfl, trivial⟩
    | exact NextOk.byte hcode ⟨a, sd⟩ _ _
    | exact NextOk.low ⟨a, sd⟩ _ _
    | exact ⟨Int.le_trans (by decide) (and255 _).1, Int.le_trans (and255 _).2 (by decide)⟩
theorem pick_call (code : List Int) (hcode : ∀ x ∈ code, 0 ≤ x ∧ x ≤ 255) (a : Nat) (sd : Int) (n : Int) (hn : n ≤ 100000) (hc : a ≤ 1099511627777) : ACall Try.prog 75 [.ptr ⟨0, 0, 0, 3, 0⟩, .int .i64 n] [.arr false (.raw 3) [[.slice ⟨1, 0, 0, 1, 0⟩ code.length, .int .i64 (a : Nat), .int .u64 (sd)]], .arr true .byte code] (Ex (ι := Int × Cu) (fun i => .int .i64 i.1) (fun i => [.arr false (.raw 3) [[.slice ⟨1, 0, 0, 1, 0⟩ code.length, .int .i64 (i.2.at' : Nat), .int .u64 (i.2.seed)]], .arr true .byte code]) (fun i => PickOk ⟨a, sd⟩ n i)) := by
  refine ACall.walk T Try.func75 Try.ntmps75 Try.results75 rfl rfl rfl (Ex.nv (0, ⟨a, sd⟩) (PickOk.zero _ n)) ?_
  repeat' (conv => whnf); first
    | refine AWP.seq ?_
    | refine AWP.reg T rfl ?_
    | refine AWP.drw T none rfl rfl rfl ?_
    | refine AWP.dep T none rfl rfl rfl rfl ?_
    | refine AWP.block ?_
    | refine AWP.condT rfl ?_
    | refine AWP.condF rfl ?_
    | refine AWP.cond rfl (fun hb => ?_) (fun hb => ?_)
    | refine AWP.ret ?_
    | refine AWP.exit ?_
    | refine AWP.skip ?_
    | refine GuardB.t ?_
    | refine GuardB.f ?_
    | refine GuardB.mk (fun hb => ?_) (fun hb => ?_)
    | refine NilQ.mk (fun hb => ?_) ?_
    | refine VC.mk Nat.zero_lt_one ?_
    | refine VC.mk rfl ?_
    | refine ACall.useExC [0, 1] (next_call code hcode _ _ ?_) rfl (.cons (.same rfl rfl) (.cons (.same rfl rfl) (.nil _))) rfl (fun i iA iS hi => ?_)
    | refine Ret.ex [0, 1] (_, ⟨_, _⟩) ?_ rfl (.cons (.same rfl rfl) (.cons (.same rfl rfl) (.nil _))) rfl
    | refine VC.mk ?_ ?_
  all_goals try simp only [decide_eq_true_eq, decide_eq_false_iff_not, Bool.not_eq_true', Bool.not_eq_false', cond_true, cond_false, eqB_true, eqB_false] at *
  all_goals try simp only [in64, idxAdd_zero_left, Int.toNat_natCast, fillTo_length, Int.ofNat_lt, Int.ofNat_le, Int.natCast_inj] at *
  all_goals first
    | omega
    | exact PickOk.zero _ n
    | exact hi.in64
    | exact NextOk.in64'' (by assumption) hi
    | exact PickOk.two' (by assumption) hi (by assumption)
    | exact PickOk.one hi (by assumption)
    | exact hi.le hc
theorem one_call (code : List Int) (hcode : ∀ x ∈ code, 0 ≤ x ∧ x ≤ 255) (a : Nat) (sd : Int) (n : Int) (hn : n ≤ 100000) (hc : a ≤ 1099511627776) : ACall Try.prog 76 [.ptr ⟨0, 0, 0, 3, 0⟩, .int .i64 n] [.arr false (.raw 3) [[.slice ⟨1, 0, 0, 1, 0⟩ code.length, .int .i64 (a : Nat), .int .u64 (sd)]], .arr true .byte code] (Ex (ι := Bool × Cu) (fun i => .bool i.1) (fun i => [.arr false (.raw 3) [[.slice ⟨1, 0, 0, 1, 0⟩ code.length, .int .i64 (i.2.at' : Nat), .int .u64 (i.2.seed)]], .arr true .byte code]) (fun i => OneOk ⟨a, sd⟩ i)) := by
  refine ACall.walk T Try.func76 Try.ntmps76 Try.results76 rfl rfl rfl (Ex.nv (false, ⟨a, sd⟩) (OneOk.zero _)) ?_
  repeat' (conv => whnf); first
    | refine AWP.seq ?_
    | refine AWP.reg T rfl ?_
    | refine AWP.drw T none rfl rfl rfl ?_
    | refine AWP.dep T none rfl rfl rfl rfl ?_
    | refine AWP.block ?_
    | refine AWP.condT rfl ?_
    | refine AWP.condF rfl ?_
    | refine AWP.cond rfl (fun hb => ?_) (fun hb => ?_)
    | refine AWP.ret ?_
    | refine AWP.exit ?_
    | refine AWP.skip ?_
    | refine GuardB.t ?_
    | refine GuardB.f ?_
    | refine GuardB.mk (fun hb => ?_) (fun hb => ?_)
    | refine NilQ.mk (fun hb => ?_) ?_
    | refine VC.mk Nat.zero_lt_one ?_
    | refine VC.mk rfl ?_
    | refine ACall.useExC [0, 1] (pick_call code hcode _ _ _ ?_ ?_) rfl (.cons (.same rfl rfl) (.cons (.same rfl rfl) (.nil _))) rfl (fun i iA iS hi => ?_)
    | refine Ret.ex [0, 1] (_, ⟨_, _⟩) ?_ rfl (.cons (.same rfl rfl) (.cons (.same rfl rfl) (.nil _))) rfl
    | refine VC.mk ?_ ?_
  all_goals try simp only [decide_eq_true_eq, decide_eq_false_iff_not, Bool.not_eq_true', Bool.not_eq_false', cond_true, cond_false, eqB_true, eqB_false] at *
  all_goals try simp only [in64, idxAdd_zero_left, Int.toNat_natCast, fillTo_length, Int.ofNat_lt, Int.ofNat_le, Int.natCast_inj] at *
  all_goals first
    | omega
    | exact OneOk.of hi _
theorem among_call (code : List Int) (hcode : ∀ x ∈ code, 0 ≤ x ∧ x ≤ 255) (a : Nat) (sd : Int) (l : List Int) (n : Nat) (hn : n = l.length) (hl : 1 < n ∧ n ≤ 100000) (hc : a ≤ 1099511627776) : ACall Try.prog 93 [.ptr ⟨0, 0, 0, 3, 0⟩, .slice ⟨2, 0, 0, 1, 0⟩ n] [.arr false (.raw 3) [[.slice ⟨1, 0, 0, 1, 0⟩ code.length, .int .i64 (a : Nat), .int .u64 (sd)]], .arr true .byte code, .arr true .int l] (Ex (ι := Int × Cu) (fun i => .int .i64 i.1) (fun i => [.arr false (.raw 3) [[.slice ⟨1, 0, 0, 1, 0⟩ code.length, .int .i64 (i.2.at' : Nat), .int .u64 (i.2.seed)]], .arr true .byte code, .arr true .int l]) (fun i => AmongOk ⟨a, sd⟩ l i)) := by
  refine ACall.walk T Try.func93 Try.ntmps93 Try.results93 rfl rfl rfl (Ex.nv (_, ⟨a, sd⟩) (AmongOk.zero _ (by omega))) ?_
  repeat' (conv => whnf); first
    | refine AWP.seq ?_
    | refine AWP.reg T rfl ?_
    | refine AWP.drw T none rfl rfl rfl ?_
    | refine AWP.dep T none rfl rfl rfl rfl ?_
    | refine AWP.block ?_
    | refine AWP.condT rfl ?_
    | refine AWP.condF rfl ?_
    | refine AWP.cond rfl (fun hb => ?_) (fun hb => ?_)
    | refine AWP.ret ?_
    | refine AWP.exit ?_
    | refine AWP.skip ?_
    | refine GuardB.t ?_
    | refine GuardB.f ?_
    | refine GuardB.mk (fun hb => ?_) (fun hb => ?_)
    | refine NilQ.mk (fun hb => ?_) ?_
    | refine VC.mk Nat.zero_lt_one ?_
    | refine VC.mk rfl ?_
    | refine ACall.useExC [0, 1] (pick_call code hcode _ _ _ ?_ ?_) rfl (.cons (.same rfl rfl) (.cons (.same rfl rfl) (.nil _))) rfl (fun i iA iS hi => ?_)
    | refine Ret.ex [0, 1, 2] (_, ⟨_, _⟩) ?_ rfl (.cons (.same rfl rfl) (.cons (.same rfl rfl) (.cons (.same rfl rfl) (.nil _)))) rfl
    | refine VC.mk ?_ ?_
  all_goals try simp only [decide_eq_true_eq, decide_eq_false_iff_not, Bool.not_eq_true', Bool.not_eq_false', cond_true, cond_false, eqB_true, eqB_false] at *
  all_goals try simp only [in64, idxAdd_zero_left, Int.toNat_natCast, fillTo_length, Int.ofNat_lt, Int.ofNat_le, Int.natCast_inj] at *
  all_goals first
    | omega
    | exact hi.rng (by omega)
    | exact (hi.idx (by omega) (by omega)).2
    | (have := hi.rng (by omega); omega)
    | exact AmongOk.of (by omega) (by omega) hi

theorem links_draw (code : List Int) (hcode : ∀ x ∈ code, 0 ≤ x ∧ x ≤ 255) (a : Nat) (sd : Int) (hc : a ≤ 1099511627000) : ACall Try.prog 74 [.ptr ⟨0, 0, 0, 3, 0⟩] [.arr false (.raw 3) [[.slice ⟨1, 0, 0, 1, 0⟩ code.length, .int .i64 (a : Nat), .int .u64 (sd)]], .arr true .byte code] (Ex (ι := List S2 × Cu) (fun i => .slice ⟨2, 0, 0, 2, 0⟩ i.1.length) (fun i => [.arr false (.raw 3) [[.slice ⟨1, 0, 0, 1, 0⟩ code.length, .int .i64 (i.2.at' : Nat), .int .u64 (i.2.seed)]], .arr true .byte code, .arr false .s2 i.1]) (fun i => i.1.length ≤ 21 ∧ a ≤ i.2.at' ∧ i.2.at' ≤ a + 300)) := by
  refine ACall.walk T Try.func74 Try.ntmps74 Try.results74 rfl rfl rfl (Ex.nv ([], ⟨a, sd⟩) ⟨by simp, Nat.le_refl _, Nat.le_add_right _ _⟩) ?_
  repeat' (conv => whnf); first
    | refine AWP.seq ?_
    | refine AWP.reg T rfl ?_
    | refine AWP.drw T none rfl rfl rfl ?_
    | refine AWP.dep T none rfl rfl rfl rfl ?_
    | refine AWP.block ?_
    | refine AWP.condT rfl ?_
    | refine AWP.condF rfl ?_
    | refine AWP.cond rfl (fun hb => ?_) (fun hb => ?_)
    | refine AWP.ret ?_
    | refine AWP.exit ?_
    | refine AWP.skip ?_
    | refine GuardB.t ?_
    | refine GuardB.f ?_
    | refine GuardB.mk (fun hb => ?_) (fun hb => ?_)
    | refine NilQ.mk (fun hb => ?_) ?_
    | refine VC.mk Nat.zero_lt_one ?_
    | refine VC.mk rfl ?_
    | refine ACall.useExC [0, 1] (pick_call code hcode _ _ _ ?_ ?_) rfl (.cons (.same rfl rfl) (.cons (.same rfl rfl) (.nil _))) rfl (fun i iA iS hi => ?_)
    | refine ACall.useExC [0, 1] (one_call code hcode _ _ _ ?_ ?_) rfl (.cons (.same rfl rfl) (.cons (.same rfl rfl) (.nil _))) rfl (fun j jA jS hj => ?_)
    | refine AWP.while (ι := Int × List S2 × Nat × Int) (fun g => St.of [(0, .ptr ⟨0, 0, 0, 3, 0⟩), (3, .slice ⟨2, 0, 0, 2, 0⟩ g.2.1.length), (4, .int .i64 g.1)] [.arr false (.raw 3) [[.slice ⟨1, 0, 0, 1, 0⟩ code.length, .int .i64 (g.2.2.1 : Nat), .int .u64 g.2.2.2]], .arr true .byte code, .arr false .s2 g.2.1]) (fun g => (0 ≤ g.1 ∧ g.1 + g.2.1.length ≤ 21) ∧ a ≤ g.2.2.1 ∧ g.2.2.1 ≤ a + 6 + 10 * g.2.1.length) (fun g => g.1.toNat) (_, [], _, _) ?_
        (Weak.of [0, 1, 3] (.cons rfl rfl (.cons rfl rfl (.cons rfl rfl .nil))) (.cons (.same rfl rfl) (.cons (.same rfl rfl) (.cons (.same rfl rfl) (.nil _)))) rfl) (fun g hg => ?_)
    | refine roundEnd (_, _, _, _) ?_ ?_ (Weak.of [0, 1, 5] (.cons rfl rfl (.s rfl ?_ rfl (.cons rfl rfl .nil))) (.cons (.same rfl rfl) (.cons (.same rfl rfl) (.cons (.same rfl rfl) (.nil _)))) rfl)
    | refine ACall.useExC [0, 1, 3] (among_call code hcode _ _ _ 3 rfl ?_ ?_) rfl (.cons (.same rfl rfl) (.cons (.same rfl rfl) (.cons (.ro rfl rfl) (.nil _)))) rfl (fun u uA uS hu => ?_)
    | refine Ret.ex [0, 1, 2] (_, ⟨_, _⟩) ?_ rfl (.cons (.same rfl rfl) (.cons (.same rfl rfl) (.cons (.same rfl rfl) (.nil _)))) rfl
    | refine Ret.ex [0, 1, 2] (_, ⟨_, _⟩) ?_ ?_ (.cons (.same rfl rfl) (.cons (.same rfl rfl) (.cons (.same rfl rfl) (.nil _)))) rfl
    | refine VC.mk ?_ ?_
  all_goals try simp only [decide_eq_true_eq, decide_eq_false_iff_not, Bool.not_eq_true', Bool.not_eq_false', cond_true, cond_false, eqB_true, eqB_false] at *
  all_goals try simp only [in64, idxAdd_zero_left, Int.toNat_natCast, fillTo_length, Int.ofNat_lt, Int.ofNat_le, Int.natCast_inj] at *
  all_goals try obtain ⟨gn, gl, ga, gs⟩ := g
  all_goals try dsimp only at *
  all_goals try have hamu := AmongOk.le hu
  all_goals try simp only [PickOk, OneOk, Cu.to, sub_len0, sub_len1, sub_lenM, List.length_nil, List.length_append, List.length_singleton, List.length_set, List.length_replicate] at *
  all_goals first
    | omega
    | rfl
    | exact ⟨by omega, by omega⟩
    | (refine ⟨?_, ?_, ?_⟩ <;> first | omega | (simp; done))
    | exact ⟨rfl, trivial⟩
    | exact congrArg (AV.slice ⟨2, 0, 0, 2, 0⟩) (by simp)
    | (refine ⟨⟨?_, ?_⟩, ?_⟩ <;> first | omega | (simp; omega))

theorem drawWays_call (code : List Int) (hcode : ∀ x ∈ code, 0 ≤ x ∧ x ≤ 255) : ACall Try.prog 36 [.slice ⟨0, 0, 0, 1, 0⟩ code.length] [.arr true .byte code] (Ex (ι := List S2 × Int × Int) (fun i => .tuple [.slice ⟨1, 0, 0, 2, 0⟩ i.1.length, .int .i64 i.2.1, .int .i64 i.2.2]) (fun i => [.arr true .byte code, .arr false .s2 i.1]) (fun i => i.1.length ≤ 21)) := by
  refine ACall.walk T Try.func36 Try.ntmps36 Try.results36 rfl rfl rfl (Ex.nv ([], 0, 0) (by simp)) ?_
  repeat' (conv => whnf); first
    | refine AWP.seq ?_
    | refine AWP.reg T rfl ?_
    | refine AWP.drw T none rfl rfl rfl ?_
    | refine AWP.dep T none rfl rfl rfl rfl ?_
    | refine AWP.block ?_
    | refine AWP.condT rfl ?_
    | refine AWP.condF rfl ?_
    | refine AWP.cond rfl (fun hb => ?_) (fun hb => ?_)
    | refine AWP.ret ?_
    | refine AWP.exit ?_
    | refine AWP.skip ?_
    | refine GuardB.t ?_
    | refine GuardB.f ?_
    | refine GuardB.mk (fun hb => ?_) (fun hb => ?_)
    | refine NilQ.mk (fun hb => ?_) ?_
    | refine VC.mk Nat.zero_lt_one ?_
    | refine VC.mk rfl ?_
    | refine ACall.useExC [2, 0] (links_draw code hcode _ _ ?_) rfl (.cons (.same rfl rfl) (.cons (.same rfl rfl) (.nil _))) rfl (fun i iA iS hi => ?_)
    | refine ACall.useExC [2, 0] (pick_call code hcode _ _ _ ?_ ?_) rfl (.cons (.same rfl rfl) (.cons (.same rfl rfl) (.nil _))) rfl (fun x xA xS hx => ?_)
    | refine Ret.ex [0, 3] (_, _, _) ?_ rfl (.cons (.same rfl rfl) (.cons (.same rfl rfl) (.nil _))) rfl
    | refine VC.mk ?_ ?_
  all_goals try simp only [decide_eq_true_eq, decide_eq_false_iff_not, Bool.not_eq_true', Bool.not_eq_false', cond_true, cond_false, eqB_true, eqB_false] at *
  all_goals try simp only [in64, idxAdd_zero_left, Int.toNat_natCast, fillTo_length, Int.ofNat_lt, Int.ofNat_le, Int.natCast_inj] at *
  all_goals try have hi1 := hi.1
  all_goals try have hi2 := hi.2
  all_goals try simp only [PickOk, OneOk, Cu.to] at *
  all_goals first
    | exact Nat.zero_le _
    | omega
    | rfl
    | exact ⟨by omega, by omega⟩
    | (have := hx.1; omega)
    | exact hi

theorem waL_len {l : List S2} {f t : Int} (h : linkAsk l f t = true) : (waL l f t).length = waV l f t := by rw [waL_eq h, waR_len]
theorem fcL_no {l : List S2} {f t : Int} (h : linkAsk l f t = false) : fcL l f t = [] := by unfold fcL; rw [if_neg (by rw [h]; simp)]
theorem rb_yes {l : List S2} {u : Int} {wo : List Int} (h : rbOk l u wo = true) : rbL l u wo = rcM l wo u := by unfold rbL; rw [if_pos h]

theorem implWaysT_call (l : List S2) (f t : Int) (ha : linkAsk l f t = true) (hl : l.length ≤ 1048576) : ACall Try.prog 21 [.slice ⟨0, 0, 0, 2, 0⟩ l.length, .int .i64 f, .int .i64 t] [.arr true .s2 l] (Is (.tuple [.slice ⟨1, 0, 0, 1, 0⟩ (waV l f t), .bool true]) [.arr true .s2 l, .rows false (waL l f t)]) := by
  have h0 := implWays_call l f t hl
  rw [ha, waL_len ha] at h0
  exact h0

theorem implWaysF_call (l : List S2) (f t : Int) (ha : linkAsk l f t = false) (hl : l.length ≤ 1048576) : ACall Try.prog 21 [.slice ⟨0, 0, 0, 2, 0⟩ l.length, .int .i64 f, .int .i64 t] [.arr true .s2 l] (Is (.tuple [.slice ⟨1, 0, 0, 1, 0⟩ 0, .bool false]) [.arr true .s2 l, .rows false []]) := by
  have h0 := implWays_call l f t hl
  rw [waL_no ha, ha] at h0
  exact h0

theorem implCutT_call (l : List S2) (f t : Int) (ha : linkAsk l f t = true) (hl : l.length ≤ 1048576) : ACall Try.prog 35 [.slice ⟨0, 0, 0, 2, 0⟩ l.length, .int .i64 f, .int .i64 t] [.arr true .s2 l] (Is (.tuple [.slice ⟨1, 0, 0, 1, 0⟩ (waV l f t), .bool true]) [.arr true .s2 l, .arr false .int (fcL l f t)]) := by
  have h0 := implFewestToCut_call l f t hl
  rw [ha, (cut_end ha).len] at h0
  exact h0

theorem implCutF_call (l : List S2) (f t : Int) (ha : linkAsk l f t = false) (hl : l.length ≤ 1048576) : ACall Try.prog 35 [.slice ⟨0, 0, 0, 2, 0⟩ l.length, .int .i64 f, .int .i64 t] [.arr true .s2 l] (Is (.tuple [.slice ⟨1, 0, 0, 1, 0⟩ 0, .bool false]) [.arr true .s2 l, .arr false .int ([])]) := by
  have h0 := implFewestToCut_call l f t hl
  rw [fcL_no ha, ha] at h0
  exact h0

theorem specWaysT_call (l : List S2) (f t : Int) (ha : linkAsk l f t = true) (hl : l.length ≤ 1048576) : ACall Try.prog 20 [.slice ⟨0, 0, 0, 2, 0⟩ l.length, .int .i64 f, .int .i64 t] [.arr true .s2 l] (Is (.tuple [.slice ⟨1, 0, 0, 1, 0⟩ (waV l f t), .bool true]) [.arr true .s2 l, .rows false (waL l f t)]) := by
  have h0 := specWays_call l f t hl
  rw [ha, waL_len ha] at h0
  exact h0

theorem specWaysF_call (l : List S2) (f t : Int) (ha : linkAsk l f t = false) (hl : l.length ≤ 1048576) : ACall Try.prog 20 [.slice ⟨0, 0, 0, 2, 0⟩ l.length, .int .i64 f, .int .i64 t] [.arr true .s2 l] (Is (.tuple [.slice ⟨1, 0, 0, 1, 0⟩ 0, .bool false]) [.arr true .s2 l, .rows false []]) := by
  have h0 := specWays_call l f t hl
  rw [waL_no ha, ha] at h0
  exact h0

theorem specCutT_call (l : List S2) (f t : Int) (ha : linkAsk l f t = true) (hl : l.length ≤ 1048576) : ACall Try.prog 34 [.slice ⟨0, 0, 0, 2, 0⟩ l.length, .int .i64 f, .int .i64 t] [.arr true .s2 l] (Is (.tuple [.slice ⟨1, 0, 0, 1, 0⟩ (waV l f t), .bool true]) [.arr true .s2 l, .arr false .int (fcL l f t)]) := by
  have h0 := specFewestToCut_call l f t hl
  rw [ha, (cut_end ha).len] at h0
  exact h0

theorem specCutF_call (l : List S2) (f t : Int) (ha : linkAsk l f t = false) (hl : l.length ≤ 1048576) : ACall Try.prog 34 [.slice ⟨0, 0, 0, 2, 0⟩ l.length, .int .i64 f, .int .i64 t] [.arr true .s2 l] (Is (.tuple [.slice ⟨1, 0, 0, 1, 0⟩ 0, .bool false]) [.arr true .s2 l, .arr false .int ([])]) := by
  have h0 := specFewestToCut_call l f t hl
  rw [fcL_no ha, ha] at h0
  exact h0

theorem reachT_call (l : List S2) (u : Int) (wo : List Int) (n : Nat) (hn : n = wo.length) (h : rbOk l u wo = true) (hl : l.length ≤ 1048576) (hw : n ≤ 1048576) : ACall Try.prog 31 [.slice ⟨0, 0, 0, 2, 0⟩ l.length, .int .i64 u, .slice ⟨1, 0, 0, 1, 0⟩ n] [.arr true .s2 l, .arr true .int wo] (Is (.tuple [.slice ⟨2, 0, 0, 1, 0⟩ (rcM l wo u).length, .bool true]) [.arr true .s2 l, .arr true .int wo, .arr false .int (rcM l wo u)]) := by
  subst hn
  have h0 := implReachedBy_call l u wo hl hw
  rw [h, rb_yes h] at h0
  exact h0

theorem isWayT_call (l : List S2) (f t : Int) (w : List Int) (n : Nat) (hn : n = w.length) (h : isWay l f t w = true) (hl : l.length ≤ 1048576) (hw : n ≤ 1048576) : ACall Try.prog 18 [.slice ⟨0, 0, 0, 2, 0⟩ l.length, .int .i64 f, .int .i64 t, .slice ⟨1, 0, 0, 1, 0⟩ n] [.arr true .s2 l, .arr true .int w] (Is (.tuple [.bool true, .bool true]) [.arr true .s2 l, .arr true .int w]) := by
  subst hn
  have h2 : wayOk l f t w = true := by unfold isWay at h; simp only [Bool.and_eq_true] at h; exact h.1.1
  have h0 := implIsWay_call l f t w hl hw
  rw [h, h2] at h0
  exact h0
theorem apartT_call (ll : List (List Int)) (n : Nat) (hn : n = ll.length) (h : fewB ll = true) (h2 : ll.flatten.Nodup) (hr : SmallR ll) : ACall Try.prog 29 [.slice ⟨0, 0, 0, 1, 0⟩ n] [.rows true ll] (Is (.tuple [.bool true, .bool true]) [.rows true ll]) := by
  subst hn
  have h0 := implApart_call ll hr
  rw [apart_yes h h2, h] at h0
  exact h0
theorem hasN_call (s : List Int) (x : Int) (n : Nat) (hn : n = s.length) (hs : n ≤ 1048576) : ACall Try.prog 39 [.slice ⟨0, 0, 0, 1, 0⟩ n, .int .i64 x] [.arr true .int s] (Is (.bool (hasB s x)) [.arr true .int s]) := by
  subst hn
  exact has_call s x hs
theorem hasT_call (s : List Int) (x : Int) (n : Nat) (hn : n = s.length) (h : hasB s x = true) (hs : n ≤ 1048576) : ACall Try.prog 39 [.slice ⟨0, 0, 0, 1, 0⟩ n, .int .i64 x] [.arr true .int s] (Is (.bool true) [.arr true .int s]) := by
  subst hn
  have h0 := has_call s x hs
  rwa [h] at h0
theorem hasF_call (s : List Int) (x : Int) (n : Nat) (hn : n = s.length) (h : hasB s x = false) (hs : n ≤ 1048576) : ACall Try.prog 39 [.slice ⟨0, 0, 0, 1, 0⟩ n, .int .i64 x] [.arr true .int s] (Is (.bool false) [.arr true .int s]) := by
  subst hn
  have h0 := has_call s x hs
  rwa [h] at h0
theorem sameIntsE_call (a b : List Int) (n m : Nat) (hn : n = a.length) (hm : m = b.length) (h : a = b) (ha : n ≤ 1048576) : ACall Try.prog 38 [.slice ⟨0, 0, 0, 1, 0⟩ n, .slice ⟨1, 0, 0, 1, 0⟩ m] [.arr true .int a, .arr true .int b] (Is (.bool true) [.arr true .int a, .arr true .int b]) := by
  subst h hn hm
  have h := sameInts_call a a ha
  rwa [show eqB a a = true by rw [eqB_true]] at h

theorem sameLists_call (a b : List (List Int)) (ha : SmallR a) : ACall Try.prog 37 [.slice ⟨0, 0, 0, 1, 0⟩ a.length, .slice ⟨1, 0, 0, 1, 0⟩ b.length] [.rows true a, .rows true b] (Is (.bool (eqB a b)) [.rows true a, .rows true b]) := by
  refine ACall.walk T Try.func37 Try.ntmps37 Try.results37 rfl rfl rfl (Is.nv _ _) ?_
  repeat' (conv => whnf); first
    | refine AWP.seq ?_
    | refine AWP.reg T rfl ?_
    | refine AWP.drw T none rfl rfl rfl ?_
    | refine AWP.dep T none rfl rfl rfl rfl ?_
    | refine AWP.block ?_
    | refine AWP.condT rfl ?_
    | refine AWP.condF rfl ?_
    | refine AWP.cond rfl (fun hb => ?_) (fun hb => ?_)
    | refine AWP.ret ?_
    | refine AWP.exit ?_
    | refine AWP.skip ?_
    | refine GuardB.t ?_
    | refine GuardB.f ?_
    | refine GuardB.mk (fun hb => ?_) (fun hb => ?_)
    | refine NilQ.mk (fun hb => ?_) ?_
    | refine VC.mk Nat.zero_lt_one ?_
    | refine VC.mk rfl ?_
    | refine AWP.while (ι := Nat) (fun k => St.of [(0, .slice ⟨0, 0, 0, 1, 0⟩ a.length), (1, .slice ⟨1, 0, 0, 1, 0⟩ b.length), (11, .slice ⟨0, 0, 0, 1, 0⟩ a.length), (12, .int .i64 a.length), (13, .int .i64 k)] [.rows true a, .rows true b]) (fun k => Same a b k) (fun k => a.length - k) 0 ?_
        (Weak.of [0, 1] (.cons rfl rfl (.cons rfl rfl (.cons rfl rfl (.cons rfl rfl (.cons rfl rfl .nil))))) (.cons (.same rfl rfl) (.cons (.same rfl rfl) (.nil _))) rfl) (fun k hk => ?_)
    | refine AWP.drw T none rfl rfl rfl ?_
    | refine ACall.row0 (id := 0) rfl ?_
    | refine ACall.row1 (id := 1) rfl ?_
    | refine ACall.useIs [2, 3] (sameInts_call _ _ ?_) rfl (.cons (.same rfl rfl) (.cons (.same rfl rfl) (.nil _))) rfl ?_
    | refine Ret.bool [0, 1] ?_ (.cons (.same rfl rfl) (.cons (.same rfl rfl) (.nil _))) rfl
    | refine roundEnd (k + 1) ?_ ?_ (Weak.of [0, 1] (.cons rfl rfl (.cons rfl rfl (.cons rfl rfl (.cons rfl rfl (.cons rfl rfl .nil))))) (.cons (.same rfl rfl) (.cons (.same rfl rfl) (.nil _))) rfl)
    | refine VC.mk ?_ ?_
  all_goals try simp only [decide_eq_true_eq, decide_eq_false_iff_not, Bool.not_eq_true', Bool.not_eq_false', cond_true, cond_false, eqB_true, eqB_false] at *
  all_goals try simp only [in64, idxAdd_zero_left, Int.toNat_natCast, fillTo_length, Int.ofNat_lt, Int.ofNat_le, Int.natCast_inj] at *
  all_goals try have hrow := ha.row k
  all_goals try have hrl := ha.len
  all_goals first
    | omega
    | (have := hk.1; have := hk.2.1; omega)
    | exact Same.zero (by omega)
    | (rw [eq_comm, eqB_false]; intro e; subst e; omega)
    | (rw [eq_comm, eqB_true]; exact hk.eq (by omega))
    | (have h1 := hk.1; have h2 : k < a.length := by omega
       have h3 : k < b.length := by omega
       simp only [getD_get h2, getD_get h3] at *
       first
       | exact hk.next h2 h3 (by assumption)
       | (rw [eq_comm, eqB_false]; intro e; subst e; simp_all))

theorem sameListsE_call (a b : List (List Int)) (n m : Nat) (hn : n = a.length) (hm : m = b.length) (h : a = b) (ha : SmallR a) : ACall Try.prog 37 [.slice ⟨0, 0, 0, 1, 0⟩ n, .slice ⟨1, 0, 0, 1, 0⟩ m] [.rows true a, .rows true b] (Is (.bool true) [.rows true a, .rows true b]) := by
  subst h hn hm
  have h := sameLists_call a a ha
  rwa [show eqB a a = true by rw [eqB_true]] at h
/-- The number of a row of bytes. -/
def numN (b : List Int) : Nat → Int
  | 0 => 0
  | k + 1 => (31 * numN b k + b.getD k 0).tmod 1000003
theorem numN_zero (b : List Int) : numN b 0 = 0 := rfl
theorem numN_succ (b : List Int) (k : Nat) : numN b (k + 1) = (31 * numN b k + b.getD k 0).tmod 1000003 := rfl
theorem numN_rng {b : List Int} (h : ∀ x ∈ b, 0 ≤ x ∧ x ≤ 255) : ∀ k, 0 ≤ numN b k ∧ numN b k < 1000003
  | 0 => by rw [numN_zero]; exact ⟨by decide, by decide⟩
  | k + 1 => by
    have ih := numN_rng h k
    have hb := byte_at h k
    rw [numN_succ]
    have := tmod_ok (n := 1000003) (x := 31 * numN b k + b.getD k 0) (by omega) (by decide)
    exact ⟨this.1, this.2.1 (by decide)⟩
attribute [local irreducible] numN

theorem number_call (code : List Int) (hcode : ∀ x ∈ code, 0 ≤ x ∧ x ≤ 255) (n : Nat) (hn : n = code.length) (hl : n ≤ 9223372036854775807) : ACall Try.prog 40 [.slice ⟨0, 0, 0, 1, 0⟩ n] [.arr true .byte code] (Is (.int .i64 (numN code code.length)) [.arr true .byte code]) := by
  refine ACall.walk T Try.func40 Try.ntmps40 Try.results40 rfl rfl rfl (Is.nv _ _) ?_
  repeat' (conv => whnf); first
    | refine AWP.seq ?_
    | refine AWP.reg T rfl ?_
    | refine AWP.drw T none rfl rfl rfl ?_
    | refine AWP.dep T none rfl rfl rfl rfl ?_
    | refine AWP.block ?_
    | refine AWP.condT rfl ?_
    | refine AWP.condF rfl ?_
    | refine AWP.cond rfl (fun hb => ?_) (fun hb => ?_)
    | refine AWP.ret ?_
    | refine AWP.exit ?_
    | refine AWP.skip ?_
    | refine GuardB.t ?_
    | refine GuardB.f ?_
    | refine GuardB.mk (fun hb => ?_) (fun hb => ?_)
    | refine NilQ.mk (fun hb => ?_) ?_
    | refine VC.mk Nat.zero_lt_one ?_
    | refine VC.mk rfl ?_
    | subst hn
      refine AWP.while (ι := Nat) (fun k => St.of [(3, .int .i64 (numN code k)), (6, .slice ⟨0, 0, 0, 1, 0⟩ code.length), (7, .int .i64 code.length), (8, .int .i64 k)] [.arr true .byte code]) (fun k => k ≤ code.length) (fun k => code.length - k) 0 (Nat.zero_le _)
        (Weak.of [0] (.i rfl ?_ (.cons rfl rfl (.cons rfl rfl (.cons rfl rfl .nil)))) (.cons (.same rfl rfl) (.nil _)) rfl) (fun k hk => ?_)
    | refine roundEnd (k + 1) ?_ ?_ (Weak.of [0] (.i rfl ?_ (.cons rfl rfl (.cons rfl rfl (.cons rfl rfl .nil)))) (.cons (.same rfl rfl) (.nil _)) rfl)
    | refine Ret.int [0] ?_ (.cons (.same rfl rfl) (.nil _)) rfl
    | refine VC.mk ?_ ?_
  all_goals try simp only [decide_eq_true_eq, decide_eq_false_iff_not, Bool.not_eq_true', Bool.not_eq_false', cond_true, cond_false, eqB_true, eqB_false] at *
  all_goals try simp only [in64, idxAdd_zero_left, Int.toNat_natCast, fillTo_length, Int.ofNat_lt, Int.ofNat_le, Int.natCast_inj] at *
  all_goals try have hby := byte_at hcode k
  all_goals try have hnr := numN_rng hcode k
  all_goals first
    | omega
    | exact ⟨by omega, by omega⟩
    | (rw [numN_zero]; done)
    | (rw [numN_succ]; done)
    | (have e : k = code.length := by omega
       subst e
       rfl)

end YtafalojjbghlhaaAM
