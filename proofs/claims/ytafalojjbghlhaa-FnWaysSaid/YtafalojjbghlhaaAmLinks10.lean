/- Contracts of functions of this seat. -/
import Derived.Test.YtafalojjbghlhaaAmTabLinks
import Derived.Test.YtafalojjbghlhaaAmModels
import Derived.Test.YtafalojjbghlhaaAmLinks8
import Derived.Test.YtafalojjbghlhaaAmTakeRow
set_option linter.unusedVariables false
set_option linter.unusedSimpArgs false
set_option maxRecDepth 100000
set_option maxHeartbeats 4000000
namespace YtafalojjbghlhaaAM
open Go Go.Proofs
attribute [local irreducible] NextOk PickOk OneOk AmongOk foldN sortI sortN goodLinks linkAsk waL waV fcL rbL rbOk rcM apartB fewB isWay wayOk hasB someB numN

theorem snoc_le {gl : List (List Int)} {w2 : List Int} (h : ∀ w ∈ gl, w.length ≤ 20) (h2 : w2.length ≤ 20) : ∀ w ∈ gl ++ [w2], w.length ≤ 20 := fun w hw => by
  rcases List.mem_append.1 hw with hw | hw
  · exact h w hw
  · rw [List.mem_singleton] at hw; subst hw; exact h2
theorem someOf_call (code : List Int) (hcode : ∀ x ∈ code, 0 ≤ x ∧ x ≤ 255) (a : Nat) (sd : Int) (n : Int) (hn : 0 ≤ n ∧ n ≤ 1000) (hc : a ≤ 1099511620000) : ACall Try.prog 77 [.ptr ⟨0, 0, 0, 3, 0⟩, .int .i64 n] [.arr false (.raw 3) [[.slice ⟨1, 0, 0, 1, 0⟩ code.length, .int .i64 (a : Nat), .int .u64 (sd)]], .arr true .byte code] (Ex (ι := List Int × Cu) (fun i => .slice ⟨2, 0, 0, 1, 0⟩ i.1.length) (fun i => [.arr false (.raw 3) [[.slice ⟨1, 0, 0, 1, 0⟩ code.length, .int .i64 (i.2.at' : Nat), .int .u64 (i.2.seed)]], .arr true .byte code, .arr false .int (i.1)]) (fun i => (i.1.length : Int) ≤ n + 1 ∧ a ≤ i.2.at' ∧ i.2.at' ≤ a + 5000)) := by
  refine ACall.walk T Try.func77 Try.ntmps77 Try.results77 rfl rfl rfl (Ex.nv ([], ⟨a, sd⟩) ⟨by simp; omega, Nat.le_refl _, Nat.le_add_right _ _⟩) ?_
  repeat' (conv => whnf); first
    | refine AWP.seq ?_
    | refine AWP.reg T rfl ?_
    | refine AWP.drw T none rfl rfl rfl ?_
    | refine AWP.dep T none rfl rfl rfl rfl ?_
    | refine AWP.block ?_
    | refine AWP.condT rfl ?_
    | refine AWP.condF rfl ?_
    | refine AWP.cond rfl (fun hb => ?_) (fun hb => ?_)
    | refine AWP.ret ?_
    | refine AWP.exit ?_
    | refine AWP.skip ?_
    | refine GuardB.t ?_
    | refine GuardB.f ?_
    | refine GuardB.mk (fun hb => ?_) (fun hb => ?_)
    | refine NilQ.mk (fun hb => ?_) ?_
    | refine VC.mk Nat.zero_lt_one ?_
    | refine VC.mk rfl ?_
    | refine ACall.useExC [0, 1] (one_call code hcode _ _ _ ?_ ?_) rfl (.cons (.same rfl rfl) (.cons (.same rfl rfl) (.nil _))) rfl (fun j jA jS hj => ?_)
    | refine AWP.while (ι := Nat × List Int × Nat × Int) (fun g => St.of [(0, .ptr ⟨0, 0, 0, 3, 0⟩), (1, .int .i64 n), (5, .slice ⟨2, 0, 0, 1, 0⟩ g.2.1.length), (6, .int .i64 (g.1 : Nat))] [.arr false (.raw 3) [[.slice ⟨1, 0, 0, 1, 0⟩ code.length, .int .i64 (g.2.2.1 : Nat), .int .u64 g.2.2.2]], .arr true .byte code, .arr false .int (g.2.1)]) (fun g => ((g.1 : Int) ≤ n ∧ g.2.1.length ≤ g.1) ∧ a ≤ g.2.2.1 ∧ g.2.2.1 ≤ a + 2 * g.1) (fun g => (n - g.1).toNat) (0, [], _, _) ?_
        (Weak.of [0, 1, 3] (.cons rfl rfl (.cons rfl rfl (.s rfl ?_ rfl (.i rfl ?_ .nil)))) (.cons (.same rfl rfl) (.cons (.same rfl rfl) (.cons (.same rfl rfl) (.nil _)))) rfl) (fun g hg => ?_)
    | refine roundEnd (g.1 + 1, _, _, _) ?_ ?_ (Weak.of [0, 1, 4] (.cons rfl rfl (.cons rfl rfl (.s rfl ?_ rfl (.i rfl ?_ .nil)))) (.cons (.same rfl rfl) (.cons (.same rfl rfl) (.cons (.same rfl rfl) (.nil _)))) rfl)
    | refine roundEnd (g.1 + 1, _, _, _) ?_ ?_ (Weak.of [0, 1, 2] (.cons rfl rfl (.cons rfl rfl (.s rfl ?_ rfl (.i rfl ?_ .nil)))) (.cons (.same rfl rfl) (.cons (.same rfl rfl) (.cons (.same rfl rfl) (.nil _)))) rfl)
    | refine Ret.ex [0, 1, 4] (_, ⟨_, _⟩) ?_ rfl (.cons (.same rfl rfl) (.cons (.same rfl rfl) (.cons (.same rfl rfl) (.nil _)))) rfl
    | refine Ret.ex [0, 1, 4] (_, ⟨_, _⟩) ?_ ?_ (.cons (.same rfl rfl) (.cons (.same rfl rfl) (.cons (.same rfl rfl) (.nil _)))) rfl
    | refine Ret.ex [0, 1, 2] (_, ⟨_, _⟩) ?_ rfl (.cons (.same rfl rfl) (.cons (.same rfl rfl) (.cons (.same rfl rfl) (.nil _)))) rfl
    | refine Ret.ex [0, 1, 2] (_, ⟨_, _⟩) ?_ ?_ (.cons (.same rfl rfl) (.cons (.same rfl rfl) (.cons (.same rfl rfl) (.nil _)))) rfl
    | refine VC.mk ?_ ?_
  all_goals try simp only [decide_eq_true_eq, decide_eq_false_iff_not, Bool.not_eq_true', Bool.not_eq_false', cond_true, cond_false, eqB_true, eqB_false] at *
  all_goals try simp only [in64, idxAdd_zero_left, Int.toNat_natCast, fillTo_length, Int.ofNat_lt, Int.ofNat_le, Int.natCast_inj] at *
  all_goals try obtain ⟨gk, gl, ga, gs⟩ := g
  all_goals try obtain ⟨gk2, gl2, ga2, gs2⟩ := g2
  all_goals try dsimp only at *
  all_goals try have hi1 := hi.1
  all_goals try simp only [PickOk, OneOk, Cu.to, sub_len0, sub_len1, sub_lenM, List.length_nil, List.length_append, List.length_singleton, List.length_set, List.length_replicate] at *
  all_goals first
    | omega
    | rfl
    | exact ⟨by omega, by omega⟩
    | (refine ⟨?_, ?_, ?_⟩ <;> first | omega | (simp; done))
    | exact ⟨rfl, trivial⟩
    | exact congrArg (AV.slice ⟨2, 0, 0, 1, 0⟩) (by simp)
    | exact congrArg (AV.slice ⟨3, 0, 0, 1, 0⟩) (by simp)
    | exact congrArg (AV.slice ⟨4, 0, 0, 1, 0⟩) (by simp)
    | exact ⟨by omega, hg.2.1⟩
    | exact ⟨trivial, trivial⟩
    | exact ⟨trivial, rfl⟩
    | (refine ⟨?_, ?_, ?_, ?_, ?_, ?_⟩ <;> first | decide | trivial | rfl | omega | (simp; done) | (simp; omega))
    | (refine ⟨⟨?_, ?_⟩, ?_, ?_⟩ <;> first | omega | (simp; done) | exact snoc_le hg.2.1 (by omega))
    | (refine ⟨⟨?_, ?_⟩, ?_⟩ <;> first | omega | (simp; omega))

theorem waL_len' (l : List S2) (f t : Int) : (waL l f t).length ≤ 20 := by
  cases h : linkAsk l f t with
  | true => rw [waL_len h]; exact waV_le h
  | false => rw [waL_no h]; simp

abbrev WI := List S2 × Int × Int × List Int × Option (List (List Int) × Nat)
def wiV : WI → AV
  | (l, f, t, w, none) => .tuple [.slice ⟨1, 0, 0, 2, 0⟩ l.length, .int .i64 f, .int .i64 t, .slice ⟨3, 0, 0, 1, 0⟩ w.length]
  | (l, f, t, _, some (ll, k)) => .tuple [.slice ⟨1, 0, 0, 2, 0⟩ l.length, .int .i64 f, .int .i64 t, .slice ⟨2, k + 1, 0, 1, 0⟩ (ll.getD k []).length]
def wiH (code : List Int) : WI → List AObj
  | (l, _, _, w, none) => [.arr true .byte code, .arr false .s2 l, .dead, .arr false .int w]
  | (l, _, _, _, some (ll, _)) => [.arr true .byte code, .arr false .s2 l, .rows false ll]
def wiP : WI → Prop
  | (l, _, _, w, none) => l.length ≤ 21 ∧ w.length ≤ 1048576
  | (l, _, _, _, some (ll, k)) => l.length ≤ 21 ∧ k < ll.length ∧ (ll.getD k []).length ≤ 1048576
theorem pick_idx {c : Cu} {n : Nat} {x : Int} {d : Cu} (h : PickOk c (n : Int) (x, d)) (hn : 0 < n) : 0 ≤ x ∧ x.toNat < n := by
  unfold PickOk at h
  have h1 := h.1.1
  have h2 := h.1.2.1
  have h3 := h.1.2.2
  dsimp only at *
  rcases Nat.lt_or_ge 1 n with c | c
  · have := h2 (by omega); omega
  · have := h3 (by omega); omega

theorem drawIsWay0_call (code : List Int) (hcode : ∀ x ∈ code, 0 ≤ x ∧ x ≤ 255) : ACall Try.prog 41 [.slice ⟨0, 0, 0, 1, 0⟩ code.length] [.arr true .byte code] (Ex wiV (wiH code) wiP) := by
  refine ACall.walk T Try.func41 Try.ntmps41 Try.results41 rfl rfl rfl (Ex.nv ([], 0, 0, [], none) ⟨by simp, by simp⟩) ?_
  repeat' (conv => whnf); first
    | refine AWP.seq ?_
    | refine AWP.reg T rfl ?_
    | refine AWP.drw T none rfl rfl rfl ?_
    | refine AWP.dep T none rfl rfl rfl rfl ?_
    | refine AWP.block ?_
    | refine AWP.condT rfl ?_
    | refine AWP.condF rfl ?_
    | refine AWP.cond rfl (fun hb => ?_) (fun hb => ?_)
    | refine AWP.ret ?_
    | refine AWP.exit ?_
    | refine AWP.skip ?_
    | refine GuardB.t ?_
    | refine GuardB.f ?_
    | refine GuardB.mk (fun hb => ?_) (fun hb => ?_)
    | refine NilQ.mk (fun hb => ?_) ?_
    | refine VC.mk Nat.zero_lt_one ?_
    | refine VC.mk rfl ?_
    | refine ACall.useExC [3, 0] (links_draw code hcode _ _ ?_) rfl (.cons (.same rfl rfl) (.cons (.same rfl rfl) (.nil _))) rfl (fun i iA iS hi => ?_)
    | refine ACall.useExC [3, 0] (one_call code hcode _ _ _ ?_ ?_) rfl (.cons (.same rfl rfl) (.cons (.same rfl rfl) (.nil _))) rfl (fun y yA yS hy => ?_)
    | refine ACall.useExC [3, 0] (someOf_call code hcode _ _ _ ?_ ?_) rfl (.cons (.same rfl rfl) (.cons (.same rfl rfl) (.nil _))) rfl (fun z zA zS hz => ?_)
    | refine ACall.useExC [3, 0] (pick_call code hcode _ _ _ ?_ ?_) rfl (.cons (.same rfl rfl) (.cons (.same rfl rfl) (.nil _))) rfl (fun x xA xS hx => ?_)
    | refine ACall.useIs [4] (specWays_call _ _ _ ?_) rfl (.cons (.ro rfl rfl) (.nil _)) rfl ?_
    | refine AWP.drw T none rfl rfl rfl ?_
    | refine Ret.ex [0, 4, 5] (i, _, _, [], some (_, _)) ?_ rfl (.cons (.same rfl rfl) (.cons (.same rfl rfl) (.cons (.same rfl rfl) (.nil _)))) rfl
    | refine Ret.ex [0, 4, 3, 6] (i, _, _, z, none) ?_ rfl (.cons (.same rfl rfl) (.cons (.same rfl rfl) (.cons (.dead _) (.cons (.same rfl rfl) (.nil _))))) rfl
    | refine VC.mk ?_ ?_
  all_goals try simp only [decide_eq_true_eq, decide_eq_false_iff_not, Bool.not_eq_true', Bool.not_eq_false', cond_true, cond_false, eqB_true, eqB_false] at *
  all_goals try simp only [in64, idxAdd_zero_left, Int.toNat_natCast, fillTo_length, Int.ofNat_lt, Int.ofNat_le, Int.natCast_inj] at *
  all_goals try have hi1 := hi.1
  all_goals try have hi2 := hi.2
  all_goals try have hwl := waL_small i
  all_goals try have hz1 := hz.1
  all_goals first
    | exact Nat.zero_le _
    | omega
    | exact Int.le_trans (Int.ofNat_le.2 (waL_len' i _ _)) (by decide)
    | exact (pick_idx hx (by omega)).1
    | exact (pick_idx hx (by omega)).2
    | exact pick_idx hx (by omega)
    | exact ⟨hi1, (pick_idx hx (by omega)).2, (waL_small _ _ _).row _⟩
    | (refine ⟨hi1, ?_⟩; omega)
    | (simp only [PickOk, OneOk, Cu.to] at *; omega)
    | (simp only [PickOk, OneOk, Cu.to] at *; exact ⟨by omega, by omega⟩)
    | rfl

theorem drawIsWay_call (code : List Int) (hcode : ∀ x ∈ code, 0 ≤ x ∧ x ≤ 255) : ACall Try.prog 41 [.slice ⟨0, 0, 0, 1, 0⟩ code.length] [.arr true .byte code] (Ex (fun i : List S2 × Int × Int × List Int => .tuple [.slice ⟨1, 0, 0, 2, 0⟩ i.1.length, .int .i64 i.2.1, .int .i64 i.2.2.1, .slice ⟨3, 0, 0, 1, 0⟩ i.2.2.2.length]) (fun i => [.arr true .byte code, .arr false .s2 i.1, .dead, .arr false .int i.2.2.2]) (fun i => i.1.length ≤ 21 ∧ i.2.2.2.length ≤ 1048576)) := by
  refine (drawIsWay0_call code hcode).outRow ⟨_, _, ([], 0, 0, []), ⟨by simp, by simp⟩, rfl, rfl⟩ fun r H' h => ?_
  obtain ⟨⟨l, f, t, w, o⟩, hp, rfl, rfl⟩ := h
  cases o with
  | none => exact .inl ⟨(l, f, t, w), hp, rfl, rfl⟩
  | some o =>
    obtain ⟨ll, k⟩ := o
    exact .inr ⟨[.slice ⟨1, 0, 0, 2, 0⟩ l.length, .int .i64 f, .int .i64 t], 2, k, _, ll, rfl, by simp, rfl, hp.2.1, ⟨(l, f, t, ll.getD k []), ⟨hp.1, hp.2.2⟩, rfl, rfl⟩⟩

theorem drawReached_call (code : List Int) (hcode : ∀ x ∈ code, 0 ≤ x ∧ x ≤ 255) : ACall Try.prog 42 [.slice ⟨0, 0, 0, 1, 0⟩ code.length] [.arr true .byte code] (Ex (ι := List S2 × Int × List Int) (fun i => .tuple [.slice ⟨1, 0, 0, 2, 0⟩ i.1.length, .int .i64 i.2.1, .slice ⟨2, 0, 0, 1, 0⟩ i.2.2.length]) (fun i => [.arr true .byte code, .arr false .s2 i.1, .arr false .int (i.2.2)]) (fun i => i.1.length ≤ 21 ∧ i.2.2.length ≤ 21)) := by
  refine ACall.walk T Try.func42 Try.ntmps42 Try.results42 rfl rfl rfl (Ex.nv ([], 0, []) ⟨by simp, by simp⟩) ?_
  repeat' (conv => whnf); first
    | refine AWP.seq ?_
    | refine AWP.reg T rfl ?_
    | refine AWP.drw T none rfl rfl rfl ?_
    | refine AWP.dep T none rfl rfl rfl rfl ?_
    | refine AWP.block ?_
    | refine AWP.condT rfl ?_
    | refine AWP.condF rfl ?_
    | refine AWP.cond rfl (fun hb => ?_) (fun hb => ?_)
    | refine AWP.ret ?_
    | refine AWP.exit ?_
    | refine AWP.skip ?_
    | refine GuardB.t ?_
    | refine GuardB.f ?_
    | refine GuardB.mk (fun hb => ?_) (fun hb => ?_)
    | refine NilQ.mk (fun hb => ?_) ?_
    | refine VC.mk Nat.zero_lt_one ?_
    | refine VC.mk rfl ?_
    | refine ACall.useExC [3, 0] (links_draw code hcode _ _ ?_) rfl (.cons (.same rfl rfl) (.cons (.same rfl rfl) (.nil _))) rfl (fun i iA iS hi => ?_)
    | refine ACall.useExC [1, 0] (one_call code hcode _ _ _ ?_ ?_) rfl (.cons (.same rfl rfl) (.cons (.same rfl rfl) (.nil _))) rfl (fun y yA yS hy => ?_)
    | refine ACall.useExC [1, 0] (pick_call code hcode _ _ _ ?_ ?_) rfl (.cons (.same rfl rfl) (.cons (.same rfl rfl) (.nil _))) rfl (fun x xA xS hx => ?_)
    | refine AWP.while (ι := Nat × List Int × Nat × Int) (fun g => St.of [(5, .ptr ⟨1, 0, 0, 3, 0⟩), (6, .slice ⟨2, 0, 0, 2, 0⟩ i.length), (7, .slice ⟨3, 0, 0, 1, 0⟩ g.2.1.length), (14, .slice ⟨2, 0, 0, 2, 0⟩ i.length), (15, .int .i64 i.length), (16, .int .i64 (g.1 : Nat))] [.arr true .byte code, .arr false (.raw 3) [[.slice ⟨0, 0, 0, 1, 0⟩ code.length, .int .i64 (g.2.2.1 : Nat), .int .u64 g.2.2.2]], .arr false .s2 i, .arr false .int (g.2.1)]) (fun g => (g.1 ≤ i.length ∧ g.2.1.length ≤ g.1) ∧ g.2.2.1 ≤ 1000 + 2 * g.1) (fun g => i.length - g.1) (0, [], _, _) ?_
        (Weak.of [0, 3, 4, 5] (.cons rfl rfl (.cons rfl rfl (.cons rfl rfl (.cons rfl rfl (.cons rfl rfl (.i rfl ?_ .nil)))))) (.cons (.same rfl rfl) (.cons (.same rfl rfl) (.cons (.same rfl rfl) (.cons (.same rfl rfl) (.nil _))))) rfl) (fun g hg => ?_)
    | refine roundEnd (g.1 + 1, _, _, _) ?_ ?_ (Weak.of [0, 1, 2, 5] (.cons rfl rfl (.cons rfl rfl (.s rfl ?_ rfl (.cons rfl rfl (.cons rfl rfl (.i rfl ?_ .nil)))))) (.cons (.same rfl rfl) (.cons (.same rfl rfl) (.cons (.same rfl rfl) (.cons (.same rfl rfl) (.nil _))))) rfl)
    | refine roundEnd (g.1 + 1, _, _, _) ?_ ?_ (Weak.of [0, 1, 2, 3] (.cons rfl rfl (.cons rfl rfl (.s rfl ?_ rfl (.cons rfl rfl (.cons rfl rfl (.i rfl ?_ .nil)))))) (.cons (.same rfl rfl) (.cons (.same rfl rfl) (.cons (.same rfl rfl) (.cons (.same rfl rfl) (.nil _))))) rfl)
    | refine Ret.ex [0, 2, 3] (_, _, _) ?_ rfl (.cons (.same rfl rfl) (.cons (.same rfl rfl) (.cons (.same rfl rfl) (.nil _)))) rfl
    | refine VC.mk ?_ ?_
  all_goals try simp only [decide_eq_true_eq, decide_eq_false_iff_not, Bool.not_eq_true', Bool.not_eq_false', cond_true, cond_false, eqB_true, eqB_false] at *
  all_goals try simp only [in64, idxAdd_zero_left, Int.toNat_natCast, fillTo_length, Int.ofNat_lt, Int.ofNat_le, Int.natCast_inj] at *
  all_goals try obtain ⟨gk, gl, ga, gs⟩ := g
  all_goals try obtain ⟨gk2, gl2, ga2, gs2⟩ := g2
  all_goals try dsimp only at *
  all_goals try have hi1 := hi.1
  all_goals try simp only [PickOk, OneOk, Cu.to, sub_len0, sub_len1, sub_lenM, List.length_nil, List.length_append, List.length_singleton, List.length_set, List.length_replicate] at *
  all_goals first
    | omega
    | rfl
    | exact ⟨by omega, by omega⟩
    | (refine ⟨?_, ?_, ?_⟩ <;> first | omega | (simp; done))
    | exact ⟨rfl, trivial⟩
    | exact congrArg (AV.slice ⟨2, 0, 0, 1, 0⟩) (by simp)
    | exact congrArg (AV.slice ⟨3, 0, 0, 1, 0⟩) (by simp)
    | exact congrArg (AV.slice ⟨4, 0, 0, 1, 0⟩) (by simp)
    | exact ⟨by omega, hg.2.1⟩
    | exact ⟨trivial, trivial⟩
    | exact ⟨trivial, rfl⟩
    | (refine ⟨?_, ?_, ?_, ?_, ?_, ?_⟩ <;> first | decide | trivial | rfl | omega | (simp; done) | (simp; omega))
    | (refine ⟨⟨?_, ?_⟩, ?_, ?_⟩ <;> first | omega | (simp; done) | exact snoc_le hg.2.1 (by omega))
    | (refine ⟨⟨?_, ?_⟩, ?_⟩ <;> first | omega | (simp; omega))

theorem drawApart_call (code : List Int) (hcode : ∀ x ∈ code, 0 ≤ x ∧ x ≤ 255) : ACall Try.prog 43 [.slice ⟨0, 0, 0, 1, 0⟩ code.length] [.arr true .byte code] (Ex (ι := List (List Int)) (fun i => .slice ⟨1, 0, 0, 1, 0⟩ i.length) (fun i => [.arr true .byte code, .rows false i]) (fun i => i.length ≤ 4 ∧ ∀ w ∈ i, w.length ≤ 20)) := by
  refine ACall.walk T Try.func43 Try.ntmps43 Try.results43 rfl rfl rfl (Ex.nv [] ⟨by simp, by simp⟩) ?_
  repeat' (conv => whnf); first
    | refine AWP.regX (id := 11) T 2 rfl ?_
    | refine AWP.seq ?_
    | refine AWP.reg T rfl ?_
    | refine AWP.drw T none rfl rfl rfl ?_
    | refine AWP.dep T none rfl rfl rfl rfl ?_
    | refine AWP.block ?_
    | refine AWP.condT rfl ?_
    | refine AWP.condF rfl ?_
    | refine AWP.cond rfl (fun hb => ?_) (fun hb => ?_)
    | refine AWP.ret ?_
    | refine AWP.exit ?_
    | refine AWP.skip ?_
    | refine GuardB.t ?_
    | refine GuardB.f ?_
    | refine GuardB.mk (fun hb => ?_) (fun hb => ?_)
    | refine NilQ.mk (fun hb => ?_) ?_
    | refine VC.mk Nat.zero_lt_one ?_
    | refine VC.mk rfl ?_
    | refine ACall.useExC [2, 0] (pick_call code hcode _ _ _ ?_ ?_) rfl (.cons (.same rfl rfl) (.cons (.same rfl rfl) (.nil _))) rfl (fun x xA xS hx => ?_)
    | refine ACall.useExC [1, 0] (pick_call code hcode _ _ _ ?_ ?_) rfl (.cons (.same rfl rfl) (.cons (.same rfl rfl) (.nil _))) rfl (fun x xA xS hx => ?_)
    | refine AWP.while (ι := Int × List Int × Nat × Int) (fun g2 => St.of [(3, .ptr ⟨1, 0, 0, 3, 0⟩), (4, .slice ⟨2, 0, 0, 1, 0⟩ g.2.1.length), (5, .int .i64 g.1), (6, .slice ⟨3, 0, 0, 1, 0⟩ g2.2.1.length), (7, .int .i64 g2.1)] [.arr true .byte code, .arr false (.raw 3) [[.slice ⟨0, 0, 0, 1, 0⟩ code.length, .int .i64 (g2.2.2.1 : Nat), .int .u64 g2.2.2.2]], .rows false g.2.1, .arr false .int (g2.2.1)]) (fun g2 => (0 ≤ g2.1 ∧ g2.1 + g2.2.1.length ≤ 4) ∧ g2.2.2.1 ≤ 100 + 20 * g.2.1.length + 4 + 3 * g2.2.1.length) (fun g2 => g2.1.toNat) (_, [], _, _) ?_
        (Weak.of [0, 1, 2, 3] (.cons rfl rfl (.cons rfl rfl (.cons rfl rfl (.cons rfl rfl (.cons rfl rfl .nil))))) (.cons (.same rfl rfl) (.cons (.same rfl rfl) (.cons (.same rfl rfl) (.cons (.same rfl rfl) (.nil _))))) rfl) (fun g2 hg2 => ?_)
    | refine AWP.while (ι := Int × List (List Int) × Nat × Int) (fun g => St.of [(3, .ptr ⟨1, 0, 0, 3, 0⟩), (4, .slice ⟨2, 0, 0, 1, 0⟩ g.2.1.length), (5, .int .i64 g.1)] [.arr true .byte code, .arr false (.raw 3) [[.slice ⟨0, 0, 0, 1, 0⟩ code.length, .int .i64 (g.2.2.1 : Nat), .int .u64 g.2.2.2]], .rows false g.2.1]) (fun g => (0 ≤ g.1 ∧ g.1 + g.2.1.length ≤ 4) ∧ (∀ w ∈ g.2.1, w.length ≤ 20) ∧ g.2.2.1 ≤ 100 + 20 * g.2.1.length) (fun g => g.1.toNat) (_, [], _, _) ?_
        (Weak.of [0, 2, 3] (.cons rfl rfl (.cons rfl rfl (.cons rfl rfl .nil))) (.cons (.same rfl rfl) (.cons (.same rfl rfl) (.cons (.same rfl rfl) (.nil _)))) rfl) (fun g hg => ?_)
    | refine XGoal.wrap (o := ⟨_, .buildSlice _ 1 _, _, _, _, _⟩) rfl ?_
    | refine XGoal.rapp (o := ⟨_, .call _, _, _, _, _⟩) rfl ?_
    | refine XGoal.list rfl ?_
    | refine roundEnd (_, _, _, _) ?_ ?_ (Weak.of [0, 1, 2, 5] (.cons rfl rfl (.cons rfl rfl (.cons rfl rfl (.s rfl ?_ rfl (.cons rfl rfl .nil))))) (.cons (.same rfl rfl) (.cons (.same rfl rfl) (.cons (.same rfl rfl) (.cons (.same rfl rfl) (.nil _))))) rfl)
    | refine roundEnd (_, _, _, _) ?_ ?_ (Weak.of [0, 1, 5] (.cons rfl rfl (.s rfl ?_ rfl (.cons rfl rfl .nil))) (.cons (.same rfl rfl) (.cons (.same rfl rfl) (.cons (.same rfl rfl) (.nil _)))) rfl)
    | refine Ret.ex [0, 2] _ ?_ rfl (.cons (.same rfl rfl) (.cons (.same rfl rfl) (.nil _))) rfl
    | refine VC.mk ?_ ?_
  all_goals try simp only [decide_eq_true_eq, decide_eq_false_iff_not, Bool.not_eq_true', Bool.not_eq_false', cond_true, cond_false, eqB_true, eqB_false] at *
  all_goals try simp only [in64, idxAdd_zero_left, Int.toNat_natCast, fillTo_length, Int.ofNat_lt, Int.ofNat_le, Int.natCast_inj] at *
  all_goals try obtain ⟨gk, gl, ga, gs⟩ := g
  all_goals try obtain ⟨gk2, gl2, ga2, gs2⟩ := g2
  all_goals try dsimp only at *
  all_goals try have hi1 := hi.1
  all_goals try simp only [PickOk, OneOk, Cu.to, sub_len0, sub_len1, sub_lenM, List.length_nil, List.length_append, List.length_singleton, List.length_set, List.length_replicate] at *
  all_goals first
    | omega
    | rfl
    | exact ⟨by omega, by omega⟩
    | (refine ⟨?_, ?_, ?_⟩ <;> first | omega | (simp; done))
    | exact ⟨rfl, trivial⟩
    | exact congrArg (AV.slice ⟨2, 0, 0, 1, 0⟩) (by simp)
    | exact congrArg (AV.slice ⟨3, 0, 0, 1, 0⟩) (by simp)
    | exact congrArg (AV.slice ⟨4, 0, 0, 1, 0⟩) (by simp)
    | exact ⟨by omega, hg.2.1⟩
    | exact ⟨trivial, trivial⟩
    | exact ⟨trivial, rfl⟩
    | (refine ⟨?_, ?_, ?_, ?_, ?_, ?_⟩ <;> first | decide | trivial | rfl | omega | (simp; done) | (simp; omega))
    | (refine ⟨⟨?_, ?_⟩, ?_, ?_⟩ <;> first | omega | (simp; done) | exact snoc_le hg.2.1 (by omega))
    | (refine ⟨⟨?_, ?_⟩, ?_⟩ <;> first | omega | (simp; omega))

end YtafalojjbghlhaaAM
