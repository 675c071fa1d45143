/- Contracts of functions of this seat. -/
import Derived.Test.YtofjbgpaofcpjaaAmTabPairs
import Derived.Test.YtofjbgpaofcpjaaAmModels
import Derived.Test.YtofjbgpaofcpjaaAmPairs14
import Derived.Test.YtofjbgpaofcpjaaAmRegather
set_option linter.unusedVariables false
set_option linter.unusedSimpArgs false
set_option maxRecDepth 100000
set_option maxHeartbeats 4000000
namespace YtofjbgpaofcpjaaAM
open Go Go.Proofs
attribute [local irreducible] NextOk PickOk OneOk AmongOk foldN

structure PG where
  k : Nat
  ll : List (List Int)
  c : Nat
  a : Nat
  s : Int
  n : Int
  m : Int
structure PE where
  ll : List (List Int)
  a : Nat
  s : Int
  n : Int
  m : Int
  c : Nat
def PeOk (a : Nat) (e : PE) : Prop := SmallR e.ll ∧ (0 ≤ e.n ∧ e.n ≤ 9) ∧ (0 ≤ e.m ∧ e.m ≤ 9) ∧ e.a ≤ a + 500 ∧ e.c = e.ll.length
structure PW where
  k : Nat
  w : List Int
  a : Nat
  s : Int
def PgOk (a : Nat) (g : PG) : Prop := ((g.k : Int) ≤ g.n ∧ g.n ≤ 9 ∧ 0 ≤ g.m ∧ g.m ≤ 9) ∧ (g.c = g.ll.length ∧ g.c = g.k ∧ g.a ≤ a + 10 + 20 * g.k) ∧ ∀ w ∈ g.ll, w.length ≤ 9
def PwOk (g : PG) (h : PW) : Prop := (h.k : Int) ≤ g.m ∧ h.w.length ≤ h.k ∧ h.a ≤ g.a + 2 * h.k
theorem snoc_le9 {gl : List (List Int)} {w2 : List Int} (h : ∀ w ∈ gl, w.length ≤ 9) (h2 : w2.length ≤ 9) : ∀ w ∈ gl ++ [w2], w.length ≤ 9 := fun w hw => by
  rcases List.mem_append.1 hw with hw | hw
  · exact h w hw
  · rw [List.mem_singleton] at hw; subst hw; exact h2
theorem small9 {ll : List (List Int)} (h : ll.length ≤ 9) (h2 : ∀ w ∈ ll, w.length ≤ 10) : SmallR ll := by
  have hr : ∀ k, (ll.getD k []).length ≤ 10 := fun k => by
    rcases Nat.lt_or_ge k ll.length with c | c
    · rw [getD_get c]; exact h2 _ (List.getElem_mem c)
    · rw [List.getD_eq_getElem?_getD, List.getElem?_eq_none c]; simp
  have ht : ∀ k, totN ll k ≤ 10 * k := fun k => by
    induction k with
    | zero => rw [totN_zero]; omega
    | succ k ih => rw [totN_succ]; have := hr k; omega
  exact ⟨by omega, by have := ht ll.length; omega⟩

theorem among3 {c : Cu} {i : Int × Cu} (h : AmongOk c [0, 8, 9] i) : (0 ≤ i.1 ∧ i.1 ≤ 9) ∧ c.at' ≤ i.2.at' ∧ i.2.at' ≤ c.at' + 2 := by
  unfold AmongOk at h
  obtain ⟨⟨k, hk, e⟩, h2⟩ := h
  rw [e]
  refine ⟨?_, h2⟩
  have hk3 : k < 3 := hk
  rcases k with _ | _ | _ | k
  · simp
  · simp
  · simp
  · omega

theorem pairing0 (code : List Int) (hcode : ∀ x ∈ code, 0 ≤ x ∧ x ≤ 255) (a : Nat) (sd : Int) (hc : a ≤ 1000) : ACall Try.prog 68 [.ptr ⟨0, 0, 0, 3, 0⟩] [.arr false (.raw 3) [[.slice ⟨1, 0, 0, 1, 0⟩ code.length, .int .i64 (a : Nat), .int .u64 (sd)]], .arr true .byte code] (Ex (ι := Int × Int × List (List Int) × Cu × Nat) (fun i => .agg [.int .i64 i.1, .int .i64 i.2.1, .slice ⟨2, 0, 0, 1, 0⟩ i.2.2.2.2]) (fun i => [.arr false (.raw 3) [[.slice ⟨1, 0, 0, 1, 0⟩ code.length, .int .i64 (i.2.2.2.1.at' : Nat), .int .u64 (i.2.2.2.1.seed)]], .arr true .byte code, .rows false i.2.2.1]) (fun i => SmallR i.2.2.1 ∧ (0 ≤ i.1 ∧ i.1 ≤ 9) ∧ (0 ≤ i.2.1 ∧ i.2.1 ≤ 9) ∧ i.2.2.2.1.at' ≤ a + 500 ∧ i.2.2.2.2 = i.2.2.1.length)) := by
  refine ACall.walk T Try.func68 Try.ntmps68 Try.results68 rfl rfl rfl (Ex.nv (0, 0, [], ⟨a, sd⟩, 0) ⟨smallNil, ⟨by simp, by simp⟩, ⟨by simp, by simp⟩, by simp, rfl⟩) ?_
  repeat' (conv => whnf); first
    | refine AWP.seqToR (x := .seq _ (.cond (.tmp 51) _ _)) (fun e : PE => St.of [(2, .ptr ⟨2, 0, 0, 3, 0⟩), (3, .ptr ⟨3, 0, 0, 3, 0⟩)] [.arr false (.raw 3) [[.slice ⟨1, 0, 0, 1, 0⟩ code.length, .int .i64 (e.a : Nat), .int .u64 e.s]], .arr true .byte code, .arr false (.raw 3) [[.int .i64 0, .int .i64 0, .nilS]], .arr false (.raw 3) [[.int .i64 e.n, .int .i64 e.m, .slice ⟨4, 0, 0, 1, 0⟩ e.c]], .rows false e.ll]) (PeOk a) ?_ (fun e he => ?_)
    | (obtain ⟨gk, gl, gc, ga, gs, gn, gm⟩ := g; rcases rows9 (ll := gl) (by simp only [PgOk] at hg; omega) with ⟨rfl, hM⟩ | ⟨r0, rfl, hM⟩ | ⟨r0, r1, rfl, hM⟩ | ⟨r0, r1, r2, rfl, hM⟩ | ⟨r0, r1, r2, r3, rfl, hM⟩ | ⟨r0, r1, r2, r3, r4, rfl, hM⟩ | ⟨r0, r1, r2, r3, r4, r5, rfl, hM⟩ | ⟨r0, r1, r2, r3, r4, r5, r6, rfl, hM⟩ | ⟨r0, r1, r2, r3, r4, r5, r6, r7, rfl, hM⟩ | ⟨r0, r1, r2, r3, r4, r5, r6, r7, r8, rfl, hM⟩ <;> first | (have hM0 : Mark 0 := (by assumption); exfalso; simp only [PgOk, List.length_nil, decide_eq_true_eq] at *; omega) | refine AWP.ungather (c := .region 15 _ _) 4 rfl ?_)
    | refine AWP.drwL (id := 15) T 10 (some [3, 4]) rfl rfl rfl ?_
    | refine AWP.regX (id := 4) T 0 rfl ?_
    | refine AWP.regX (id := 16) T 0 rfl ?_
    | refine AWP.regX (id := 13) T 3 rfl ?_
    | refine AWP.seq ?_
    | refine AWP.reg T rfl ?_
    | refine AWP.drw T none rfl rfl rfl ?_
    | refine AWP.dep T none rfl rfl rfl rfl ?_
    | refine AWP.block ?_
    | refine AWP.condT rfl ?_
    | refine AWP.condF rfl ?_
    | refine AWP.cond rfl (fun hb => ?_) (fun hb => ?_)
    | refine AWP.ret ?_
    | refine AWP.exit ?_
    | refine AWP.skip ?_
    | refine GuardB.t ?_
    | refine GuardB.f ?_
    | refine GuardB.mk (fun hb => ?_) (fun hb => ?_)
    | refine NilQ.mk (fun hb => ?_) ?_
    | refine VC.mk Nat.zero_lt_one ?_
    | refine VC.mk rfl ?_
    | refine LGoal.list ?_
    | refine ACall.useExC [0, 1] (pick_call code hcode _ _ _ ?_ ?_) rfl (.cons (.same rfl rfl) (.cons (.same rfl rfl) (.nil _))) rfl (fun i iA iS hi => ?_)
    | refine ACall.useExC [0, 1] (one_call code hcode _ _ _ ?_ ?_) rfl (.cons (.same rfl rfl) (.cons (.same rfl rfl) (.nil _))) rfl (fun j jA jS hj => ?_)
    | refine ACall.useExC [0, 1, 4] (among_call code hcode _ _ _ 3 rfl ?_ ?_) rfl (.cons (.same rfl rfl) (.cons (.same rfl rfl) (.cons (.ro rfl rfl) (.nil _)))) rfl (fun u uA uS hu => ?_)
    | refine AWP.while (ι := PW) (fun h => St.of [(0, .ptr ⟨0, 0, 0, 3, 0⟩), (2, .ptr ⟨2, 0, 0, 3, 0⟩), (3, .ptr ⟨3, 0, 0, 3, 0⟩), (4, .int .i64 (g.k : Nat)), (5, .slice ⟨5, 0, 0, 1, 0⟩ h.w.length), (6, .int .i64 (h.k : Nat))] [.arr false (.raw 3) [[.slice ⟨1, 0, 0, 1, 0⟩ code.length, .int .i64 (h.a : Nat), .int .u64 h.s]], .arr true .byte code, .arr false (.raw 3) [[.int .i64 0, .int .i64 0, .nilS]], .arr false (.raw 3) [[.int .i64 g.n, .int .i64 g.m, .slice ⟨4, 0, 0, 1, 0⟩ g.c]], .rows false g.ll, .arr false .int (h.w)]) (fun h => PwOk g h) (fun h => (g.m - h.k).toNat) ⟨0, [], _, _⟩ ?_
        (Weak.of [0, 1, 2, 3, 4, 5] (.cons rfl rfl (.cons rfl rfl (.cons rfl rfl (.cons rfl rfl (.cons rfl rfl (.i rfl ?_ .nil)))))) (.cons (.same rfl rfl) (.cons (.same rfl rfl) (.cons (.same rfl rfl) (.cons (.same rfl rfl) (.cons (.same rfl rfl) (.cons (.same rfl rfl) (.nil _))))))) rfl) (fun h hh => ?_)
    | refine AWP.while (ι := PG) (fun g => St.of [(0, .ptr ⟨0, 0, 0, 3, 0⟩), (2, .ptr ⟨2, 0, 0, 3, 0⟩), (3, .ptr ⟨3, 0, 0, 3, 0⟩), (4, .int .i64 (g.k : Nat))] [.arr false (.raw 3) [[.slice ⟨1, 0, 0, 1, 0⟩ code.length, .int .i64 (g.a : Nat), .int .u64 g.s]], .arr true .byte code, .arr false (.raw 3) [[.int .i64 0, .int .i64 0, .nilS]], .arr false (.raw 3) [[.int .i64 g.n, .int .i64 g.m, .slice ⟨4, 0, 0, 1, 0⟩ g.c]], .rows false g.ll]) (fun g => PgOk a g) (fun g => (g.n - g.k).toNat) ⟨0, [], 0, _, _, _, _⟩ ?_
        (Weak.of [0, 1, 2, 3, 4] (.cons rfl rfl (.cons rfl rfl (.cons rfl rfl (.i rfl ?_ .nil)))) (.cons (.same rfl rfl) (.cons (.same rfl rfl) (.cons (.same rfl rfl) (.cons (.same rfl rfl) (.cons (.same rfl rfl) (.nil _)))))) rfl) (fun g hg => ?_)
    | refine AWP.while (ι := PG) (fun g => St.of [(0, .ptr ⟨0, 0, 0, 3, 0⟩), (2, .ptr ⟨2, 0, 0, 3, 0⟩), (3, .ptr ⟨3, 0, 0, 3, 0⟩), (4, .int .i64 (g.k : Nat))] [.arr false (.raw 3) [[.slice ⟨1, 0, 0, 1, 0⟩ code.length, .int .i64 (g.a : Nat), .int .u64 g.s]], .arr true .byte code, .arr false (.raw 3) [[.int .i64 0, .int .i64 0, .nilS]], .arr false (.raw 3) [[.int .i64 g.n, .int .i64 g.m, .slice ⟨4, 0, 0, 1, 0⟩ g.c]], .rows false g.ll]) (fun g => PgOk a g) (fun g => (g.n - g.k).toNat) ⟨0, [], 0, _, _, _, _⟩ ?_
        (Weak.of [0, 1, 2, 3, 5] (.cons rfl rfl (.cons rfl rfl (.cons rfl rfl (.i rfl ?_ .nil)))) (.cons (.same rfl rfl) (.cons (.same rfl rfl) (.cons (.same rfl rfl) (.cons (.same rfl rfl) (.cons (.same rfl rfl) (.nil _)))))) rfl) (fun g hg => ?_)
    | refine XGoal.wrap (o := ⟨_, .buildSlice _ 1 _, _, _, _, _⟩) rfl ?_
    | refine XGoal.rapp (o := ⟨_, .call _, _, _, _, _⟩) rfl ?_
    | refine XGoal.nilCell 3 rfl ?_
    | refine XGoal.list rfl ?_
    | refine roundEnd ⟨h.k + 1, _, _, _⟩ ?_ ?_ (Weak.of [0, 1, 2, 3, 4, 7] (.cons rfl rfl (.cons rfl rfl (.cons rfl rfl (.cons rfl rfl (.s rfl ?_ rfl (.i rfl ?_ .nil)))))) (.cons (.same rfl rfl) (.cons (.same rfl rfl) (.cons (.same rfl rfl) (.cons (.same rfl rfl) (.cons (.same rfl rfl) (.cons (.same rfl rfl) (.nil _))))))) rfl)
    | refine roundEnd ⟨h.k + 1, _, _, _⟩ ?_ ?_ (Weak.of [0, 1, 2, 3, 4, 5] (.cons rfl rfl (.cons rfl rfl (.cons rfl rfl (.cons rfl rfl (.s rfl ?_ rfl (.i rfl ?_ .nil)))))) (.cons (.same rfl rfl) (.cons (.same rfl rfl) (.cons (.same rfl rfl) (.cons (.same rfl rfl) (.cons (.same rfl rfl) (.cons (.same rfl rfl) (.nil _))))))) rfl)
    | refine roundEnd ⟨g.k + 1, _, _, _, _, _, _⟩ ?_ ?_ (Weak.of [0, 1, 2, 3, 7] (.cons rfl rfl (.cons rfl rfl (.cons rfl rfl (.i rfl ?_ .nil)))) (.cons (.same rfl rfl) (.cons (.same rfl rfl) (.cons (.same rfl rfl) (.cons (.same rfl rfl) (.cons (.same rfl rfl) (.nil _)))))) rfl)
    | refine ToR.plain ⟨_, _, _, _, _, _⟩ ?_ (Weak.of [0, 1, 2, 3, 4] (.cons rfl rfl (.cons rfl rfl .nil)) (.cons (.same rfl rfl) (.cons (.same rfl rfl) (.cons (.same rfl rfl) (.cons (.same rfl rfl) (.cons (.same rfl rfl) (.nil _)))))) rfl)
    | (have hM0 : Mark 1 := (by assumption); refine ToR.gather ⟨_, _, _, _, _, _⟩ 3 4 [7] [_] ?_ ⟨rfl, trivial⟩ (by decide) rfl rfl ?_ (Weak.of [0, 1, 2, 3, 8] (.cons rfl rfl (.cons rfl rfl .nil)) (.cons (.same rfl rfl) (.cons (.same rfl rfl) (.cons (.same rfl rfl) (.cons (.same rfl rfl) (.cons (.same rfl rfl) (.nil _)))))) rfl))
    | (have hM0 : Mark 2 := (by assumption); refine ToR.gather ⟨_, _, _, _, _, _⟩ 3 4 [8, 6] [_, _] ?_ ⟨rfl, rfl, trivial⟩ (by decide) rfl rfl ?_ (Weak.of [0, 1, 2, 3, 9] (.cons rfl rfl (.cons rfl rfl .nil)) (.cons (.same rfl rfl) (.cons (.same rfl rfl) (.cons (.same rfl rfl) (.cons (.same rfl rfl) (.cons (.same rfl rfl) (.nil _)))))) rfl))
    | (have hM0 : Mark 3 := (by assumption); refine ToR.gather ⟨_, _, _, _, _, _⟩ 3 4 [9, 6, 7] [_, _, _] ?_ ⟨rfl, rfl, rfl, trivial⟩ (by decide) rfl rfl ?_ (Weak.of [0, 1, 2, 3, 10] (.cons rfl rfl (.cons rfl rfl .nil)) (.cons (.same rfl rfl) (.cons (.same rfl rfl) (.cons (.same rfl rfl) (.cons (.same rfl rfl) (.cons (.same rfl rfl) (.nil _)))))) rfl))
    | (have hM0 : Mark 4 := (by assumption); refine ToR.gather ⟨_, _, _, _, _, _⟩ 3 4 [10, 6, 7, 8] [_, _, _, _] ?_ ⟨rfl, rfl, rfl, rfl, trivial⟩ (by decide) rfl rfl ?_ (Weak.of [0, 1, 2, 3, 11] (.cons rfl rfl (.cons rfl rfl .nil)) (.cons (.same rfl rfl) (.cons (.same rfl rfl) (.cons (.same rfl rfl) (.cons (.same rfl rfl) (.cons (.same rfl rfl) (.nil _)))))) rfl))
    | (have hM0 : Mark 5 := (by assumption); refine ToR.gather ⟨_, _, _, _, _, _⟩ 3 4 [11, 6, 7, 8, 9] [_, _, _, _, _] ?_ ⟨rfl, rfl, rfl, rfl, rfl, trivial⟩ (by decide) rfl rfl ?_ (Weak.of [0, 1, 2, 3, 12] (.cons rfl rfl (.cons rfl rfl .nil)) (.cons (.same rfl rfl) (.cons (.same rfl rfl) (.cons (.same rfl rfl) (.cons (.same rfl rfl) (.cons (.same rfl rfl) (.nil _)))))) rfl))
    | (have hM0 : Mark 6 := (by assumption); refine ToR.gather ⟨_, _, _, _, _, _⟩ 3 4 [12, 6, 7, 8, 9, 10] [_, _, _, _, _, _] ?_ ⟨rfl, rfl, rfl, rfl, rfl, rfl, trivial⟩ (by decide) rfl rfl ?_ (Weak.of [0, 1, 2, 3, 13] (.cons rfl rfl (.cons rfl rfl .nil)) (.cons (.same rfl rfl) (.cons (.same rfl rfl) (.cons (.same rfl rfl) (.cons (.same rfl rfl) (.cons (.same rfl rfl) (.nil _)))))) rfl))
    | (have hM0 : Mark 7 := (by assumption); refine ToR.gather ⟨_, _, _, _, _, _⟩ 3 4 [13, 6, 7, 8, 9, 10, 11] [_, _, _, _, _, _, _] ?_ ⟨rfl, rfl, rfl, rfl, rfl, rfl, rfl, trivial⟩ (by decide) rfl rfl ?_ (Weak.of [0, 1, 2, 3, 14] (.cons rfl rfl (.cons rfl rfl .nil)) (.cons (.same rfl rfl) (.cons (.same rfl rfl) (.cons (.same rfl rfl) (.cons (.same rfl rfl) (.cons (.same rfl rfl) (.nil _)))))) rfl))
    | (have hM0 : Mark 8 := (by assumption); refine ToR.gather ⟨_, _, _, _, _, _⟩ 3 4 [14, 6, 7, 8, 9, 10, 11, 12] [_, _, _, _, _, _, _, _] ?_ ⟨rfl, rfl, rfl, rfl, rfl, rfl, rfl, rfl, trivial⟩ (by decide) rfl rfl ?_ (Weak.of [0, 1, 2, 3, 15] (.cons rfl rfl (.cons rfl rfl .nil)) (.cons (.same rfl rfl) (.cons (.same rfl rfl) (.cons (.same rfl rfl) (.cons (.same rfl rfl) (.cons (.same rfl rfl) (.nil _)))))) rfl))
    | (have hM0 : Mark 9 := (by assumption); refine ToR.gather ⟨_, _, _, _, _, _⟩ 3 4 [15, 6, 7, 8, 9, 10, 11, 12, 13] [_, _, _, _, _, _, _, _, _] ?_ ⟨rfl, rfl, rfl, rfl, rfl, rfl, rfl, rfl, rfl, trivial⟩ (by decide) rfl rfl ?_ (Weak.of [0, 1, 2, 3, 16] (.cons rfl rfl (.cons rfl rfl .nil)) (.cons (.same rfl rfl) (.cons (.same rfl rfl) (.cons (.same rfl rfl) (.cons (.same rfl rfl) (.cons (.same rfl rfl) (.nil _)))))) rfl))
    | refine Ret.ex [0, 1, 4] (_, _, _, ⟨_, _⟩, _) ?_ rfl (.cons (.same rfl rfl) (.cons (.same rfl rfl) (.cons (.same rfl rfl) (.nil _)))) rfl
    | refine VC.mk ?_ ?_
  all_goals try simp only [decide_eq_true_eq, decide_eq_false_iff_not, Bool.not_eq_true', Bool.not_eq_false', cond_true, cond_false, eqB_true, eqB_false] at *
  all_goals try simp only [in64, idxAdd_zero_left, Int.toNat_natCast, fillTo_length, Int.ofNat_lt, Int.ofNat_le, Int.natCast_inj] at *
  all_goals try obtain ⟨gk, gl, gc, ga, gs, gn, gm⟩ := g
  all_goals try obtain ⟨hk2, hw, ha, hs⟩ := h
  all_goals try dsimp only [PgOk, PwOk, PeOk] at *
  all_goals try have hg3 := hg.2.2
  all_goals try have hr0 : r0.length ≤ 9 := hg3 r0 (by simp)
  all_goals try have hu1 := among3 hu
  all_goals try simp only [PickOk, OneOk, Cu.to, sub_len0, sub_len1, sub_lenM, List.length_nil, List.length_append, List.length_singleton] at *
  all_goals first
    | exact he
    | exact ⟨rfl, rfl, trivial⟩
    | omega
    | with_reducible rfl
    | exact ⟨by omega, by omega⟩
    | exact ⟨trivial, rfl⟩
    | exact ⟨trivial, trivial⟩
    | (refine ⟨?_, ?_, ?_⟩ <;> first | omega | (simp; done))
    | (refine ⟨?_, ?_, ?_, ?_, ?_, ?_⟩ <;> first | decide | trivial | rfl | omega | (simp; done) | (simp; omega))
    | exact ⟨⟨by omega, by omega, by omega, by omega⟩, ⟨by omega, by omega, by omega⟩, hg3⟩
    | exact ⟨⟨by omega, by omega, by omega, by omega⟩, ⟨by omega, by omega, by omega⟩, snoc_le9 hg3 (by omega)⟩
    | (refine ⟨⟨?_, ?_, ?_, ?_⟩, ⟨?_, ?_, ?_⟩, ?_⟩ <;> first | omega | (simp; done) | rfl)
    | (refine ⟨small9 (by omega) (fun w hw => Nat.le_succ_of_le (hg3 w hw)), ⟨by omega, by omega⟩, ⟨by omega, by omega⟩, by omega, by omega⟩)
    | (simp only [List.forall_mem_cons, List.length_cons, List.length_nil] at *; refine ⟨small9 ?_ ?_, ⟨?_, ?_⟩, ⟨?_, ?_⟩, ?_, ?_⟩ <;> first | omega | (simp; done) | (simp; omega) | (simp only [List.forall_mem_cons, List.length_append, List.length_singleton]; simp_all; omega))
    | (simp [getL, hdrI]; done)
    | (simp [getL, hdrI, sub]; done)
    | (refine Eq.trans (b := some (AObj.arr false (Ty.raw 1) ([AV.slice ⟨_, 0, 0, 1, 0⟩ (r0.length + 1)] :: _))) rfl ?_; simp [hdrI, hdrC, sub]; done)
    | rfl

end YtofjbgpaofcpjaaAM
