/- Contracts of functions of this seat. -/
import Derived.Test.YtnfcnocoehkgoaaAmTabEdges
import Derived.Test.YtnfcnocoehkgoaaAmModels
import Derived.Test.YtnfcnocoehkgoaaAmEdges5
import Derived.Test.YtnfcnocoehkgoaaAmSymSearch
import Derived.Test.YtnfcnocoehkgoaaAmDrawsX
set_option linter.unusedVariables false
set_option linter.unusedSimpArgs false
set_option maxRecDepth 100000
set_option maxHeartbeats 4000000
namespace YtnfcnocoehkgoaaAM
open Go Go.Proofs
attribute [local irreducible] foldN sortNK sortIK midLK insK rngI goodEdges swpN rotL segS mid2 MG

structure SG where
  i : Nat
  j : Nat
structure DG where
  k : Nat
theorem mid_eq (i j : Nat) (h : i + j ≤ 4611686018427387904) : (IntKind.u64.wrap ((i : Int) + (j : Int))).fdiv (2 ^ min (Int.toNat 1) IntKind.u64.bits) = (mid2 i j : Int) := by
  have e : IntKind.u64.wrap ((i : Int) + (j : Int)) = (i : Int) + (j : Int) := by
    show ((i : Int) + (j : Int)) % 18446744073709551616 = _
    omega
  have e2 : (2 : Int) ^ min (Int.toNat 1) IntKind.u64.bits = 2 := rfl
  rw [e, e2, Int.fdiv_eq_ediv_of_nonneg _ (by omega)]
  unfold mid2
  omega

theorem symStep (l : List S3) (hge : goodEdges l = true) (f : Nat) (ih : ∀ (d : List Int) (n : Nat) (xa xm xb : Int) (a m b : Nat), n = d.length → d.length ≤ 1048576 → xa = (a : Int) → xm = (m : Int) → xb = (b : Int) → MG (co l) d a m b → a < m → m < b → b - a ≤ f → (∀ y ∈ d, 0 ≤ y ∧ y < l.length) → ACall Try.prog 79 [.slice ⟨0, 0, 0, 1, 0⟩ n, .int .i64 xa, .int .i64 xm, .int .i64 xb, .func 59 [.ptr ⟨1, 0, 0, 1, 0⟩]] [.arr false .int (d), .arr true (.raw 1) [[.slice ⟨2, 0, 0, 3, 0⟩ l.length]], .arr true .s3 l] (Is (.tuple []) [.arr false .int (segS (co l) d a b), .arr true (.raw 1) [[.slice ⟨2, 0, 0, 3, 0⟩ l.length]], .arr true .s3 l])) (d : List Int) (n : Nat) (xa xm xb : Int) (a m b : Nat) (hn : n = d.length) (hl : d.length ≤ 1048576) (hx : xa = (a : Int)) (hy : xm = (m : Int)) (hz : xb = (b : Int)) (hm : MG (co l) d a m b) (h1 : a < m) (h2 : m < b) (h3 : b - a ≤ f + 1) (hv : ∀ y ∈ d, 0 ≤ y ∧ y < l.length) : ACall Try.prog 79 [.slice ⟨0, 0, 0, 1, 0⟩ n, .int .i64 xa, .int .i64 xm, .int .i64 xb, .func 59 [.ptr ⟨1, 0, 0, 1, 0⟩]] [.arr false .int (d), .arr true (.raw 1) [[.slice ⟨2, 0, 0, 3, 0⟩ l.length]], .arr true .s3 l] (Is (.tuple []) [.arr false .int (segS (co l) d a b), .arr true (.raw 1) [[.slice ⟨2, 0, 0, 3, 0⟩ l.length]], .arr true .s3 l]) := by
  refine ACall.walk T Try.func79 Try.ntmps79 Try.results79 rfl rfl rfl (Is.nv _ _) ?_
  repeat' (conv => whnf); first
    | refine AWP.seqTo (x := .seq _ (.cond (.tmp 140) _ _)) (fun _ : Unit => St.of [(0, .slice ⟨0, 0, 0, 1, 0⟩ n), (1, .int .i64 xa), (2, .int .i64 xm), (3, .int .i64 xb), (4, .func 59 [.ptr ⟨1, 0, 0, 1, 0⟩]), (18, .int .i64 (mid2 a b : Int)), (19, .int .i64 ((mid2 a b + m : Nat) : Int)), (20, .int .i64 ((max a (mid2 a b + m - b) : Nat) : Int)), (21, .int .i64 ((min m (mid2 a b) : Nat) : Int))] [.arr false .int (d), .arr true (.raw 1) [[.slice ⟨2, 0, 0, 3, 0⟩ l.length]], .arr true .s3 l]) (fun _ => True) ?_ (fun _ _ => ?_)
    | refine AWP.seqTo (x := .seq _ (.cond (.tmp 185) _ _)) (fun R : List Int => St.of [(0, .slice ⟨0, 0, 0, 1, 0⟩ n), (1, .int .i64 xa), (2, .int .i64 xm), (3, .int .i64 xb), (4, .func 59 [.ptr ⟨1, 0, 0, 1, 0⟩]), (18, .int .i64 (mid2 a b : Int)), (20, .int .i64 (g.i : Int)), (24, .int .i64 ((mid2 a b + m - g.i : Nat) : Int))] [.arr false .int (R), .arr true (.raw 1) [[.slice ⟨2, 0, 0, 3, 0⟩ l.length]], .arr true .s3 l]) (fun R => IsR d R g.i m (mid2 a b + m - g.i)) ?_ (fun R hR => ?_)
    | refine AWP.seqTo (x := .seq _ (.cond (.tmp 199) _ _)) (fun Z : List Int => St.of [(0, .slice ⟨0, 0, 0, 1, 0⟩ n), (1, .int .i64 xa), (2, .int .i64 xm), (3, .int .i64 xb), (4, .func 59 [.ptr ⟨1, 0, 0, 1, 0⟩]), (18, .int .i64 (mid2 a b : Int)), (24, .int .i64 ((mid2 a b + m - g.i : Nat) : Int))] [.arr false .int (Z), .arr true (.raw 1) [[.slice ⟨2, 0, 0, 3, 0⟩ l.length]], .arr true .s3 l]) (fun Z => IsS (co l) R Z a g.i (mid2 a b)) ?_ (fun Z hX => ?_)
    | refine AWP.seq ?_
    | refine AWP.reg T rfl ?_
    | refine AWP.drw T none rfl rfl rfl ?_
    | refine AWP.dep T none rfl rfl rfl rfl ?_
    | refine AWP.block ?_
    | refine AWP.condT rfl ?_
    | refine AWP.condF rfl ?_
    | refine AWP.cond rfl (fun hb => ?_) (fun hb => ?_)
    | refine AWP.ret ?_
    | refine AWP.exit ?_
    | refine AWP.skip ?_
    | refine GuardB.t ?_
    | refine GuardB.f ?_
    | refine GuardB.mk (fun hb => ?_) (fun hb => ?_)
    | refine NilQ.mk (fun hb => ?_) ?_
    | refine VC.mk Nat.zero_lt_one ?_
    | refine VC.mk rfl ?_
    | refine AWP.while (ι := Nat) (fun k => St.of [(0, .slice ⟨0, 0, 0, 1, 0⟩ n), (1, .int .i64 xa), (2, .int .i64 xm), (3, .int .i64 xb), (4, .func 59 [.ptr ⟨1, 0, 0, 1, 0⟩]), (10, .int .i64 (g.i : Int)), (13, .int .i64 (k : Int))] [.arr false .int (rotL d a m (k + 1)), .arr true (.raw 1) [[.slice ⟨2, 0, 0, 3, 0⟩ l.length]], .arr true .s3 l]) (fun k => a ≤ k ∧ k + 1 ≤ g.i) (fun k => g.i - k) a ?_
        (Weak.of [0, 1, 2] (.cons rfl rfl (.cons rfl rfl (.cons rfl rfl (.cons rfl rfl (.cons rfl rfl (.cons rfl rfl (.i rfl ?_ .nil))))))) (.cons (.arr rfl ?_) (.cons (.same rfl rfl) (.cons (.same rfl rfl) (.nil _)))) rfl) (fun k hk => ?_)
    | refine AWP.while (ι := SG) (fun g => St.of [(0, .slice ⟨0, 0, 0, 1, 0⟩ n), (1, .int .i64 xa), (2, .int .i64 xm), (3, .int .i64 xb), (4, .func 59 [.ptr ⟨1, 0, 0, 1, 0⟩]), (10, .int .i64 (g.i : Int)), (11, .int .i64 (g.j : Int))] [.arr false .int (d), .arr true (.raw 1) [[.slice ⟨2, 0, 0, 3, 0⟩ l.length]], .arr true .s3 l]) (fun g => AI (co l) d a m b g.i g.j) (fun g => g.j - g.i) ⟨m, b⟩ ?_
        (Weak.of [0, 1, 2] (.cons rfl rfl (.cons rfl rfl (.cons rfl rfl (.cons rfl rfl (.cons rfl rfl (.i rfl ?_ (.i rfl ?_ .nil))))))) (.cons (.same rfl rfl) (.cons (.same rfl rfl) (.cons (.same rfl rfl) (.nil _)))) rfl) (fun g hg => ?_)
    | refine AWP.while (ι := DG) (fun p => St.of [(0, .slice ⟨0, 0, 0, 1, 0⟩ n), (1, .int .i64 xa), (2, .int .i64 xm), (3, .int .i64 xb), (4, .func 59 [.ptr ⟨1, 0, 0, 1, 0⟩]), (14, .int .i64 (g.i : Int)), (17, .int .i64 (p.k : Int))] [.arr false .int (rotL d p.k m (m + 1)), .arr true (.raw 1) [[.slice ⟨2, 0, 0, 3, 0⟩ l.length]], .arr true .s3 l]) (fun p => g.i ≤ p.k ∧ p.k ≤ m) (fun p => p.k - g.i) ⟨m⟩ ?_
        (Weak.of [0, 1, 2] (.cons rfl rfl (.cons rfl rfl (.cons rfl rfl (.cons rfl rfl (.cons rfl rfl (.cons rfl rfl (.i rfl ?_ .nil))))))) (.cons (.arr rfl ?_) (.cons (.same rfl rfl) (.cons (.same rfl rfl) (.nil _)))) rfl) (fun p hp => ?_)
    | refine AWP.while (ι := SG) (fun g => St.of [(0, .slice ⟨0, 0, 0, 1, 0⟩ n), (1, .int .i64 xa), (2, .int .i64 xm), (3, .int .i64 xb), (4, .func 59 [.ptr ⟨1, 0, 0, 1, 0⟩]), (14, .int .i64 (g.i : Int)), (15, .int .i64 (g.j : Int))] [.arr false .int (d), .arr true (.raw 1) [[.slice ⟨2, 0, 0, 3, 0⟩ l.length]], .arr true .s3 l]) (fun g => CI (co l) d a m g.i g.j) (fun g => g.j - g.i) ⟨a, m⟩ ?_
        (Weak.of [0, 1, 2] (.cons rfl rfl (.cons rfl rfl (.cons rfl rfl (.cons rfl rfl (.cons rfl rfl (.i rfl ?_ (.i rfl ?_ .nil))))))) (.cons (.same rfl rfl) (.cons (.same rfl rfl) (.cons (.same rfl rfl) (.nil _)))) rfl) (fun g hg => ?_)
    | refine AWP.while (ι := SG) (fun g => St.of [(0, .slice ⟨0, 0, 0, 1, 0⟩ n), (1, .int .i64 xa), (2, .int .i64 xm), (3, .int .i64 xb), (4, .func 59 [.ptr ⟨1, 0, 0, 1, 0⟩]), (18, .int .i64 (mid2 a b : Int)), (19, .int .i64 ((mid2 a b + m : Nat) : Int)), (20, .int .i64 (g.i : Int)), (21, .int .i64 (g.j : Int)), (22, .int .i64 ((mid2 a b + m - 1 : Nat) : Int))] [.arr false .int (d), .arr true (.raw 1) [[.slice ⟨2, 0, 0, 3, 0⟩ l.length]], .arr true .s3 l]) (fun g => EI (co l) d a m b g.i g.j) (fun g => g.j - g.i) ⟨max a (mid2 a b + m - b), min m (mid2 a b)⟩ ?_
        (Weak.of [0, 1, 2] (.cons rfl rfl (.cons rfl rfl (.cons rfl rfl (.cons rfl rfl (.cons rfl rfl (.cons rfl rfl (.cons rfl rfl (.cons rfl rfl (.cons rfl rfl (.i rfl ?_ .nil)))))))))) (.cons (.same rfl rfl) (.cons (.same rfl rfl) (.cons (.same rfl rfl) (.nil _)))) rfl) (fun g hg => ?_)
    | refine ACall.useIs [1, 2] (cmpCost_call l _ _ hge ?_ ?_) rfl (.cons (.same rfl rfl) (.cons (.same rfl rfl) (.nil _))) rfl ?_
    | refine ACall.useIs [0, 1, 2] (rotate_call l _ n _ _ _ g.i m (mid2 a b + m - g.i) ?_ ?_ ?_ ?_ ?_ ?_ ?_ ?_) rfl (.cons (.same rfl rfl) (.cons (.same rfl rfl) (.cons (.same rfl rfl) (.nil _)))) rfl ?_
    | refine ACall.useIs [0, 1, 2] (ih _ n xa _ _ a g.i (mid2 a b) ?_ ?_ ?_ ?_ ?_ ?_ ?_ ?_ ?_ ?_) rfl (.cons (.same rfl rfl) (.cons (.same rfl rfl) (.cons (.same rfl rfl) (.nil _)))) rfl ?_
    | refine ACall.useIs [0, 1, 2] (ih _ n _ _ xb (mid2 a b) (mid2 a b + m - g.i) b ?_ ?_ ?_ ?_ ?_ ?_ ?_ ?_ ?_ ?_) rfl (.cons (.same rfl rfl) (.cons (.same rfl rfl) (.cons (.same rfl rfl) (.nil _)))) rfl ?_
    | refine ⟨(), _, trivial, Weak.of [0, 1, 2] (.cons rfl rfl (.cons rfl rfl (.cons rfl rfl (.cons rfl rfl (.cons rfl rfl (.i rfl ?_ (.i rfl ?_ (.i rfl ?_ (.i rfl ?_ .nil))))))))) (.cons (.same rfl rfl) (.cons (.same rfl rfl) (.cons (.same rfl rfl) (.nil _)))) rfl⟩
    | refine ⟨_, _, ?_, Weak.of [0, 1, 2] (.cons rfl rfl (.cons rfl rfl (.cons rfl rfl (.cons rfl rfl (.cons rfl rfl (.cons rfl rfl (.cons rfl rfl (.i rfl ?_ .nil)))))))) (.cons (.same rfl rfl) (.cons (.same rfl rfl) (.cons (.same rfl rfl) (.nil _)))) rfl⟩
    | refine ⟨_, _, ?_, Weak.of [0, 1, 2] (.cons rfl rfl (.cons rfl rfl (.cons rfl rfl (.cons rfl rfl (.cons rfl rfl (.cons rfl rfl (.cons rfl rfl .nil))))))) (.cons (.same rfl rfl) (.cons (.same rfl rfl) (.cons (.same rfl rfl) (.nil _)))) rfl⟩
    | refine roundEnd ⟨mid2 g.i g.j + 1, g.j⟩ ?_ ?_ (Weak.of [0, 1, 2] (.cons rfl rfl (.cons rfl rfl (.cons rfl rfl (.cons rfl rfl (.cons rfl rfl (.i rfl ?_ (.cons rfl rfl .nil))))))) (.cons (.same rfl rfl) (.cons (.same rfl rfl) (.cons (.same rfl rfl) (.nil _)))) rfl)
    | refine roundEnd ⟨g.i, mid2 g.i g.j⟩ ?_ ?_ (Weak.of [0, 1, 2] (.cons rfl rfl (.cons rfl rfl (.cons rfl rfl (.cons rfl rfl (.cons rfl rfl (.cons rfl rfl (.i rfl ?_ .nil))))))) (.cons (.same rfl rfl) (.cons (.same rfl rfl) (.cons (.same rfl rfl) (.nil _)))) rfl)
    | refine roundEnd ⟨mid2 g.i g.j + 1, g.j⟩ ?_ ?_ (Weak.of [0, 1, 2] (.cons rfl rfl (.cons rfl rfl (.cons rfl rfl (.cons rfl rfl (.cons rfl rfl (.cons rfl rfl (.cons rfl rfl (.i rfl ?_ (.cons rfl rfl (.cons rfl rfl .nil)))))))))) (.cons (.same rfl rfl) (.cons (.same rfl rfl) (.cons (.same rfl rfl) (.nil _)))) rfl)
    | refine roundEnd ⟨g.i, mid2 g.i g.j⟩ ?_ ?_ (Weak.of [0, 1, 2] (.cons rfl rfl (.cons rfl rfl (.cons rfl rfl (.cons rfl rfl (.cons rfl rfl (.cons rfl rfl (.cons rfl rfl (.cons rfl rfl (.i rfl ?_ (.cons rfl rfl .nil)))))))))) (.cons (.same rfl rfl) (.cons (.same rfl rfl) (.cons (.same rfl rfl) (.nil _)))) rfl)
    | refine roundEnd (k + 1 : Nat) ?_ ?_ (Weak.of [0, 1, 2] (.cons rfl rfl (.cons rfl rfl (.cons rfl rfl (.cons rfl rfl (.cons rfl rfl (.cons rfl rfl (.i rfl ?_ .nil))))))) (.cons (.arr rfl ?_) (.cons (.same rfl rfl) (.cons (.same rfl rfl) (.nil _)))) rfl)
    | refine roundEnd (⟨p.k - 1⟩ : DG) ?_ ?_ (Weak.of [0, 1, 2] (.cons rfl rfl (.cons rfl rfl (.cons rfl rfl (.cons rfl rfl (.cons rfl rfl (.cons rfl rfl (.i rfl ?_ .nil))))))) (.cons (.arr rfl ?_) (.cons (.same rfl rfl) (.cons (.same rfl rfl) (.nil _)))) rfl)
    | refine Ret.is [0, 1, 2] rfl (.cons (.arr rfl ?_) (.cons (.same rfl rfl) (.cons (.same rfl rfl) (.nil _)))) rfl
    | refine VC.mk ?_ ?_
  all_goals try simp only [decide_eq_true_eq, decide_eq_false_iff_not, Bool.not_eq_true', Bool.not_eq_false', cond_true, cond_false, eqB_true, eqB_false] at *
  all_goals try simp only [in64, idxAdd_zero_left, Int.toNat_natCast, fillTo_length, Int.ofNat_lt, Int.ofNat_le, Int.natCast_inj] at *
  all_goals try subst hx
  all_goals try subst hy
  all_goals try subst hz
  all_goals have hle := hm.le
  all_goals have hab := mid2_lt (i := a) (j := b) (by omega)
  all_goals have hmab := mid_eq a b (by omega)
  all_goals try have hgr := hg.1
  all_goals try have hme := mid_eq g.i g.j (by omega)
  all_goals try have hmg := mid2_lt (i := g.i) (j := g.j) (by omega)
  all_goals try have hpk := hp.1
  all_goals try have hrl := rotL_len (d := d) (s := a) (m := m) (e := k + 1) (by omega) (by omega) (by omega)
  all_goals try have hrl := rotL_len (d := d) (s := p.k) (m := m) (e := m + 1) (by omega) (by omega) (by omega)
  all_goals try simp only [hme] at *
  all_goals try simp only [hmab] at *
  all_goals try
    have e1 : ((mid2 a b + m - 1 : Nat) : Int) - ((mid2 g.i g.j : Nat) : Int) = ((mid2 a b + m - 1 - mid2 g.i g.j : Nat) : Int) := by omega
    simp only [e1] at *
  all_goals have hab2 := mid2_two a b
  all_goals try have e2 : ((k : Int) + 1).toNat = k + 1 := by omega
  all_goals try have e2 : ((p.k : Int) - 1).toNat = p.k - 1 := by omega
  all_goals try simp only [e2] at *
  all_goals try simp only [Int.toNat_natCast, List.length_set] at *
  all_goals try have hC := hg.cut (by omega) hm
  all_goals try have hC1 := hC.len hR
  all_goals try have hC2 := hC.len2 hR hX
  all_goals first
    | omega
    | exact ⟨by omega, by omega⟩
    | rfl
    | assumption
    | exact val_at hv (by omega)
    | exact AI.start (by omega)
    | exact hg.up (by omega) (by assumption)
    | exact hg.down (by omega) (by assumption)
    | exact CI.start (by omega)
    | exact EI.start (by omega) (by omega)
    | exact rotL_last (by omega) (by omega)
    | (have e : a + 1 = m := by omega
       rw [e]; exact rotL_last (by omega) (by omega))
    | exact rotL_first (by omega) (by omega)
    | exact rot_stepR (by omega) (by omega) (by omega)
    | exact rot_stepL (by omega) (by omega) (by omega)
    | (have e : k + 1 = g.i := by omega
       rw [e]; exact (hg.all (by omega) hm (by omega)).symm)
    | (have e : p.k = g.i := by omega
       have e3 : b = m + 1 := by omega
       rw [e]; exact (hg.all (by omega) hm (by omega)).symm)
    | exact .inl rfl
    | exact .inr ⟨rfl, by omega⟩
    | exact hR.left hC
    | exact hX.right hC hR
    | exact fun y hy => hv y (hC.mem hR hy)
    | exact fun y hy => hv y (hC.mem2 hR hX hy)
    | exact (IsS.all hC hR hX (.inl rfl)).symm
    | exact (IsS.all hC hR hX (.inr ⟨rfl, by omega⟩)).symm

end YtnfcnocoehkgoaaAM
