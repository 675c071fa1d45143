/- Contracts of functions of this seat. -/
import Derived.Test.YtnfcnocoehkgoaaAmTabEdges
import Derived.Test.YtnfcnocoehkgoaaAmModels
import Derived.Test.YtnfcnocoehkgoaaAmEdges2
import Derived.Test.YtnfcnocoehkgoaaAmKruMath
import Derived.Test.YtnfcnocoehkgoaaAmRowSt
set_option linter.unusedVariables false
set_option linter.unusedSimpArgs false
set_option maxRecDepth 100000
set_option maxHeartbeats 2000000
namespace YtnfcnocoehkgoaaAM
open Go Go.Proofs
attribute [local irreducible] foldN sortNK sortIK midLK insK rngI goodEdges swpN rotL segS

theorem rng_more (k : Nat) : rngI (k + 1) = sub (rngI k) 0 k ++ sub [(k : Int)] 0 1 := by
  have e := sub_snoc' (rngI k) (k : Int)
  rw [rngI_length] at e
  rw [rngI_succ, e]

theorem cmpCost_call (l : List S3) (x y : Int) (hg : goodEdges l = true) (hx : 0 ≤ x ∧ x < l.length) (hy : 0 ≤ y ∧ y < l.length) : ACall Try.prog 59 [.int .i64 x, .int .i64 y, .ptr ⟨0, 0, 0, 1, 0⟩] [.arr true (.raw 1) [[.slice ⟨1, 0, 0, 3, 0⟩ l.length]], .arr true .s3 l] (Is (.int .i64 (co l x - co l y)) [.arr true (.raw 1) [[.slice ⟨1, 0, 0, 3, 0⟩ l.length]], .arr true .s3 l]) := by
  refine ACall.walk T Try.func59 Try.ntmps59 Try.results59 rfl rfl rfl (Is.nv _ _) ?_
  repeat' (conv => whnf); first
    | refine AWP.seq ?_
    | refine AWP.reg T rfl ?_
    | refine AWP.drw T none rfl rfl rfl ?_
    | refine AWP.dep T none rfl rfl rfl rfl ?_
    | refine AWP.block ?_
    | refine AWP.condT rfl ?_
    | refine AWP.condF rfl ?_
    | refine AWP.cond rfl (fun hb => ?_) (fun hb => ?_)
    | refine AWP.ret ?_
    | refine AWP.exit ?_
    | refine AWP.skip ?_
    | refine GuardB.t ?_
    | refine GuardB.f ?_
    | refine GuardB.mk (fun hb => ?_) (fun hb => ?_)
    | refine NilQ.mk (fun hb => ?_) ?_
    | refine VC.mk Nat.zero_lt_one ?_
    | refine VC.mk rfl ?_
    | refine Ret.int [0, 1] ?_ (.cons (.same rfl rfl) (.cons (.same rfl rfl) (.nil _))) rfl
    | refine VC.mk ?_ ?_
  all_goals try simp only [decide_eq_true_eq, decide_eq_false_iff_not, Bool.not_eq_true', Bool.not_eq_false', cond_true, cond_false, eqB_true, eqB_false] at *
  all_goals try simp only [in64, idxAdd_zero_left, Int.toNat_natCast, fillTo_length, Int.ofNat_lt, Int.ofNat_le, Int.natCast_inj] at *
  all_goals try have h1 := goodEdges_at hg (k := x.toNat) (by omega)
  all_goals try have h2 := goodEdges_at hg (k := y.toNat) (by omega)
  all_goals first
    | omega
    | exact ⟨by omega, by omega⟩
    | rfl

theorem insertionK_call (l : List S3) (hg : goodEdges l = true) (p s q : List Int) (a b : Int) (n : Nat) (hpa : a = p.length) (hpb : b = p.length + s.length) (hn : n = (p ++ s ++ q).length) (hn2 : n ≤ 1048576) (hv : ∀ y ∈ s, 0 ≤ y ∧ y < l.length) : ACall Try.prog 78 [.slice ⟨0, 0, 0, 1, 0⟩ n, .int .i64 a, .int .i64 b, .func 59 [.ptr ⟨1, 0, 0, 1, 0⟩]] [.arr false .int (p ++ s ++ q), .arr true (.raw 1) [[.slice ⟨2, 0, 0, 3, 0⟩ l.length]], .arr true .s3 l] (Is (.tuple []) [.arr false .int (p ++ sortIK (co l) s ++ q), .arr true (.raw 1) [[.slice ⟨2, 0, 0, 3, 0⟩ l.length]], .arr true .s3 l]) := by
  refine ACall.walk T Try.func78 Try.ntmps78 Try.results78 rfl rfl rfl (Is.nv _ _) ?_
  repeat' (conv => whnf); first
    | refine AWP.seq ?_
    | refine AWP.reg T rfl ?_
    | refine AWP.drw T none rfl rfl rfl ?_
    | refine AWP.dep T none rfl rfl rfl rfl ?_
    | refine AWP.block ?_
    | refine AWP.condT rfl ?_
    | refine AWP.condF rfl ?_
    | refine AWP.cond rfl (fun hb => ?_) (fun hb => ?_)
    | refine AWP.ret ?_
    | refine AWP.exit ?_
    | refine AWP.skip ?_
    | refine GuardB.t ?_
    | refine GuardB.f ?_
    | refine GuardB.mk (fun hb => ?_) (fun hb => ?_)
    | refine NilQ.mk (fun hb => ?_) ?_
    | refine VC.mk Nat.zero_lt_one ?_
    | refine VC.mk rfl ?_
    | refine AWP.while (ι := Nat) (fun j => St.of [(0, .slice ⟨0, 0, 0, 1, 0⟩ n), (1, .int .i64 a), (2, .int .i64 b), (3, .func 59 [.ptr ⟨1, 0, 0, 1, 0⟩]), (8, .int .i64 (a + (k : Int))), (9, .int .i64 (a + (j : Int)))] [.arr false .int (p ++ midLK (co l) s k j ++ q), .arr true (.raw 1) [[.slice ⟨2, 0, 0, 3, 0⟩ l.length]], .arr true .s3 l]) (fun j => j ≤ k ∧ ∀ y ∈ (sortNK (co l) s k).drop j, (co l) (s.getD k 0) < (co l) y) (fun j => j) k ?_
        (Weak.of [0, 1, 2] (.cons rfl rfl (.cons rfl rfl (.cons rfl rfl (.cons rfl rfl (.cons rfl rfl (.cons rfl rfl .nil)))))) (.cons (.arr rfl ?_) (.cons (.same rfl rfl) (.cons (.same rfl rfl) (.nil _)))) rfl) (fun j hj => ?_)
    | refine AWP.while (ι := Nat) (fun k => St.of [(0, .slice ⟨0, 0, 0, 1, 0⟩ n), (1, .int .i64 a), (2, .int .i64 b), (3, .func 59 [.ptr ⟨1, 0, 0, 1, 0⟩]), (8, .int .i64 (a + (k : Int)))] [.arr false .int (p ++ (sortNK (co l) s k ++ s.drop k) ++ q), .arr true (.raw 1) [[.slice ⟨2, 0, 0, 3, 0⟩ l.length]], .arr true .s3 l]) (fun k => 1 ≤ k ∧ k ≤ s.length + 1) (fun k => s.length + 1 - k) 1 ⟨Nat.le_refl _, by omega⟩
        (Weak.of [0, 1, 2] (.cons rfl rfl (.cons rfl rfl (.cons rfl rfl (.cons rfl rfl (.i rfl ?_ .nil))))) (.cons (.arr rfl ?_) (.cons (.same rfl rfl) (.cons (.same rfl rfl) (.nil _)))) rfl) (fun k hk => ?_)
    | refine ACall.useIs [1, 2] (cmpCost_call l _ _ hg ?_ ?_) rfl (.cons (.same rfl rfl) (.cons (.same rfl rfl) (.nil _))) rfl ?_
    | refine roundEnd (j - 1) ?_ ?_ (Weak.of [0, 1, 2] (.cons rfl rfl (.cons rfl rfl (.cons rfl rfl (.cons rfl rfl (.cons rfl rfl (.i rfl ?_ .nil)))))) (.cons (.arr rfl ?_) (.cons (.same rfl rfl) (.cons (.same rfl rfl) (.nil _)))) rfl)
    | refine roundEnd (k + 1) ?_ ?_ (Weak.of [0, 1, 2] (.cons rfl rfl (.cons rfl rfl (.cons rfl rfl (.cons rfl rfl (.i rfl ?_ .nil))))) (.cons (.arr rfl ?_) (.cons (.same rfl rfl) (.cons (.same rfl rfl) (.nil _)))) rfl)
    | refine Ret.is [0, 1, 2] rfl (.cons (.arr rfl ?_) (.cons (.same rfl rfl) (.cons (.same rfl rfl) (.nil _)))) rfl
    | refine VC.mk ?_ ?_
  all_goals try simp only [decide_eq_true_eq, decide_eq_false_iff_not, Bool.not_eq_true', Bool.not_eq_false', cond_true, cond_false, eqB_true, eqB_false] at *
  all_goals try simp only [in64, idxAdd_zero_left, Int.toNat_natCast, fillTo_length, Int.ofNat_lt, Int.ofNat_le, Int.natCast_inj] at *
  all_goals try simp only [List.length_append] at *
  all_goals try
    subst hpa
    subst hpb
  all_goals try
    have hk2 : k < s.length := by omega
    have hms := sortN_lenK (key := (co l)) (l := s) k (by omega)
    have hvk := hv (s.getD k 0) (by rw [getD_get hk2]; exact List.getElem_mem _)
  all_goals try have hml := midL_lenK (key := (co l)) hk2 hj.1
  all_goals try
    have e0 : ((p.length : Int) + (j : Int)).toNat = p.length + j := by omega
    simp only [e0] at *
  all_goals try
    have hj3 : j < s.length := by omega
    have hma := midL_atK (key := (co l)) hk2 hj.1
    have hxa := app_at (p := p) (q := q) (m := midLK (co l) s k j) (j := j) (by omega)
    rw [hma] at hxa
    simp only [hxa] at *
  all_goals try
    have hj0 : 0 < j := by omega
    have e1 : ((p.length : Int) + (j : Int) - 1).toNat = p.length + (j - 1) := by omega
    simp only [e1] at *
  all_goals try
    have hmb := midL_belowK (key := (co l)) hk2 hj.1 (by omega)
    have hxb := app_at (p := p) (q := q) (m := midLK (co l) s k j) (j := j - 1) (by omega)
    rw [hmb] at hxb
    simp only [hxb] at *
    have hvj := hv ((sortNK (co l) s k).getD (j - 1) 0) ((List.mem_of_mem_take ((sortN_memK (key := (co l)) k (by omega)).1 (by rw [getD_get (by omega)]; exact List.getElem_mem _))))
  all_goals try simp only [List.length_set, List.length_append] at *
  all_goals first
    | omega
    | exact ⟨by omega, by omega⟩
    | rfl
    | assumption
    | exact hvk
    | exact hvj
    | (rw [sort_startK]; done)
    | exact ⟨Nat.le_refl _, fun y hy => by rw [List.drop_of_length_le (by omega)] at hy; simp at hy⟩
    | (rw [midL_startK hk2]; done)
    | exact ⟨by omega, drop_moreK (by omega) (by omega) hj.2 (by omega)⟩
    | (rw [app_set (by omega), app_set (by rw [List.length_set]; omega)]
       have e5 := midL_swapK (key := (co l)) hk2 hj.1 (by omega)
       rw [hma, hmb] at e5
       rw [e5])
    | (rw [midL_endK hk2 hj.1 hj.2 (.inl (by omega))]; done)
    | (rw [midL_endK hk2 hj.1 hj.2 (.inr (by omega))]; done)
    | (rw [sort_doneK (by omega)]; done)
    | (rw [← sort_doneK (key := (co l)) (k := k) (by omega)]; done)
    | (have := hk.1; have := hk.2; omega)

theorem stable_call (l : List S3) (hg : goodEdges l = true) (s : List Int) (n : Nat) (hn : n = s.length) (h19 : s.length ≤ 19) (hv : ∀ y ∈ s, 0 ≤ y ∧ y < l.length) : ACall Try.prog 72 [.slice ⟨0, 0, 0, 1, 0⟩ n, .int .i64 n, .func 59 [.ptr ⟨1, 0, 0, 1, 0⟩]] [.arr false .int (s), .arr true (.raw 1) [[.slice ⟨2, 0, 0, 3, 0⟩ l.length]], .arr true .s3 l] (Is (.tuple []) [.arr false .int (sortIK (co l) s), .arr true (.raw 1) [[.slice ⟨2, 0, 0, 3, 0⟩ l.length]], .arr true .s3 l]) := by
  refine ACall.walk T Try.func72 Try.ntmps72 Try.results72 rfl rfl rfl (Is.nv _ _) ?_
  repeat' (conv => whnf); first
    | refine AWP.cond rfl (fun hb => absurd (of_decide_eq_true hb) (by omega)) (fun hb => ?_)
    | refine AWP.seq ?_
    | refine AWP.reg T rfl ?_
    | refine AWP.drw T none rfl rfl rfl ?_
    | refine AWP.dep T none rfl rfl rfl rfl ?_
    | refine AWP.block ?_
    | refine AWP.condT rfl ?_
    | refine AWP.condF rfl ?_
    | refine AWP.cond rfl (fun hb => ?_) (fun hb => ?_)
    | refine AWP.ret ?_
    | refine AWP.exit ?_
    | refine AWP.skip ?_
    | refine GuardB.t ?_
    | refine GuardB.f ?_
    | refine GuardB.mk (fun hb => ?_) (fun hb => ?_)
    | refine NilQ.mk (fun hb => ?_) ?_
    | refine VC.mk Nat.zero_lt_one ?_
    | refine VC.mk rfl ?_
    | refine AWP.while (ι := Nat) (fun k => St.of [(0, .slice ⟨0, 0, 0, 1, 0⟩ n), (1, .int .i64 n), (2, .func 59 [.ptr ⟨1, 0, 0, 1, 0⟩]), (6, .int .i64 20), (7, .int .i64 0), (8, .int .i64 20)] [.arr false .int (s), .arr true (.raw 1) [[.slice ⟨2, 0, 0, 3, 0⟩ l.length]], .arr true .s3 l]) (fun k => True) (fun k => 0) 0 trivial
        (Weak.of [0, 1, 2] (.cons rfl rfl (.cons rfl rfl (.cons rfl rfl (.cons rfl rfl (.cons rfl rfl (.cons rfl rfl .nil)))))) (.cons (.same rfl rfl) (.cons (.same rfl rfl) (.cons (.same rfl rfl) (.nil _)))) rfl) (fun k hk => ?_)
    | refine AWP.while (ι := Nat) (fun k => St.of [(6, .int .i64 20), (1, .int .i64 n)] [.arr false .int (sortIK (co l) s), .arr true (.raw 1) [[.slice ⟨2, 0, 0, 3, 0⟩ l.length]], .arr true .s3 l]) (fun k => True) (fun k => 0) 0 trivial
        (Weak.of [0, 1, 2] (.cons rfl rfl (.cons rfl rfl .nil)) (.cons (.arr rfl ?_) (.cons (.same rfl rfl) (.cons (.same rfl rfl) (.nil _)))) rfl) (fun k hk => ?_)
    | refine ACall.useIs [0, 1, 2] (insertionK_call l hg [] s [] 0 (n : Int) n rfl ?_ ?_ ?_ hv) rfl (.cons (.arr rfl ?_) (.cons (.same rfl rfl) (.cons (.same rfl rfl) (.nil _)))) rfl ?_
    | refine Ret.is [0, 1, 2] rfl (.cons (.same rfl rfl) (.cons (.same rfl rfl) (.cons (.same rfl rfl) (.nil _)))) rfl
    | refine VC.mk ?_ ?_
  all_goals try simp only [decide_eq_true_eq, decide_eq_false_iff_not, Bool.not_eq_true', Bool.not_eq_false', cond_true, cond_false, eqB_true, eqB_false] at *
  all_goals try simp only [in64, idxAdd_zero_left, Int.toNat_natCast, fillTo_length, Int.ofNat_lt, Int.ofNat_le, Int.natCast_inj] at *
  all_goals first
    | omega
    | rfl
    | (simp; done)
    | (simp; omega)
theorem sortStable_call (l : List S3) (hg : goodEdges l = true) (s : List Int) (n : Nat) (hn : n = s.length) (h19 : s.length ≤ 19) (hv : ∀ y ∈ s, 0 ≤ y ∧ y < l.length) : ACall Try.prog 58 [.slice ⟨0, 0, 0, 1, 0⟩ n, .func 59 [.ptr ⟨1, 0, 0, 1, 0⟩]] [.arr false .int (s), .arr true (.raw 1) [[.slice ⟨2, 0, 0, 3, 0⟩ l.length]], .arr true .s3 l] (Is (.tuple []) [.arr false .int (sortIK (co l) s), .arr true (.raw 1) [[.slice ⟨2, 0, 0, 3, 0⟩ l.length]], .arr true .s3 l]) := by
  refine ACall.walk T Try.func58 Try.ntmps58 Try.results58 rfl rfl rfl (Is.nv _ _) ?_
  repeat' (conv => whnf); first
    | refine AWP.seq ?_
    | refine AWP.reg T rfl ?_
    | refine AWP.drw T none rfl rfl rfl ?_
    | refine AWP.dep T none rfl rfl rfl rfl ?_
    | refine AWP.block ?_
    | refine AWP.condT rfl ?_
    | refine AWP.condF rfl ?_
    | refine AWP.cond rfl (fun hb => ?_) (fun hb => ?_)
    | refine AWP.ret ?_
    | refine AWP.exit ?_
    | refine AWP.skip ?_
    | refine GuardB.t ?_
    | refine GuardB.f ?_
    | refine GuardB.mk (fun hb => ?_) (fun hb => ?_)
    | refine NilQ.mk (fun hb => ?_) ?_
    | refine VC.mk Nat.zero_lt_one ?_
    | refine VC.mk rfl ?_
    | refine ACall.useIs [0, 1, 2] (stable_call l hg s n hn h19 hv) rfl (.cons (.same rfl rfl) (.cons (.same rfl rfl) (.cons (.same rfl rfl) (.nil _)))) rfl ?_
    | refine Ret.is [0, 1, 2] rfl (.cons (.same rfl rfl) (.cons (.same rfl rfl) (.cons (.same rfl rfl) (.nil _)))) rfl
    | refine VC.mk ?_ ?_
  all_goals first
    | omega
    | rfl

theorem numbered_call (n : Int) (hn : 0 ≤ n ∧ n ≤ 1048576) : ACall Try.prog 57 [.int .i64 n] [] (Is (.slice ⟨0, 0, 0, 1, 0⟩ n.toNat) [.arr false .int (rngI n.toNat)]) := by
  refine ACall.walk T Try.func57 Try.ntmps57 Try.results57 rfl rfl rfl (Is.nv _ _) ?_
  repeat' (conv => whnf); first
    | refine AWP.seq ?_
    | refine AWP.reg T rfl ?_
    | refine AWP.drw T none rfl rfl rfl ?_
    | refine AWP.dep T none rfl rfl rfl rfl ?_
    | refine AWP.block ?_
    | refine AWP.condT rfl ?_
    | refine AWP.condF rfl ?_
    | refine AWP.cond rfl (fun hb => ?_) (fun hb => ?_)
    | refine AWP.ret ?_
    | refine AWP.exit ?_
    | refine AWP.skip ?_
    | refine GuardB.t ?_
    | refine GuardB.f ?_
    | refine GuardB.mk (fun hb => ?_) (fun hb => ?_)
    | refine NilQ.mk (fun hb => ?_) ?_
    | refine VC.mk Nat.zero_lt_one ?_
    | refine VC.mk rfl ?_
    | refine AWP.while (ι := Nat) (fun k => St.of [(0, .int .i64 n), (3, .slice ⟨0, 0, 0, 1, 0⟩ k), (6, .int .i64 n), (7, .int .i64 k)] [.arr false .int (rngI k)]) (fun k => k ≤ n.toNat) (fun k => n.toNat - k) 0 (Nat.zero_le _)
        (Weak.of [1] (.cons rfl rfl (.cons rfl rfl (.cons rfl rfl (.cons rfl rfl .nil)))) (.cons (.arr rfl ?_) (.nil _)) rfl) (fun k hk => ?_)
    | refine roundEnd (k + 1) ?_ ?_ (Weak.of [2] (.cons rfl rfl (.cons rfl rfl (.cons rfl rfl (.cons rfl rfl .nil)))) (.cons (.arr rfl ?_) (.nil _)) rfl)
    | refine Ret.s [0] rfl ?_ (.cons (.arr rfl ?_) (.nil _)) rfl
    | refine VC.mk ?_ ?_
  all_goals try simp only [decide_eq_true_eq, decide_eq_false_iff_not, Bool.not_eq_true', Bool.not_eq_false', cond_true, cond_false, eqB_true, eqB_false] at *
  all_goals try simp only [in64, idxAdd_zero_left, Int.toNat_natCast, fillTo_length, Int.ofNat_lt, Int.ofNat_le, Int.natCast_inj] at *
  all_goals first
    | omega
    | exact ⟨by omega, by omega⟩
    | exact ⟨by simp, by simp, by omega⟩
    | exact rng_more _
    | exact rngI_zero
    | (have e : k = n.toNat := by omega
       subst e; rfl)
    | (have e : k = n.toNat := by omega
       rw [e])
    | rfl

theorem swap_call (l : List S3) (d : List Int) (n : Nat) (x y k0 : Int) (A B K : Nat) (hn : n = d.length) (hl : d.length ≤ 1048576) (hx : x = (A : Int)) (hy : y = (B : Int)) (hk0 : k0 = (K : Int)) (h1 : A + K ≤ d.length) (h2 : B + K ≤ d.length) : ACall Try.prog 98 [.slice ⟨0, 0, 0, 1, 0⟩ n, .int .i64 x, .int .i64 y, .int .i64 k0, .func 59 [.ptr ⟨1, 0, 0, 1, 0⟩]] [.arr false .int (d), .arr true (.raw 1) [[.slice ⟨2, 0, 0, 3, 0⟩ l.length]], .arr true .s3 l] (Is (.tuple []) [.arr false .int (swpN d A B K), .arr true (.raw 1) [[.slice ⟨2, 0, 0, 3, 0⟩ l.length]], .arr true .s3 l]) := by
  refine ACall.walk T Try.func98 Try.ntmps98 Try.results98 rfl rfl rfl (Is.nv _ _) ?_
  repeat' (conv => whnf); first
    | refine AWP.seq ?_
    | refine AWP.reg T rfl ?_
    | refine AWP.drw T none rfl rfl rfl ?_
    | refine AWP.dep T none rfl rfl rfl rfl ?_
    | refine AWP.block ?_
    | refine AWP.condT rfl ?_
    | refine AWP.condF rfl ?_
    | refine AWP.cond rfl (fun hb => ?_) (fun hb => ?_)
    | refine AWP.ret ?_
    | refine AWP.exit ?_
    | refine AWP.skip ?_
    | refine GuardB.t ?_
    | refine GuardB.f ?_
    | refine GuardB.mk (fun hb => ?_) (fun hb => ?_)
    | refine NilQ.mk (fun hb => ?_) ?_
    | refine VC.mk Nat.zero_lt_one ?_
    | refine VC.mk rfl ?_
    | refine AWP.while (ι := Nat) (fun k => St.of [(0, .slice ⟨0, 0, 0, 1, 0⟩ n), (1, .int .i64 x), (2, .int .i64 y), (3, .int .i64 k0), (4, .func 59 [.ptr ⟨1, 0, 0, 1, 0⟩]), (10, .int .i64 (k : Int))] [.arr false .int (swpN d A B k), .arr true (.raw 1) [[.slice ⟨2, 0, 0, 3, 0⟩ l.length]], .arr true .s3 l]) (fun k => k ≤ K) (fun k => K - k) 0 (Nat.zero_le _)
        (Weak.of [0, 1, 2] (.cons rfl rfl (.cons rfl rfl (.cons rfl rfl (.cons rfl rfl (.cons rfl rfl (.cons rfl rfl .nil)))))) (.cons (.arr rfl ?_) (.cons (.same rfl rfl) (.cons (.same rfl rfl) (.nil _)))) rfl) (fun k hk => ?_)
    | refine roundEnd (k + 1) ?_ ?_ (Weak.of [0, 1, 2] (.cons rfl rfl (.cons rfl rfl (.cons rfl rfl (.cons rfl rfl (.cons rfl rfl (.i rfl ?_ .nil)))))) (.cons (.arr rfl ?_) (.cons (.same rfl rfl) (.cons (.same rfl rfl) (.nil _)))) rfl)
    | refine Ret.is [0, 1, 2] rfl (.cons (.arr rfl ?_) (.cons (.same rfl rfl) (.cons (.same rfl rfl) (.nil _)))) rfl
    | refine VC.mk ?_ ?_
  all_goals try simp only [decide_eq_true_eq, decide_eq_false_iff_not, Bool.not_eq_true', Bool.not_eq_false', cond_true, cond_false, eqB_true, eqB_false] at *
  all_goals try simp only [in64, idxAdd_zero_left, Int.toNat_natCast, fillTo_length, Int.ofNat_lt, Int.ofNat_le, Int.natCast_inj] at *
  all_goals try subst hx
  all_goals try subst hy
  all_goals try subst hk0
  all_goals try have hsl := swpN_len d A B k
  all_goals try
    have e0 : ((A : Int) + (k : Int)).toNat = A + k := by omega
    have e1 : ((B : Int) + (k : Int)).toNat = B + k := by omega
    simp only [e0, e1, List.length_set] at *
  all_goals first
    | omega
    | exact ⟨by omega, by omega⟩
    | rfl
    | exact swpN_succ d A B k
    | exact (swpN_succ d A B k).symm
    | exact swpN_zero d A B
    | exact (swpN_zero d A B).symm
    | (have e : k = K := by omega
       rw [e])

structure RG where
  c : List Int
  i : Nat
  j : Nat

theorem rotate_call (l : List S3) (d : List Int) (n : Nat) (xa xm xb : Int) (a m b : Nat) (hn : n = d.length) (hl : d.length ≤ 1048576) (hx : xa = (a : Int)) (hy : xm = (m : Int)) (hk0 : xb = (b : Int)) (h1 : a < m) (h2 : m < b) (h3 : b ≤ d.length) : ACall Try.prog 91 [.slice ⟨0, 0, 0, 1, 0⟩ n, .int .i64 xa, .int .i64 xm, .int .i64 xb, .func 59 [.ptr ⟨1, 0, 0, 1, 0⟩]] [.arr false .int (d), .arr true (.raw 1) [[.slice ⟨2, 0, 0, 3, 0⟩ l.length]], .arr true .s3 l] (Is (.tuple []) [.arr false .int (rotL d a m b), .arr true (.raw 1) [[.slice ⟨2, 0, 0, 3, 0⟩ l.length]], .arr true .s3 l]) := by
  refine ACall.walk T Try.func91 Try.ntmps91 Try.results91 rfl rfl rfl (Is.nv _ _) ?_
  repeat' (conv => whnf); first
    | refine AWP.seq ?_
    | refine AWP.reg T rfl ?_
    | refine AWP.drw T none rfl rfl rfl ?_
    | refine AWP.dep T none rfl rfl rfl rfl ?_
    | refine AWP.block ?_
    | refine AWP.condT rfl ?_
    | refine AWP.condF rfl ?_
    | refine AWP.cond rfl (fun hb => ?_) (fun hb => ?_)
    | refine AWP.ret ?_
    | refine AWP.exit ?_
    | refine AWP.skip ?_
    | refine GuardB.t ?_
    | refine GuardB.f ?_
    | refine GuardB.mk (fun hb => ?_) (fun hb => ?_)
    | refine NilQ.mk (fun hb => ?_) ?_
    | refine VC.mk Nat.zero_lt_one ?_
    | refine VC.mk rfl ?_
    | refine AWP.while (ι := RG) (fun g => St.of [(0, .slice ⟨0, 0, 0, 1, 0⟩ n), (1, .int .i64 xa), (2, .int .i64 xm), (3, .int .i64 xb), (4, .func 59 [.ptr ⟨1, 0, 0, 1, 0⟩]), (10, .int .i64 (g.i : Int)), (11, .int .i64 (g.j : Int))] [.arr false .int (g.c), .arr true (.raw 1) [[.slice ⟨2, 0, 0, 3, 0⟩ l.length]], .arr true .s3 l]) (fun g => RotI d g.c a m b g.i g.j) (fun g => g.i + g.j) ⟨d, m - a, b - m⟩ ?_
        (Weak.of [0, 1, 2] (.cons rfl rfl (.cons rfl rfl (.cons rfl rfl (.cons rfl rfl (.cons rfl rfl (.i rfl ?_ (.i rfl ?_ .nil))))))) (.cons (.same rfl rfl) (.cons (.same rfl rfl) (.cons (.same rfl rfl) (.nil _)))) rfl) (fun g hg => ?_)
    | refine ACall.useIs [0, 1, 2] (swap_call l _ n (xm - (g.i : Int)) xm (g.j : Int) (m - g.i) m g.j ?_ ?_ ?_ ?_ ?_ ?_ ?_) rfl (.cons (.same rfl rfl) (.cons (.same rfl rfl) (.cons (.same rfl rfl) (.nil _)))) rfl ?_
    | refine ACall.useIs [0, 1, 2] (swap_call l _ n (xm - (g.i : Int)) (xm + (g.j : Int) - (g.i : Int)) (g.i : Int) (m - g.i) (m + g.j - g.i) g.i ?_ ?_ ?_ ?_ ?_ ?_ ?_) rfl (.cons (.same rfl rfl) (.cons (.same rfl rfl) (.cons (.same rfl rfl) (.nil _)))) rfl ?_
    | refine ACall.useIs [0, 1, 2] (swap_call l _ n (xm - (g.i : Int)) xm (g.i : Int) (m - g.i) m g.i ?_ ?_ ?_ ?_ ?_ ?_ ?_) rfl (.cons (.same rfl rfl) (.cons (.same rfl rfl) (.cons (.same rfl rfl) (.nil _)))) rfl ?_
    | refine roundEnd ⟨swpN g.c (m - g.i) m g.j, g.i - g.j, g.j⟩ ?_ ?_ (Weak.of [0, 1, 2] (.cons rfl rfl (.cons rfl rfl (.cons rfl rfl (.cons rfl rfl (.cons rfl rfl (.i rfl ?_ (.i rfl ?_ .nil))))))) (.cons (.same rfl rfl) (.cons (.same rfl rfl) (.cons (.same rfl rfl) (.nil _)))) rfl)
    | refine roundEnd ⟨swpN g.c (m - g.i) (m + g.j - g.i) g.i, g.i, g.j - g.i⟩ ?_ ?_ (Weak.of [0, 1, 2] (.cons rfl rfl (.cons rfl rfl (.cons rfl rfl (.cons rfl rfl (.cons rfl rfl (.i rfl ?_ (.i rfl ?_ .nil))))))) (.cons (.same rfl rfl) (.cons (.same rfl rfl) (.cons (.same rfl rfl) (.nil _)))) rfl)
    | refine Ret.is [0, 1, 2] rfl (.cons (.arr rfl ?_) (.cons (.same rfl rfl) (.cons (.same rfl rfl) (.nil _)))) rfl
    | refine VC.mk ?_ ?_
  all_goals try simp only [decide_eq_true_eq, decide_eq_false_iff_not, Bool.not_eq_true', Bool.not_eq_false', cond_true, cond_false, eqB_true, eqB_false] at *
  all_goals try simp only [in64, idxAdd_zero_left, Int.toNat_natCast, fillTo_length, Int.ofNat_lt, Int.ofNat_le, Int.natCast_inj] at *
  all_goals try subst hx
  all_goals try subst hy
  all_goals try subst hk0
  all_goals try have hc := hg.1
  all_goals try have hi := hg.2.1
  all_goals try have hj := hg.2.2.1
  all_goals first
    | omega
    | exact ⟨by omega, by omega⟩
    | rfl
    | exact RotI.start h1 h2 h3
    | exact hg.more (by omega)
    | exact hg.less (by omega)
    | exact (hg.last (by omega)).symm

end YtnfcnocoehkgoaaAM
