/- Contracts of functions of this seat. -/
import Derived.Test.YtnfcnocoehkgoaaAmTabEdges
import Derived.Test.YtnfcnocoehkgoaaAmModels
import Derived.Test.YtnfcnocoehkgoaaAmEdges2
import Derived.Test.YtnfcnocoehkgoaaAmSortEdges
import Derived.Test.YtnfcnocoehkgoaaAmPrimModels
set_option linter.unusedVariables false
set_option linter.unusedSimpArgs false
set_option maxRecDepth 100000
set_option maxHeartbeats 2000000
namespace YtnfcnocoehkgoaaAM
open Go Go.Proofs
attribute [local irreducible] foldN ins putL sortI sortN primN primJ mineJ bestN bestM costL primL primC

theorem l7Cost_call (l : List S3) (s : List Int) (n : Nat) (hg : goodEdges l = true) (hs : s.length ≤ 1048576) (hn : n = s.length) (hr : ∀ j, j < s.length → 0 ≤ s.getD j 0 ∧ s.getD j 0 < l.length) : ACall Try.prog 55 [.slice ⟨0, 0, 0, 3, 0⟩ l.length, .slice ⟨1, 0, 0, 1, 0⟩ n] [.arr true .s3 l, .arr true .int s] (Is (.int .i64 (costL l s s.length)) [.arr true .s3 l, .arr true .int s]) := by
  refine ACall.walk T Try.func55 Try.ntmps55 Try.results55 rfl rfl rfl (Is.nv _ _) ?_
  repeat' (conv => whnf); first
    | refine AWP.seq ?_
    | refine AWP.reg T rfl ?_
    | refine AWP.drw T none rfl rfl rfl ?_
    | refine AWP.dep T none rfl rfl rfl rfl ?_
    | refine AWP.block ?_
    | refine AWP.condT rfl ?_
    | refine AWP.condF rfl ?_
    | refine AWP.cond rfl (fun hb => ?_) (fun hb => ?_)
    | refine AWP.ret ?_
    | refine AWP.exit ?_
    | refine AWP.skip ?_
    | refine GuardB.t ?_
    | refine GuardB.f ?_
    | refine GuardB.mk (fun hb => ?_) (fun hb => ?_)
    | refine NilQ.mk (fun hb => ?_) ?_
    | refine VC.mk Nat.zero_lt_one ?_
    | refine VC.mk rfl ?_
    | subst hn
      refine AWP.while (ι := Nat) (fun k => St.of [(0, .slice ⟨0, 0, 0, 3, 0⟩ l.length), (5, .int .i64 (costL l s k)), (8, .slice ⟨1, 0, 0, 1, 0⟩ s.length), (9, .int .i64 s.length), (10, .int .i64 k)] [.arr true .s3 l, .arr true .int s]) (fun k => k ≤ s.length) (fun k => s.length - k) 0 (Nat.zero_le _)
        (Weak.of [0, 1] (.cons rfl rfl (.i rfl ?_ (.cons rfl rfl (.cons rfl rfl (.cons rfl rfl .nil))))) (.cons (.same rfl rfl) (.cons (.same rfl rfl) (.nil _))) rfl) (fun k hk => ?_)
    | refine roundEnd (k + 1) ?_ ?_ (Weak.of [0, 1] (.cons rfl rfl (.i rfl ?_ (.cons rfl rfl (.cons rfl rfl (.cons rfl rfl .nil))))) (.cons (.same rfl rfl) (.cons (.same rfl rfl) (.nil _))) rfl)
    | refine Ret.int [0, 1] ?_ (.cons (.same rfl rfl) (.cons (.same rfl rfl) (.nil _))) rfl
    | refine VC.mk ?_ ?_
  all_goals try simp only [decide_eq_true_eq, decide_eq_false_iff_not, Bool.not_eq_true', Bool.not_eq_false', cond_true, cond_false, eqB_true, eqB_false] at *
  all_goals try simp only [in64, idxAdd_zero_left, Int.toNat_natCast, fillTo_length, Int.ofNat_lt, Int.ofNat_le, Int.natCast_inj] at *
  all_goals try
    have hlr := goodEdges_len hg
    have hcb := cost_bound hg hr k (by omega)
  all_goals try
    have hk2 : k < s.length := by omega
    have hb1 := hr k hk2
    have ge := goodEdges_at hg (k := (s.getD k 0).toNat) (by omega)
  all_goals first
    | omega
    | rfl
    | exact ⟨by omega, by omega⟩
    | exact costL_zero _
    | exact (costL_zero _).symm
    | (rw [costL_succ]; rfl)
    | (have e : k = s.length := by omega
       subst e
       rfl)

theorem costs_call (l : List S3) (s : List Int) (n : Nat) (hg : goodEdges l = true) (hs : s.length ≤ 12) (hn : n = s.length) (hr : ∀ j, j < (sortI s).length → 0 ≤ (sortI s).getD j 0 ∧ (sortI s).getD j 0 < l.length) : ACall Try.prog 56 [.slice ⟨0, 0, 0, 3, 0⟩ l.length, .slice ⟨1, 0, 0, 1, 0⟩ n] [.arr true .s3 l, .arr false .int s] (Is (.tuple [.slice ⟨1, 0, 0, 1, 0⟩ (sortI s).length, .int .i64 (costL l (sortI s) (sortI s).length), .bool true]) [.arr true .s3 l, .arr false .int (sortI s)]) := by
  refine ACall.walk T Try.func56 Try.ntmps56 Try.results56 rfl rfl rfl (Is.nv _ _) ?_
  repeat' (conv => whnf); first
    | refine AWP.seq ?_
    | refine AWP.reg T rfl ?_
    | refine AWP.drw T none rfl rfl rfl ?_
    | refine AWP.dep T none rfl rfl rfl rfl ?_
    | refine AWP.block ?_
    | refine AWP.condT rfl ?_
    | refine AWP.condF rfl ?_
    | refine AWP.cond rfl (fun hb => ?_) (fun hb => ?_)
    | refine AWP.ret ?_
    | refine AWP.exit ?_
    | refine AWP.skip ?_
    | refine GuardB.t ?_
    | refine GuardB.f ?_
    | refine GuardB.mk (fun hb => ?_) (fun hb => ?_)
    | refine NilQ.mk (fun hb => ?_) ?_
    | refine VC.mk Nat.zero_lt_one ?_
    | refine VC.mk rfl ?_
    | refine ACall.useIs [1] (sort_call _ _ ?_ ?_) rfl (.cons (.same rfl rfl) (.nil _)) rfl ?_
    | subst hn
      have hsl := sortI_len s
      refine AWP.while (ι := Nat) (fun k => St.of [(0, .slice ⟨0, 0, 0, 3, 0⟩ l.length), (1, .slice ⟨1, 0, 0, 1, 0⟩ (sortI s).length), (7, .int .i64 (costL l (sortI s) k)), (12, .slice ⟨1, 0, 0, 1, 0⟩ (sortI s).length), (13, .int .i64 (sortI s).length), (14, .int .i64 k)] [.arr true .s3 l, .arr false .int (sortI s)]) (fun k => k ≤ (sortI s).length) (fun k => (sortI s).length - k) 0 (Nat.zero_le _)
        (Weak.of [0, 1] (.cons rfl rfl (.s rfl ?_ rfl (.i rfl ?_ (.s rfl ?_ rfl (.i rfl ?_ (.cons rfl rfl .nil)))))) (.cons (.same rfl rfl) (.cons (.same rfl rfl) (.nil _))) rfl) (fun k hk => ?_)
    | refine roundEnd (k + 1) ?_ ?_ (Weak.of [0, 1] (.cons rfl rfl (.s rfl ?_ rfl (.i rfl ?_ (.s rfl ?_ rfl (.i rfl ?_ (.cons rfl rfl .nil)))))) (.cons (.same rfl rfl) (.cons (.same rfl rfl) (.nil _))) rfl)
    | refine Ret.sib [0, 1] rfl ?_ ?_ ?_ (.cons (.same rfl rfl) (.cons (.same rfl rfl) (.nil _))) rfl
    | refine VC.mk ?_ ?_
  all_goals try simp only [decide_eq_true_eq, decide_eq_false_iff_not, Bool.not_eq_true', Bool.not_eq_false', cond_true, cond_false, eqB_true, eqB_false] at *
  all_goals try simp only [in64, idxAdd_zero_left, Int.toNat_natCast, fillTo_length, Int.ofNat_lt, Int.ofNat_le, Int.natCast_inj] at *
  all_goals try
    have hlr := goodEdges_len hg
    have hcb := cost_bound hg hr k (by omega)
  all_goals try
    have hk2 : k < (sortI s).length := by omega
    have hb1 := hr k hk2
    have ge := goodEdges_at hg (k := ((sortI s).getD k 0).toNat) (by omega)
  all_goals first
    | omega
    | rfl
    | exact ⟨by omega, by omega⟩
    | exact costL_zero _
    | exact (costL_zero _).symm
    | (rw [costL_succ]; rfl)
    | (have e : k = (sortI s).length := by omega
       subst e
       rfl)

theorem implPrim_call (l : List S3) (hl : l.length ≤ 1048576) : ACall Try.prog 25 [.slice ⟨0, 0, 0, 3, 0⟩ l.length] [.arr true .s3 l] (Is (.tuple [.slice ⟨1, 0, 0, 1, 0⟩ (primL l).length, .int .i64 (primC l), .bool (goodEdges l)]) [.arr true .s3 l, .arr false .int (primL l)]) := by
  refine ACall.walk T Try.func25 Try.ntmps25 Try.results25 rfl rfl rfl (Is.nv _ _) ?_
  repeat' (conv => whnf); first
    | refine AWP.seq ?_
    | refine AWP.reg T rfl ?_
    | refine AWP.drw T none rfl rfl rfl ?_
    | refine AWP.dep T none rfl rfl rfl rfl ?_
    | refine AWP.block ?_
    | refine AWP.condT rfl ?_
    | refine AWP.condF rfl ?_
    | refine AWP.cond rfl (fun hb => ?_) (fun hb => ?_)
    | refine AWP.ret ?_
    | refine AWP.exit ?_
    | refine AWP.skip ?_
    | refine GuardB.t ?_
    | refine GuardB.f ?_
    | refine GuardB.mk (fun hb => ?_) (fun hb => ?_)
    | refine NilQ.mk (fun hb => ?_) ?_
    | refine VC.mk Nat.zero_lt_one ?_
    | refine VC.mk rfl ?_
    | refine ACall.useIs [0] (implGoodEdges_call _ ?_) rfl (.cons (.same rfl rfl) (.nil _)) rfl ?_
    | refine AWP.dep T (some [0]) rfl rfl rfl rfl ?_
    | refine AWP.while (ι := Nat) (fun k => St.of [(0, .slice ⟨0, 0, 0, 3, 0⟩ l.length), (5, .ptr ⟨1, 0, 0, 1, 0⟩), (6, .slice ⟨2, 0, 0, 1, 0⟩ ((primJ l i j).2).length), (8, .int .i64 (bestN l (primJ l i j).1 k)), (16, .int .i64 i), (21, .slice ⟨0, 0, 0, 3, 0⟩ l.length), (22, .int .i64 l.length), (23, .int .i64 k)] [.arr true .s3 l, .arr false .bool (primJ l i j).1, .arr false .int (primJ l i j).2]) (fun k => k ≤ l.length) (fun k => l.length - k) 0 (Nat.zero_le _)
        (Weak.of [0, 1, 2] (.cons rfl rfl (.cons rfl rfl (.s rfl ?_ rfl (.i rfl ?_ (.cons rfl rfl (.cons rfl rfl (.cons rfl rfl (.cons rfl rfl .nil)))))))) (.cons (.same rfl rfl) (.cons (.same rfl rfl) (.cons (.same rfl rfl) (.nil _)))) rfl) (fun k hk => ?_)
    | refine AWP.while (ι := Nat) (fun j => St.of [(0, .slice ⟨0, 0, 0, 3, 0⟩ l.length), (5, .ptr ⟨1, 0, 0, 1, 0⟩), (6, .slice ⟨2, 0, 0, 1, 0⟩ ((primJ l i j).2).length), (16, .int .i64 i)] [.arr true .s3 l, .arr false .bool (primJ l i j).1, .arr false .int (primJ l i j).2]) (fun j => ∀ d, d < j → ¬ bestM l (primJ l i d).1 < 0) (fun j => 8 - j) 0 ?_
        (Weak.of [0, 1, 2] (.cons rfl rfl (.cons rfl rfl (.s rfl ?_ rfl (.cons rfl rfl .nil)))) (.cons (.same rfl rfl) (.cons (.arr rfl ?_) (.cons (.arr rfl ?_) (.nil _)))) rfl) (fun j hj => ?_)
    | refine AWP.while (ι := Nat) (fun i => St.of [(0, .slice ⟨0, 0, 0, 3, 0⟩ l.length), (5, .ptr ⟨1, 0, 0, 1, 0⟩), (6, .slice ⟨2, 0, 0, 1, 0⟩ ((primN l i).2).length), (16, .int .i64 i)] [.arr true .s3 l, .arr false .bool (primN l i).1, .arr false .int (primN l i).2]) (fun i => i ≤ 8) (fun i => 8 - i) 0 (Nat.zero_le _)
        (Weak.of [0, 3, 2] (.cons rfl rfl (.cons rfl rfl (.s rfl ?_ rfl (.cons rfl rfl .nil)))) (.cons (.same rfl rfl) (.cons (.arr rfl ?_) (.cons (.arr rfl ?_) (.nil _)))) rfl) (fun i hi => ?_)
    | refine roundEnd (k + 1) ?_ ?_ (Weak.of [0, 1, 2] (.cons rfl rfl (.cons rfl rfl (.s rfl ?_ rfl (.i rfl ?_ (.cons rfl rfl (.cons rfl rfl (.cons rfl rfl (.cons rfl rfl .nil)))))))) (.cons (.same rfl rfl) (.cons (.same rfl rfl) (.cons (.same rfl rfl) (.nil _)))) rfl)
    | refine roundEnd (j + 1) ?_ ?_ (Weak.of [0, 1, 4] (.cons rfl rfl (.cons rfl rfl (.s rfl ?_ rfl (.cons rfl rfl .nil)))) (.cons (.same rfl rfl) (.cons (.arr rfl ?_) (.cons (.arr rfl ?_) (.nil _)))) rfl)
    | refine roundEnd (i + 1) ?_ ?_ (Weak.of [0, 1, 2] (.cons rfl rfl (.cons rfl rfl (.s rfl ?_ rfl (.cons rfl rfl .nil)))) (.cons (.same rfl rfl) (.cons (.arr rfl ?_) (.cons (.arr rfl ?_) (.nil _)))) rfl)
    | refine ACall.useIs [0, 2] (costs_call _ _ _ ?_ ?_ ?_ ?_) rfl (.cons (.same rfl rfl) (.cons (.same rfl rfl) (.nil _))) rfl ?_
    | refine Ret.sib [0, 2] rfl ?_ ?_ ?_ (.cons (.same rfl rfl) (.cons (.arr rfl ?_) (.nil _))) rfl
    | refine Ret.sib [0, 1] rfl ?_ ?_ ?_ (.cons (.same rfl rfl) (.cons (.arr rfl ?_) (.nil _))) rfl
    | refine VC.mk ?_ ?_
  all_goals try simp only [decide_eq_true_eq, decide_eq_false_iff_not, Bool.not_eq_true', Bool.not_eq_false', cond_true, cond_false, eqB_true, eqB_false] at *
  all_goals try simp only [in64, idxAdd_zero_left, Int.toNat_natCast, fillTo_length, Int.ofNat_lt, Int.ofNat_le, Int.natCast_inj] at *
  all_goals try have hg : goodEdges l = true := by assumption
  all_goals try have hlr := goodEdges_len hg
  all_goals try
    have h8 := primN_len (l := l) i
    have hI := primN_inv hg i (by omega)
    have hIl := hI.le
  all_goals try
    have hj8 := prim_j hg (by omega) hj
    have hJ := primJ_inv hg (by omega) (i := i) j
    have hJl := hJ.le
    have j8 := primJ_len (l := l) i j
  all_goals try
    have hbl := bestN_lt (l := l) (primJ l i j).1 k
  all_goals try
    have hk2 : k < l.length := by omega
    have ge := goodEdges_at hg hk2
  all_goals try
    have ge2 := goodEdges_at hg (k := (bestN l (primJ l i j).1 k).toNat) (by omega)
  all_goals try simp only [List.length_set] at *
  all_goals first
    | exact hl
    | omega
    | rfl
    | (intro d hd; omega)
    | exact ⟨rfl, rfl⟩
    | exact best_yes (by assumption) (.inl (by assumption))
    | exact best_yes (by assumption) (.inr (by assumption))
    | exact best_no1 (by assumption)
    | exact best_no2 (by assumption) (by assumption)
    | (have e : k = l.length := by omega
       subst e
       simp only [bestM_eq] at *
       try simp only [hbest] at *
       have e2 := prim_end hj8 (by assumption)
       rw [e2])
    | (have e : k = l.length := by omega
       subst e
       simp only [bestM_eq] at *
       try
         have hnb : ¬ bestM l (mineJ l i j) < 0 := by assumption
         have hmg := mineJ_go hnb
         have hpp := prim_put (i := i) (j := j) hg (by omega) (by rw [← hbest]; exact hnb)
         have hpl := congrArg List.length hpp
         simp only [hbest, sortI_len] at *
       first
       | (rw [hpp]; done)
       | exact hpl
       | (rw [hmg]; rfl)
       | (refine ⟨hjf, ?_⟩
          intro d hd
          rcases Nat.lt_or_ge d j with h | h
          · exact hj d h
          · have ed : d = j := by omega
            subst ed
            assumption)
       | exact prim_j2 hg (by omega) hj (by assumption)
       | (have := prim_j2 hg (by omega) hj (by assumption); omega)
       | (rw [primJ_succ, growS_go (by assumption)]; done)
       | (rw [primJ_succ, growS_go (by assumption)]; rfl)
       | (rw [primJ_succ, growS_go (by assumption)]; simp; done)
       | (intro d hd
          rcases Nat.lt_or_ge d j with h | h
          · exact hj d h
          · have ed : d = j := by omega
            subst ed
            assumption))
    | (have e2 := prim_skip (i := i) hg (by omega) (by assumption)
       rw [e2])
    | (show i < 8; omega)
    | (rw [mineJ_zero]; rfl)
    | (rw [primN_zero, sortI_nil]; done)
    | exact bestN_zero _
    | exact (bestN_zero _).symm
    | exact ⟨rfl, trivial⟩
    | exact ⟨by simp, by omega, by omega⟩
    | (have e : i = 8 := by omega
       subst e
       first
       | (intro d hd; exact primN_edge hg hd)
       | (intro d hd; rw [← sortI_len] at hd; exact primN_edge hg hd)
       | (rw [primL, if_pos hg, sortI_len]; done)
       | (rw [primC, if_pos hg, primL, if_pos hg, sortI_len]; done)
       | (rw [primL, if_pos hg]; done)
       | (rw [primC, if_pos hg, primL, if_pos hg]; done))
    | (rw [primN_zero]; done)
    | (rw [primN_zero]; rfl)
    | (rw [primJ_zero]; done)
    | (rw [primJ_zero]; rfl)
    | exact ⟨by omega, by omega⟩
    | (rw [primL, if_pos hg]; done)
    | (rw [primC, if_pos hg, primL, if_pos hg]; done)
    | (rw [hg]; done)
    | (have hn : goodEdges l = false := by simp_all
       first
       | (rw [primL, if_neg (by rw [hn]; simp)]; done)
       | (rw [primL, if_neg (by rw [hn]; simp)]; rfl)
       | (rw [primC, if_neg (by rw [hn]; simp)]; done)
       | (rw [primC, if_neg (by rw [hn]; simp)]; rfl)
       | (rw [hn]; done))

theorem specPrim_call (l : List S3) (hl : l.length ≤ 1048576) : ACall Try.prog 24 [.slice ⟨0, 0, 0, 3, 0⟩ l.length] [.arr true .s3 l] (Is (.tuple [.slice ⟨1, 0, 0, 1, 0⟩ (primL l).length, .int .i64 (primC l), .bool (goodEdges l)]) [.arr true .s3 l, .arr false .int (primL l)]) := by
  refine ACall.walk T Try.func24 Try.ntmps24 Try.results24 rfl rfl rfl (Is.nv _ _) ?_
  repeat' (conv => whnf); first
    | refine AWP.seq ?_
    | refine AWP.reg T rfl ?_
    | refine AWP.drw T none rfl rfl rfl ?_
    | refine AWP.dep T none rfl rfl rfl rfl ?_
    | refine AWP.block ?_
    | refine AWP.condT rfl ?_
    | refine AWP.condF rfl ?_
    | refine AWP.cond rfl (fun hb => ?_) (fun hb => ?_)
    | refine AWP.ret ?_
    | refine AWP.exit ?_
    | refine AWP.skip ?_
    | refine GuardB.t ?_
    | refine GuardB.f ?_
    | refine GuardB.mk (fun hb => ?_) (fun hb => ?_)
    | refine NilQ.mk (fun hb => ?_) ?_
    | refine VC.mk Nat.zero_lt_one ?_
    | refine VC.mk rfl ?_
    | refine ACall.useIs [0] (specGoodEdges_call _ ?_) rfl (.cons (.same rfl rfl) (.nil _)) rfl ?_
    | refine AWP.while (ι := Nat) (fun k => St.of [(0, .slice ⟨0, 0, 0, 3, 0⟩ l.length), (5, .slice ⟨1, 0, 0, 1, 0⟩ 8), (6, .slice ⟨2, 0, 0, 1, 0⟩ (sortI (primJ l i j).2).length), (7, .int .i64 i), (8, .slice ⟨3, 0, 0, 1, 0⟩ 8), (9, .int .i64 (bestN l (mineJ l i j) k)), (31, .slice ⟨0, 0, 0, 3, 0⟩ l.length), (32, .int .i64 l.length), (33, .int .i64 k)] [.arr true .s3 l, .arr false .bool (primJ l i j).1, .arr false .int (sortI (primJ l i j).2), .arr false .bool (mineJ l i j)]) (fun k => k ≤ l.length) (fun k => l.length - k) 0 (Nat.zero_le _)
        (Weak.of [0, 1, 2, 3] (.cons rfl rfl (.cons rfl rfl (.s rfl ?_ rfl (.cons rfl rfl (.cons rfl rfl (.i rfl ?_ (.cons rfl rfl (.cons rfl rfl (.cons rfl rfl .nil))))))))) (.cons (.same rfl rfl) (.cons (.same rfl rfl) (.cons (.same rfl rfl) (.cons (.same rfl rfl) (.nil _))))) rfl) (fun k hk => ?_)
    | refine AWP.while (ι := Nat) (fun j => St.of [(0, .slice ⟨0, 0, 0, 3, 0⟩ l.length), (5, .slice ⟨1, 0, 0, 1, 0⟩ 8), (6, .slice ⟨2, 0, 0, 1, 0⟩ (sortI (primJ l i j).2).length), (7, .int .i64 i), (8, .slice ⟨3, 0, 0, 1, 0⟩ 8)] [.arr true .s3 l, .arr false .bool (primJ l i j).1, .arr false .int (sortI (primJ l i j).2), .arr false .bool (mineJ l i j)]) (fun j => (primN l i).1.getD i false = false ∧ ∀ d, d < j → ¬ bestM l (primJ l i d).1 < 0) (fun j => 8 - j) 0 ⟨?_, ?_⟩
        (Weak.of [0, 1, 2, 3] (.cons rfl rfl (.cons rfl rfl (.s rfl ?_ rfl (.cons rfl rfl (.cons rfl rfl .nil))))) (.cons (.same rfl rfl) (.cons (.arr rfl ?_) (.cons (.arr rfl ?_) (.cons (.arr rfl ?_) (.nil _))))) rfl) (fun j hj => ?_)
    | refine AWP.while (ι := Nat) (fun i => St.of [(0, .slice ⟨0, 0, 0, 3, 0⟩ l.length), (5, .slice ⟨1, 0, 0, 1, 0⟩ 8), (6, .slice ⟨2, 0, 0, 1, 0⟩ (sortI (primN l i).2).length), (7, .int .i64 i)] [.arr true .s3 l, .arr false .bool (primN l i).1, .arr false .int (sortI (primN l i).2)]) (fun i => i ≤ 8) (fun i => 8 - i) 0 (Nat.zero_le _)
        (Weak.of [0, 2, 3] (.cons rfl rfl (.cons rfl rfl (.s rfl ?_ rfl (.cons rfl rfl .nil)))) (.cons (.same rfl rfl) (.cons (.arr rfl ?_) (.cons (.arr rfl ?_) (.nil _)))) rfl) (fun i hi => ?_)
    | refine ACall.useIs [2] (l7Put_call _ _ ?_ ?_) rfl (.cons (.same rfl rfl) (.nil _)) rfl ?_
    | refine roundEnd (k + 1) ?_ ?_ (Weak.of [0, 1, 2, 3] (.cons rfl rfl (.cons rfl rfl (.s rfl ?_ rfl (.cons rfl rfl (.cons rfl rfl (.i rfl ?_ (.cons rfl rfl (.cons rfl rfl (.cons rfl rfl .nil))))))))) (.cons (.same rfl rfl) (.cons (.same rfl rfl) (.cons (.same rfl rfl) (.cons (.same rfl rfl) (.nil _))))) rfl)
    | refine roundEnd (j + 1) ?_ ?_ (Weak.of [0, 1, 4, 3] (.cons rfl rfl (.cons rfl rfl (.s rfl ?_ rfl (.cons rfl rfl (.cons rfl rfl .nil))))) (.cons (.same rfl rfl) (.cons (.arr rfl ?_) (.cons (.arr rfl ?_) (.cons (.arr rfl ?_) (.nil _))))) rfl)
    | refine roundEnd (i + 1) ?_ ?_ (Weak.of [0, 1, 2] (.cons rfl rfl (.cons rfl rfl (.s rfl ?_ rfl (.cons rfl rfl .nil)))) (.cons (.same rfl rfl) (.cons (.arr rfl ?_) (.cons (.arr rfl ?_) (.nil _)))) rfl)
    | refine ACall.useIs [0, 2] (l7Cost_call _ _ _ ?_ ?_ ?_ ?_) rfl (.cons (.same rfl rfl) (.cons (.ro rfl rfl) (.nil _))) rfl ?_
    | refine Ret.sib [0, 2] rfl ?_ ?_ ?_ (.cons (.same rfl rfl) (.cons (.arr rfl ?_) (.nil _))) rfl
    | refine Ret.sib [0, 1] rfl ?_ ?_ ?_ (.cons (.same rfl rfl) (.cons (.arr rfl ?_) (.nil _))) rfl
    | refine VC.mk ?_ ?_
  all_goals try simp only [decide_eq_true_eq, decide_eq_false_iff_not, Bool.not_eq_true', Bool.not_eq_false', cond_true, cond_false, eqB_true, eqB_false] at *
  all_goals try simp only [in64, idxAdd_zero_left, Int.toNat_natCast, fillTo_length, Int.ofNat_lt, Int.ofNat_le, Int.natCast_inj] at *
  all_goals try have hg : goodEdges l = true := by assumption
  all_goals try have hlr := goodEdges_len hg
  all_goals try
    obtain ⟨hjf, hj⟩ := hj
  all_goals try
    have h8 := primN_len (l := l) i
    have hI := primN_inv hg i (by omega)
    have hIl := hI.le
  all_goals try
    have hj8 := prim_j hg (by omega) hj
    have hJ := primJ_inv hg (by omega) (i := i) j
    have hJl := hJ.le
    have j8 := primJ_len (l := l) i j
  all_goals try
    have hbl := bestN_lt (l := l) (mineJ l i j) k
  all_goals try
    have hk2 : k < l.length := by omega
    have ge := goodEdges_at hg hk2
  all_goals try
    have ge2 := goodEdges_at hg (k := (bestN l (mineJ l i j) k).toNat) (by omega)
  all_goals try
    have hfalse : (primN l i).1.getD i false = false := by assumption
    have hbest := mine_best hg (by omega) hfalse j
    have m8 := mineJ_len (l := l) i j
  all_goals try
    have hrise := primJ_sorted hg (by omega) j (i := i)
  all_goals try simp only [List.length_set, sortI_len] at *
  all_goals first
    | exact hl
    | omega
    | rfl
    | (intro d hd; omega)
    | exact ⟨rfl, rfl⟩
    | exact best_yes (by assumption) (.inl (by assumption))
    | exact best_yes (by assumption) (.inr (by assumption))
    | exact best_no1 (by assumption)
    | exact best_no2 (by assumption) (by assumption)
    | (have e : k = l.length := by omega
       subst e
       simp only [bestM_eq] at *
       try simp only [hbest] at *
       have e2 := prim_end hj8 (by assumption)
       rw [e2])
    | (have e : k = l.length := by omega
       subst e
       simp only [bestM_eq] at *
       try
         have hnb : ¬ bestM l (mineJ l i j) < 0 := by assumption
         have hmg := mineJ_go hnb
         have hpp := prim_put (i := i) (j := j) hg (by omega) (by rw [← hbest]; exact hnb)
         have hpl := congrArg List.length hpp
         simp only [hbest, sortI_len] at *
       first
       | (rw [hpp]; done)
       | exact hpl
       | (rw [hmg]; rfl)
       | (refine ⟨hjf, ?_⟩
          intro d hd
          rcases Nat.lt_or_ge d j with h | h
          · exact hj d h
          · have ed : d = j := by omega
            subst ed
            assumption)
       | exact prim_j2 hg (by omega) hj (by assumption)
       | (have := prim_j2 hg (by omega) hj (by assumption); omega)
       | (rw [primJ_succ, growS_go (by assumption)]; done)
       | (rw [primJ_succ, growS_go (by assumption)]; rfl)
       | (rw [primJ_succ, growS_go (by assumption)]; simp; done)
       | (intro d hd
          rcases Nat.lt_or_ge d j with h | h
          · exact hj d h
          · have ed : d = j := by omega
            subst ed
            assumption))
    | (have e2 := prim_skip (i := i) hg (by omega) (by assumption)
       rw [e2])
    | (show i < 8; omega)
    | (rw [mineJ_zero]; rfl)
    | (rw [primN_zero, sortI_nil]; done)
    | exact bestN_zero _
    | exact (bestN_zero _).symm
    | exact ⟨rfl, trivial⟩
    | exact ⟨by simp, by omega, by omega⟩
    | (have e : i = 8 := by omega
       subst e
       first
       | (intro d hd; exact primN_edge hg hd)
       | (intro d hd; rw [← sortI_len] at hd; exact primN_edge hg hd)
       | (rw [primL, if_pos hg, sortI_len]; done)
       | (rw [primC, if_pos hg, primL, if_pos hg, sortI_len]; done)
       | (rw [primL, if_pos hg]; done)
       | (rw [primC, if_pos hg, primL, if_pos hg]; done))
    | (rw [primN_zero]; done)
    | (rw [primN_zero]; rfl)
    | (rw [primJ_zero]; done)
    | (rw [primJ_zero]; rfl)
    | exact ⟨by omega, by omega⟩
    | (rw [primL, if_pos hg]; done)
    | (rw [primC, if_pos hg, primL, if_pos hg]; done)
    | (rw [hg]; done)
    | (have hn : goodEdges l = false := by simp_all
       first
       | (rw [primL, if_neg (by rw [hn]; simp)]; done)
       | (rw [primL, if_neg (by rw [hn]; simp)]; rfl)
       | (rw [primC, if_neg (by rw [hn]; simp)]; done)
       | (rw [primC, if_neg (by rw [hn]; simp)]; rfl)
       | (rw [hn]; done))

theorem lawPrim_call (l : List S3) (hl : l.length ≤ 9223372036854775807) : ACall Try.prog 6 [.slice ⟨0, 0, 0, 3, 0⟩ l.length] [.arr true .s3 l] (Is (.bool true) [.arr true .s3 l]) := by
  refine ACall.walk T Try.func6 Try.ntmps6 Try.results6 rfl rfl rfl (Is.nv _ _) ?_
  repeat' (conv => whnf); first
    | refine AWP.seq ?_
    | refine AWP.reg T rfl ?_
    | refine AWP.drw T none rfl rfl rfl ?_
    | refine AWP.dep T none rfl rfl rfl rfl ?_
    | refine AWP.block ?_
    | refine AWP.condT rfl ?_
    | refine AWP.condF rfl ?_
    | refine AWP.cond rfl (fun hb => ?_) (fun hb => ?_)
    | refine AWP.ret ?_
    | refine AWP.exit ?_
    | refine AWP.skip ?_
    | refine GuardB.t ?_
    | refine GuardB.f ?_
    | refine GuardB.mk (fun hb => ?_) (fun hb => ?_)
    | refine NilQ.mk (fun hb => ?_) ?_
    | refine VC.mk Nat.zero_lt_one ?_
    | refine VC.mk rfl ?_
    | refine ACall.useIs [0] (szEdgeS_call _ _ ?_ ?_) rfl (.cons (.same rfl rfl) (.nil _)) rfl ?_
    | refine ACall.useIs [0] (toEdgeS_call _ ?_) rfl (.cons (.same rfl rfl) (.nil _)) rfl ?_
    | refine ACall.useIs [1] (specPrim_call _ ?_) rfl (.cons (.ro rfl rfl) (.nil _)) rfl ?_
    | refine ACall.useIs [3] (implPrim_call _ ?_) rfl (.cons (.ro rfl rfl) (.nil _)) rfl ?_
    | refine ACall.useIs [6] (implPrim_call _ ?_) rfl (.cons (.ro rfl rfl) (.nil _)) rfl ?_
    | refine ACall.useIs [4, 2] (eqIntS_call _ _ ?_) rfl (.cons (.ro rfl rfl) (.cons (.ro rfl rfl) (.nil _))) rfl ?_
    | refine ACall.useIs [7, 2] (eqIntS_call _ _ ?_) rfl (.cons (.ro rfl rfl) (.cons (.ro rfl rfl) (.nil _))) rfl ?_
    | refine ACall.useIs [3, 5] (eqEdgeS_call _ _ ?_) rfl (.cons (.ro rfl rfl) (.cons (.ro rfl rfl) (.nil _))) rfl ?_
    | refine ACall.useIs [3] (markEdgeS_call _ _ ?_ ?_) rfl (.cons (.same rfl rfl) (.nil _)) rfl ?_
    | refine ACall.useIs [4] (markIntS_call _ _ ?_ ?_) rfl (.cons (.same rfl rfl) (.nil _)) rfl ?_
    | refine ACall.useIs [4] (heldIntS_call _ _ ?_ ?_) rfl (.cons (.ro rfl rfl) (.nil _)) rfl ?_
    | refine Ret.bool [0] ?_ (.cons (.same rfl rfl) (.nil _)) rfl
    | refine VC.mk ?_ ?_
  all_goals try simp only [decide_eq_true_eq, decide_eq_false_iff_not, Bool.not_eq_true', Bool.not_eq_false', cond_true, cond_false, eqB_true, eqB_false] at *
  all_goals try simp only [in64, idxAdd_zero_left, Int.toNat_natCast, fillTo_length, Int.ofNat_lt, Int.ofNat_le, Int.natCast_inj] at *
  all_goals try simp only [marksI_length, marks3_length] at *
  all_goals try have hfact := primL_le (l := l)
  all_goals first
    | rfl
    | omega
    | exact leftOf_ok (by assumption) (by omega)
    | (have := leftOf_ok (by assumption) (by omega : (1048576 : Int) ≤ 1048576); omega)
    | (simp_all [eqB]; done)
    | (simp_all [eqB]; omega)

end YtnfcnocoehkgoaaAM
