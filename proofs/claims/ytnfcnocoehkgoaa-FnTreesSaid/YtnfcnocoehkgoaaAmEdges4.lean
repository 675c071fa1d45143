/- Contracts of functions of this seat. -/
import Derived.Test.YtnfcnocoehkgoaaAmTabEdges
import Derived.Test.YtnfcnocoehkgoaaAmModels
import Derived.Test.YtnfcnocoehkgoaaAmEdges2
import Derived.Test.YtnfcnocoehkgoaaAmForestWalk
set_option linter.unusedVariables false
set_option linter.unusedSimpArgs false
set_option maxRecDepth 100000
set_option maxHeartbeats 2000000
namespace YtnfcnocoehkgoaaAM
open Go Go.Proofs
attribute [local irreducible] foldN partsN lab joinB forB pathR pathN piB piL piOk goodEdges someB linkP

theorem isForest_call (l : List S3) (s : List Int) (hg : goodEdges l = true) (hs : someB s l.length = true) : ACall Try.prog 51 [.slice ⟨0, 0, 0, 3, 0⟩ l.length, .slice ⟨1, 0, 0, 1, 0⟩ s.length] [.arr true .s3 l, .arr true .int s] (Is (.bool (forB l s)) [.arr true .s3 l, .arr true .int s]) := by
  refine ACall.walk T Try.func51 Try.ntmps51 Try.results51 rfl rfl rfl (Is.nv _ _) ?_
  repeat' (conv => whnf); first
    | refine AWP.seq ?_
    | refine AWP.reg T rfl ?_
    | refine AWP.drw T none rfl rfl rfl ?_
    | refine AWP.dep T none rfl rfl rfl rfl ?_
    | refine AWP.block ?_
    | refine AWP.condT rfl ?_
    | refine AWP.condF rfl ?_
    | refine AWP.cond rfl (fun hb => ?_) (fun hb => ?_)
    | refine AWP.ret ?_
    | refine AWP.exit ?_
    | refine AWP.skip ?_
    | refine GuardB.t ?_
    | refine GuardB.f ?_
    | refine GuardB.mk (fun hb => ?_) (fun hb => ?_)
    | refine NilQ.mk (fun hb => ?_) ?_
    | refine VC.mk Nat.zero_lt_one ?_
    | refine VC.mk rfl ?_
    | refine ACall.useIs [] (alone_call) rfl (.nil _) rfl ?_
    | refine AWP.while (ι := Nat) (fun k => St.of [(0, .slice ⟨0, 0, 0, 3, 0⟩ l.length), (5, .ptr ⟨2, 0, 0, 1, 0⟩), (9, .slice ⟨1, 0, 0, 1, 0⟩ s.length), (10, .int .i64 s.length), (11, .int .i64 k)] [.arr true .s3 l, .arr true .int s, .arr false .int (partsN l s k)]) (fun k => AllTo (joinB l s) s.length k) (fun k => s.length - k) 0 (AllTo.zero _ _)
        (Weak.of [0, 1, 2] (.cons rfl rfl (.cons rfl rfl (.cons rfl rfl (.cons rfl rfl (.cons rfl rfl .nil))))) (.cons (.same rfl rfl) (.cons (.same rfl rfl) (.cons (.arr rfl ?_) (.nil _)))) rfl) (fun k hk => ?_)
    | refine ACall.useIs [2] (link_call _ _ _ ?_ ?_ ?_) rfl (.cons (.same rfl rfl) (.nil _)) rfl ?_
    | refine roundEnd (k + 1) ?_ ?_ (Weak.of [0, 1, 2] (.cons rfl rfl (.cons rfl rfl (.cons rfl rfl (.cons rfl rfl (.cons rfl rfl .nil))))) (.cons (.same rfl rfl) (.cons (.same rfl rfl) (.cons (.arr rfl ?_) (.nil _)))) rfl)
    | refine Ret.bool [0, 1] ?_ (.cons (.same rfl rfl) (.cons (.same rfl rfl) (.nil _))) rfl
    | refine VC.mk ?_ ?_
  all_goals try simp only [decide_eq_true_eq, decide_eq_false_iff_not, Bool.not_eq_true', Bool.not_eq_false', cond_true, cond_false, eqB_true, eqB_false] at *
  all_goals try simp only [in64, idxAdd_zero_left, Int.toNat_natCast, fillTo_length, Int.ofNat_lt, Int.ofNat_le, Int.natCast_inj] at *
  all_goals try have hlr := goodEdges_len hg
  all_goals try have hsl := someB_len hs
  all_goals try have h8 := partsN_len l s k
  all_goals try have hk1 := hk.1
  all_goals try
    have hk2 : k < s.length := by omega
    have hat := someB_at hs hk2
    have ge := goodEdges_at hg (k := (s.getD k 0).toNat) (by omega)
  all_goals try simp only [min_max] at *
  all_goals first
    | omega
    | rfl
    | exact ⟨by omega, by omega⟩
    | exact for_all hk (by omega)
    | exact for_not hk2 (by assumption)
    | exact for_next hk hk2 (by assumption)
    | exact partsN_succ l s k
    | exact partsN_zero0 l s

theorem l7Parts_call' (l : List S3) (s : List Int) (n : Nat) (hg : goodEdges l = true) (hs : someB s l.length = true) (hn : n = s.length) : ACall Try.prog 44 [.slice ⟨0, 0, 0, 3, 0⟩ l.length, .slice ⟨1, 0, 0, 1, 0⟩ n] [.arr true .s3 l, .arr true .int s] (Is (.slice ⟨2, 0, 0, 1, 0⟩ 8) [.arr true .s3 l, .arr true .int s, .arr false .int (partsN l s n)]) := by subst hn; exact l7Parts_call l s hg hs
theorem lab_take {l : List S3} {s : List Int} {k : Nat} (hk : k ≤ s.length) (v : Int) : (partsN l (s.take k) k).getD v.toNat 0 = (partsN l s k).getD v.toNat 0 := by rw [partsN_take l s k k (Nat.le_refl _) hk]

theorem l7Forest_call (l : List S3) (s : List Int) (hg : goodEdges l = true) (hs : someB s l.length = true) : ACall Try.prog 49 [.slice ⟨0, 0, 0, 3, 0⟩ l.length, .slice ⟨1, 0, 0, 1, 0⟩ s.length] [.arr true .s3 l, .arr true .int s] (Is (.bool (forB l s)) [.arr true .s3 l, .arr true .int s]) := by
  refine ACall.walk T Try.func49 Try.ntmps49 Try.results49 rfl rfl rfl (Is.nv _ _) ?_
  repeat' (conv => whnf); first
    | refine AWP.seq ?_
    | refine AWP.reg T rfl ?_
    | refine AWP.drw T none rfl rfl rfl ?_
    | refine AWP.dep T none rfl rfl rfl rfl ?_
    | refine AWP.block ?_
    | refine AWP.condT rfl ?_
    | refine AWP.condF rfl ?_
    | refine AWP.cond rfl (fun hb => ?_) (fun hb => ?_)
    | refine AWP.ret ?_
    | refine AWP.exit ?_
    | refine AWP.skip ?_
    | refine GuardB.t ?_
    | refine GuardB.f ?_
    | refine GuardB.mk (fun hb => ?_) (fun hb => ?_)
    | refine NilQ.mk (fun hb => ?_) ?_
    | refine VC.mk Nat.zero_lt_one ?_
    | refine VC.mk rfl ?_
    | refine AWP.while (ι := Nat) (fun k => St.of [(0, .slice ⟨0, 0, 0, 3, 0⟩ l.length), (5, .slice ⟨2, 0, 0, 1, 0⟩ k), (9, .slice ⟨1, 0, 0, 1, 0⟩ s.length), (10, .int .i64 s.length), (11, .int .i64 k)] [.arr true .s3 l, .arr true .int s, .arr false .int (s.take k)]) (fun k => AllTo (joinB l s) s.length k) (fun k => s.length - k) 0 (AllTo.zero _ _)
        (Weak.of [0, 1, 2] (.cons rfl rfl (.cons rfl rfl (.cons rfl rfl (.cons rfl rfl (.cons rfl rfl .nil))))) (.cons (.same rfl rfl) (.cons (.same rfl rfl) (.cons (.same rfl rfl) (.nil _)))) rfl) (fun k hk => ?_)
    | refine ACall.useIs [0, 2] (l7Parts_call' l (s.take k) k hg (someB_take hs k) ?_) rfl (.cons (.same rfl rfl) (.cons (.ro rfl rfl) (.nil _))) rfl ?_
    | refine roundEnd (k + 1) ?_ ?_ (Weak.of [0, 1, 5] (.cons rfl rfl (.cons rfl rfl (.cons rfl rfl (.cons rfl rfl (.cons rfl rfl .nil))))) (.cons (.same rfl rfl) (.cons (.same rfl rfl) (.cons (.arr rfl ?_) (.nil _)))) rfl)
    | refine Ret.bool [0, 1] ?_ (.cons (.same rfl rfl) (.cons (.same rfl rfl) (.nil _))) rfl
    | refine VC.mk ?_ ?_
  all_goals try simp only [decide_eq_true_eq, decide_eq_false_iff_not, Bool.not_eq_true', Bool.not_eq_false', cond_true, cond_false, eqB_true, eqB_false] at *
  all_goals try simp only [in64, idxAdd_zero_left, Int.toNat_natCast, fillTo_length, Int.ofNat_lt, Int.ofNat_le, Int.natCast_inj] at *
  all_goals try have hlr := goodEdges_len hg
  all_goals try have hsl := someB_len hs
  all_goals try have h8 := partsN_len l s k
  all_goals try have hk1 := hk.1
  all_goals try
    have hk2 : k < s.length := by omega
    have hat := someB_at hs hk2
    have ge := goodEdges_at hg (k := (s.getD k 0).toNat) (by omega)
  all_goals try have htk : (s.take k).length = k := by rw [List.length_take]; omega
  all_goals try have h8t := partsN_len l (s.take k) k
  all_goals try simp only [lab_take hk1] at *
  all_goals first
    | omega
    | rfl
    | exact ⟨by omega, by omega⟩
    | exact ⟨by simp, by omega, by omega⟩
    | exact for_all hk (by omega)
    | exact for_not hk2 (by assumption)
    | exact for_next hk hk2 (by assumption)
    | exact take_snoc hk2

theorem l7Path_callStep (l : List S3) (s : List Int) (hg : goodEdges l = true) (hs : someB s l.length = true) (hf : forB l s = true) (b : Int) (n : Nat) (ih : ∀ (u bf : Int) (d : Nat), TrailAt l s u bf d → 9 ≤ n + d ∧ n ≤ 9 →  ACall Try.prog 50 [.slice ⟨0, 0, 0, 3, 0⟩ l.length, .slice ⟨1, 0, 0, 1, 0⟩ s.length, .int .i64 u, .int .i64 b, .int .i64 bf] [.arr true .s3 l, .arr true .int s] (Is (.tuple [.slice ⟨2, 0, 0, 1, 0⟩ (pathR l s b n u bf).2.length, .bool (pathR l s b n u bf).1]) [.arr true .s3 l, .arr true .int s, .arr false .int (pathR l s b n u bf).2])) (u bf : Int) (d : Nat) (hd : TrailAt l s u bf d) (h9 : 9 ≤ (n + 1) + d ∧ n + 1 ≤ 9) : ACall Try.prog 50 [.slice ⟨0, 0, 0, 3, 0⟩ l.length, .slice ⟨1, 0, 0, 1, 0⟩ s.length, .int .i64 u, .int .i64 b, .int .i64 bf] [.arr true .s3 l, .arr true .int s] (Is (.tuple [.slice ⟨2, 0, 0, 1, 0⟩ (pathR l s b (n + 1) u bf).2.length, .bool (pathR l s b (n + 1) u bf).1]) [.arr true .s3 l, .arr true .int s, .arr false .int (pathR l s b (n + 1) u bf).2]) := by
  refine ACall.walk T Try.func50 Try.ntmps50 Try.results50 rfl rfl rfl (Is.nv _ _) ?_
  repeat' (conv => whnf); first
    | refine AWP.seq ?_
    | refine AWP.reg T rfl ?_
    | refine AWP.drw T none rfl rfl rfl ?_
    | refine AWP.dep T none rfl rfl rfl rfl ?_
    | refine AWP.block ?_
    | refine AWP.condT rfl ?_
    | refine AWP.condF rfl ?_
    | refine AWP.cond rfl (fun hb => ?_) (fun hb => ?_)
    | refine AWP.ret ?_
    | refine AWP.exit ?_
    | refine AWP.skip ?_
    | refine GuardB.t ?_
    | refine GuardB.f ?_
    | refine GuardB.mk (fun hb => ?_) (fun hb => ?_)
    | refine NilQ.mk (fun hb => ?_) ?_
    | refine VC.mk Nat.zero_lt_one ?_
    | refine VC.mk rfl ?_
    | refine AWP.while (ι := Nat) (fun k => St.of [(0, .slice ⟨0, 0, 0, 3, 0⟩ l.length), (1, .slice ⟨1, 0, 0, 1, 0⟩ s.length), (2, .int .i64 u), (3, .int .i64 b), (4, .int .i64 bf), (20, .slice ⟨1, 0, 0, 1, 0⟩ s.length), (21, .int .i64 s.length), (22, .int .i64 k)] [.arr true .s3 l, .arr true .int s]) (fun k => k ≤ s.length ∧ pathN l s b n u bf k = (false, [])) (fun k => s.length - k) 0 ?_
        (Weak.of [0, 1] (.cons rfl rfl (.cons rfl rfl (.cons rfl rfl (.cons rfl rfl (.cons rfl rfl (.cons rfl rfl (.cons rfl rfl (.cons rfl rfl .nil)))))))) (.cons (.same rfl rfl) (.cons (.same rfl rfl) (.nil _))) rfl) (fun k hk => ?_)
    | refine ACall.useIs [0, 1] (ih _ _ (d + 1) ?_ ?_) rfl (.cons (.same rfl rfl) (.cons (.same rfl rfl) (.nil _))) rfl ?_
    | refine roundEnd (k + 1) ?_ ?_ (Weak.of [0, 1] (.cons rfl rfl (.cons rfl rfl (.cons rfl rfl (.cons rfl rfl (.cons rfl rfl (.cons rfl rfl (.cons rfl rfl (.cons rfl rfl .nil)))))))) (.cons (.same rfl rfl) (.cons (.same rfl rfl) (.nil _))) rfl)
    | refine Ret.sb [0, 1, 4] rfl ?_ ?_ (.cons (.same rfl rfl) (.cons (.same rfl rfl) (.cons (.arr rfl ?_) (.nil _)))) rfl
    | refine Ret.sb [0, 1, 3] rfl ?_ ?_ (.cons (.same rfl rfl) (.cons (.same rfl rfl) (.cons (.arr rfl ?_) (.nil _)))) rfl
    | refine Ret.sb [0, 1, 2] rfl ?_ ?_ (.cons (.same rfl rfl) (.cons (.same rfl rfl) (.cons (.arr rfl ?_) (.nil _)))) rfl
    | refine VC.mk ?_ ?_
  all_goals try simp only [decide_eq_true_eq, decide_eq_false_iff_not, Bool.not_eq_true', Bool.not_eq_false', cond_true, cond_false, eqB_true, eqB_false] at *
  all_goals try simp only [in64, idxAdd_zero_left, Int.toNat_natCast, fillTo_length, Int.ofNat_lt, Int.ofNat_le, Int.natCast_inj] at *
  all_goals have hrg := hd.range
  all_goals have hdl := hd.le
  all_goals try have hlr := goodEdges_len hg
  all_goals try have hsl := someB_len hs
  all_goals try
    have hk1 := hk.1
    have hkn := hk.2
  all_goals try
    have hk2 : k < s.length := by omega
    have hat := someB_at hs hk2
    have ge := goodEdges_at hg (k := (s.getD k 0).toNat) (by omega)
  all_goals try
    have hpa := pathR_len l s b n (l.getD (s.getD k 0).toNat ⟨0, 0, 0⟩).a (s.getD k 0)
    have hpb := pathR_len l s b n (l.getD (s.getD k 0).toNat ⟨0, 0, 0⟩).b (s.getD k 0)
    have hpo := pathR_len l s b n ((l.getD (s.getD k 0).toNat ⟨0, 0, 0⟩).a + (l.getD (s.getD k 0).toNat ⟨0, 0, 0⟩).b - u) (s.getD k 0)
  all_goals first
    | omega
    | rfl
    | exact ⟨by omega, by omega⟩
    | exact ⟨Nat.zero_le _, pathN_zero⟩
    | exact ⟨rfl, trivial⟩
    | (rw [pathR_here (by assumption)]; done)
    | (rw [pathR_here (by assumption)]; rfl)
    | (rw [path_none (by assumption) hk1 (by omega) hkn]; done)
    | (rw [path_none (by assumption) hk1 (by omega) hkn]; rfl)
    | exact hd.go hg hs hf hk2 (by assumption) (.inl ⟨by assumption, rfl⟩)
    | exact hd.go hg hs hf hk2 (by assumption) (.inr ⟨by assumption, rfl⟩)
    | exact ⟨by omega, pathN_skip hkn (.inl (by assumption))⟩
    | exact ⟨by omega, pathN_skip hkn (.inr ⟨by assumption, by assumption⟩)⟩
    | exact ⟨by omega, path_not hkn (by assumption) (.inl ⟨by assumption, rfl⟩) (by assumption)⟩
    | exact ⟨by omega, path_not hkn (by assumption) (.inr ⟨by assumption, rfl⟩) (by assumption)⟩
    | exact ⟨by simp, by omega, by omega⟩
    | (rw [path_found (by assumption) hk2 hkn (by assumption) (.inl ⟨by assumption, rfl⟩) (by assumption)]; done)
    | (rw [path_found (by assumption) hk2 hkn (by assumption) (.inr ⟨by assumption, rfl⟩) (by assumption)]; done)
    | exact ⟨by omega, by simp, by omega⟩
    | (rw [path_found (by assumption) hk2 hkn (by assumption) (.inl ⟨by assumption, rfl⟩) (by assumption)]; first | exact Nat.add_comm 1 _ | (simp [sub]; done))
    | (rw [path_found (by assumption) hk2 hkn (by assumption) (.inr ⟨by assumption, rfl⟩) (by assumption)]; first | exact Nat.add_comm 1 _ | (simp [sub]; done))
theorem l7Path_call (l : List S3) (s : List Int) (hg : goodEdges l = true) (hs : someB s l.length = true) (hf : forB l s = true) (b : Int) : ∀ (n : Nat) (u bf : Int) (d : Nat), TrailAt l s u bf d → 9 ≤ n + d ∧ n ≤ 9 →  ACall Try.prog 50 [.slice ⟨0, 0, 0, 3, 0⟩ l.length, .slice ⟨1, 0, 0, 1, 0⟩ s.length, .int .i64 u, .int .i64 b, .int .i64 bf] [.arr true .s3 l, .arr true .int s] (Is (.tuple [.slice ⟨2, 0, 0, 1, 0⟩ (pathR l s b n u bf).2.length, .bool (pathR l s b n u bf).1]) [.arr true .s3 l, .arr true .int s, .arr false .int (pathR l s b n u bf).2])
  | 0, u, bf, d, hd, h9 => absurd hd.le (by omega)
  | n + 1, u, bf, d, hd, h9 => l7Path_callStep l s hg hs hf b n (l7Path_call l s hg hs hf b n) u bf d hd h9

theorem wayIn_callStep (l : List S3) (s : List Int) (hg : goodEdges l = true) (hs : someB s l.length = true) (hf : forB l s = true) (b : Int) (n : Nat) (ih : ∀ (u bf : Int) (d : Nat), TrailAt l s u bf d → 9 ≤ n + d ∧ n ≤ 9 →  ACall Try.prog 53 [.int .i64 u, .int .i64 bf, .ptr ⟨0, 0, 0, 1, 0⟩, .ptr ⟨1, 0, 0, 1, 0⟩, .ptr ⟨2, 0, 0, 1, 0⟩, .ptr ⟨3, 0, 0, 1, 0⟩] [.arr false (.raw 1) [[.int .i64 b]], .arr false (.raw 1) [[.slice ⟨4, 0, 0, 1, 0⟩ s.length]], .arr false (.raw 1) [[.slice ⟨5, 0, 0, 3, 0⟩ l.length]], .arr false (.raw 1) [[.func 53 [.ptr ⟨0, 0, 0, 1, 0⟩, .ptr ⟨1, 0, 0, 1, 0⟩, .ptr ⟨2, 0, 0, 1, 0⟩, .ptr ⟨3, 0, 0, 1, 0⟩]]], .arr true .int s, .arr true .s3 l] (Is (.tuple [.slice ⟨6, 0, 0, 1, 0⟩ (pathR l s b n u bf).2.length, .bool (pathR l s b n u bf).1]) [.arr false (.raw 1) [[.int .i64 b]], .arr false (.raw 1) [[.slice ⟨4, 0, 0, 1, 0⟩ s.length]], .arr false (.raw 1) [[.slice ⟨5, 0, 0, 3, 0⟩ l.length]], .arr false (.raw 1) [[.func 53 [.ptr ⟨0, 0, 0, 1, 0⟩, .ptr ⟨1, 0, 0, 1, 0⟩, .ptr ⟨2, 0, 0, 1, 0⟩, .ptr ⟨3, 0, 0, 1, 0⟩]]], .arr true .int s, .arr true .s3 l, .arr false .int (pathR l s b n u bf).2])) (u bf : Int) (d : Nat) (hd : TrailAt l s u bf d) (h9 : 9 ≤ (n + 1) + d ∧ n + 1 ≤ 9) : ACall Try.prog 53 [.int .i64 u, .int .i64 bf, .ptr ⟨0, 0, 0, 1, 0⟩, .ptr ⟨1, 0, 0, 1, 0⟩, .ptr ⟨2, 0, 0, 1, 0⟩, .ptr ⟨3, 0, 0, 1, 0⟩] [.arr false (.raw 1) [[.int .i64 b]], .arr false (.raw 1) [[.slice ⟨4, 0, 0, 1, 0⟩ s.length]], .arr false (.raw 1) [[.slice ⟨5, 0, 0, 3, 0⟩ l.length]], .arr false (.raw 1) [[.func 53 [.ptr ⟨0, 0, 0, 1, 0⟩, .ptr ⟨1, 0, 0, 1, 0⟩, .ptr ⟨2, 0, 0, 1, 0⟩, .ptr ⟨3, 0, 0, 1, 0⟩]]], .arr true .int s, .arr true .s3 l] (Is (.tuple [.slice ⟨6, 0, 0, 1, 0⟩ (pathR l s b (n + 1) u bf).2.length, .bool (pathR l s b (n + 1) u bf).1]) [.arr false (.raw 1) [[.int .i64 b]], .arr false (.raw 1) [[.slice ⟨4, 0, 0, 1, 0⟩ s.length]], .arr false (.raw 1) [[.slice ⟨5, 0, 0, 3, 0⟩ l.length]], .arr false (.raw 1) [[.func 53 [.ptr ⟨0, 0, 0, 1, 0⟩, .ptr ⟨1, 0, 0, 1, 0⟩, .ptr ⟨2, 0, 0, 1, 0⟩, .ptr ⟨3, 0, 0, 1, 0⟩]]], .arr true .int s, .arr true .s3 l, .arr false .int (pathR l s b (n + 1) u bf).2]) := by
  refine ACall.walk T Try.func53 Try.ntmps53 Try.results53 rfl rfl rfl (Is.nv _ _) ?_
  repeat' (conv => whnf); first
    | refine AWP.seq ?_
    | refine AWP.reg T rfl ?_
    | refine AWP.drw T none rfl rfl rfl ?_
    | refine AWP.dep T none rfl rfl rfl rfl ?_
    | refine AWP.block ?_
    | refine AWP.condT rfl ?_
    | refine AWP.condF rfl ?_
    | refine AWP.cond rfl (fun hb => ?_) (fun hb => ?_)
    | refine AWP.ret ?_
    | refine AWP.exit ?_
    | refine AWP.skip ?_
    | refine GuardB.t ?_
    | refine GuardB.f ?_
    | refine GuardB.mk (fun hb => ?_) (fun hb => ?_)
    | refine NilQ.mk (fun hb => ?_) ?_
    | refine VC.mk Nat.zero_lt_one ?_
    | refine VC.mk rfl ?_
    | refine AWP.while (ι := Nat) (fun k => St.of [(0, .int .i64 u), (1, .int .i64 bf), (2, .ptr ⟨0, 0, 0, 1, 0⟩), (3, .ptr ⟨1, 0, 0, 1, 0⟩), (4, .ptr ⟨2, 0, 0, 1, 0⟩), (5, .ptr ⟨3, 0, 0, 1, 0⟩), (18, .slice ⟨4, 0, 0, 1, 0⟩ s.length), (19, .int .i64 s.length), (20, .int .i64 k)] [.arr false (.raw 1) [[.int .i64 b]], .arr false (.raw 1) [[.slice ⟨4, 0, 0, 1, 0⟩ s.length]], .arr false (.raw 1) [[.slice ⟨5, 0, 0, 3, 0⟩ l.length]], .arr false (.raw 1) [[.func 53 [.ptr ⟨0, 0, 0, 1, 0⟩, .ptr ⟨1, 0, 0, 1, 0⟩, .ptr ⟨2, 0, 0, 1, 0⟩, .ptr ⟨3, 0, 0, 1, 0⟩]]], .arr true .int s, .arr true .s3 l]) (fun k => k ≤ s.length ∧ pathN l s b n u bf k = (false, [])) (fun k => s.length - k) 0 ?_
        (Weak.of [0, 1, 2, 3, 4, 5] (.cons rfl rfl (.cons rfl rfl (.cons rfl rfl (.cons rfl rfl (.cons rfl rfl (.cons rfl rfl (.cons rfl rfl (.cons rfl rfl (.cons rfl rfl .nil))))))))) (.cons (.same rfl rfl) (.cons (.same rfl rfl) (.cons (.same rfl rfl) (.cons (.same rfl rfl) (.cons (.same rfl rfl) (.cons (.same rfl rfl) (.nil _))))))) rfl) (fun k hk => ?_)
    | refine ACall.useIs [0, 1, 2, 3, 4, 5] (ih _ _ (d + 1) ?_ ?_) rfl (.cons (.same rfl rfl) (.cons (.same rfl rfl) (.cons (.same rfl rfl) (.cons (.same rfl rfl) (.cons (.same rfl rfl) (.cons (.same rfl rfl) (.nil _))))))) rfl ?_
    | refine roundEnd (k + 1) ?_ ?_ (Weak.of [0, 1, 2, 3, 4, 5] (.cons rfl rfl (.cons rfl rfl (.cons rfl rfl (.cons rfl rfl (.cons rfl rfl (.cons rfl rfl (.cons rfl rfl (.cons rfl rfl (.cons rfl rfl .nil))))))))) (.cons (.same rfl rfl) (.cons (.same rfl rfl) (.cons (.same rfl rfl) (.cons (.same rfl rfl) (.cons (.same rfl rfl) (.cons (.same rfl rfl) (.nil _))))))) rfl)
    | refine Ret.sb [0, 1, 2, 3, 4, 5, 9] rfl ?_ ?_ (.cons (.same rfl rfl) (.cons (.same rfl rfl) (.cons (.same rfl rfl) (.cons (.same rfl rfl) (.cons (.same rfl rfl) (.cons (.same rfl rfl) (.cons (.arr rfl ?_) (.nil _)))))))) rfl
    | refine Ret.sb [0, 1, 2, 3, 4, 5, 7] rfl ?_ ?_ (.cons (.same rfl rfl) (.cons (.same rfl rfl) (.cons (.same rfl rfl) (.cons (.same rfl rfl) (.cons (.same rfl rfl) (.cons (.same rfl rfl) (.cons (.arr rfl ?_) (.nil _)))))))) rfl
    | refine Ret.sb [0, 1, 2, 3, 4, 5, 6] rfl ?_ ?_ (.cons (.same rfl rfl) (.cons (.same rfl rfl) (.cons (.same rfl rfl) (.cons (.same rfl rfl) (.cons (.same rfl rfl) (.cons (.same rfl rfl) (.cons (.arr rfl ?_) (.nil _)))))))) rfl
    | refine VC.mk ?_ ?_
  all_goals try simp only [decide_eq_true_eq, decide_eq_false_iff_not, Bool.not_eq_true', Bool.not_eq_false', cond_true, cond_false, eqB_true, eqB_false] at *
  all_goals try simp only [in64, idxAdd_zero_left, Int.toNat_natCast, fillTo_length, Int.ofNat_lt, Int.ofNat_le, Int.natCast_inj] at *
  all_goals have hrg := hd.range
  all_goals have hdl := hd.le
  all_goals try have hlr := goodEdges_len hg
  all_goals try have hsl := someB_len hs
  all_goals try
    have hk1 := hk.1
    have hkn := hk.2
  all_goals try
    have hk2 : k < s.length := by omega
    have hat := someB_at hs hk2
    have ge := goodEdges_at hg (k := (s.getD k 0).toNat) (by omega)
  all_goals try
    have hpa := pathR_len l s b n (l.getD (s.getD k 0).toNat ⟨0, 0, 0⟩).a (s.getD k 0)
    have hpb := pathR_len l s b n (l.getD (s.getD k 0).toNat ⟨0, 0, 0⟩).b (s.getD k 0)
    have hpo := pathR_len l s b n ((l.getD (s.getD k 0).toNat ⟨0, 0, 0⟩).a + (l.getD (s.getD k 0).toNat ⟨0, 0, 0⟩).b - u) (s.getD k 0)
  all_goals first
    | omega
    | rfl
    | exact ⟨by omega, by omega⟩
    | exact ⟨Nat.zero_le _, pathN_zero⟩
    | exact ⟨rfl, trivial⟩
    | (rw [pathR_here (by assumption)]; done)
    | (rw [pathR_here (by assumption)]; rfl)
    | (rw [path_none (by assumption) hk1 (by omega) hkn]; done)
    | (rw [path_none (by assumption) hk1 (by omega) hkn]; rfl)
    | exact hd.go hg hs hf hk2 (by assumption) (.inl (w_inl (by assumption)))
    | exact hd.go hg hs hf hk2 (by assumption) (.inr (w_inr (by assumption)))
    | exact ⟨by omega, pathN_skip hkn (.inl (by assumption))⟩
    | exact ⟨by omega, pathN_skip hkn (.inr ⟨by assumption, by assumption⟩)⟩
    | exact ⟨by omega, path_not (w := (l.getD (s.getD k 0).toNat ⟨0, 0, 0⟩).a + (l.getD (s.getD k 0).toNat ⟨0, 0, 0⟩).b - u) hkn (by assumption) (.inl (w_inl (by assumption))) (by assumption)⟩
    | exact ⟨by omega, path_not (w := (l.getD (s.getD k 0).toNat ⟨0, 0, 0⟩).a + (l.getD (s.getD k 0).toNat ⟨0, 0, 0⟩).b - u) hkn (by assumption) (.inr (w_inr (by assumption))) (by assumption)⟩
    | exact ⟨by simp, by omega, by omega⟩
    | (rw [path_found (w := (l.getD (s.getD k 0).toNat ⟨0, 0, 0⟩).a + (l.getD (s.getD k 0).toNat ⟨0, 0, 0⟩).b - u) (by assumption) hk2 hkn (by assumption) (.inl (w_inl (by assumption))) (by assumption)]; done)
    | (rw [path_found (w := (l.getD (s.getD k 0).toNat ⟨0, 0, 0⟩).a + (l.getD (s.getD k 0).toNat ⟨0, 0, 0⟩).b - u) (by assumption) hk2 hkn (by assumption) (.inr (w_inr (by assumption))) (by assumption)]; done)
    | exact ⟨by omega, by simp, by omega⟩
    | (rw [path_found (w := (l.getD (s.getD k 0).toNat ⟨0, 0, 0⟩).a + (l.getD (s.getD k 0).toNat ⟨0, 0, 0⟩).b - u) (by assumption) hk2 hkn (by assumption) (.inl (w_inl (by assumption))) (by assumption)]; first | exact Nat.add_comm 1 _ | (simp [sub]; done))
    | (rw [path_found (w := (l.getD (s.getD k 0).toNat ⟨0, 0, 0⟩).a + (l.getD (s.getD k 0).toNat ⟨0, 0, 0⟩).b - u) (by assumption) hk2 hkn (by assumption) (.inr (w_inr (by assumption))) (by assumption)]; first | exact Nat.add_comm 1 _ | (simp [sub]; done))
theorem wayIn_call (l : List S3) (s : List Int) (hg : goodEdges l = true) (hs : someB s l.length = true) (hf : forB l s = true) (b : Int) : ∀ (n : Nat) (u bf : Int) (d : Nat), TrailAt l s u bf d → 9 ≤ n + d ∧ n ≤ 9 →  ACall Try.prog 53 [.int .i64 u, .int .i64 bf, .ptr ⟨0, 0, 0, 1, 0⟩, .ptr ⟨1, 0, 0, 1, 0⟩, .ptr ⟨2, 0, 0, 1, 0⟩, .ptr ⟨3, 0, 0, 1, 0⟩] [.arr false (.raw 1) [[.int .i64 b]], .arr false (.raw 1) [[.slice ⟨4, 0, 0, 1, 0⟩ s.length]], .arr false (.raw 1) [[.slice ⟨5, 0, 0, 3, 0⟩ l.length]], .arr false (.raw 1) [[.func 53 [.ptr ⟨0, 0, 0, 1, 0⟩, .ptr ⟨1, 0, 0, 1, 0⟩, .ptr ⟨2, 0, 0, 1, 0⟩, .ptr ⟨3, 0, 0, 1, 0⟩]]], .arr true .int s, .arr true .s3 l] (Is (.tuple [.slice ⟨6, 0, 0, 1, 0⟩ (pathR l s b n u bf).2.length, .bool (pathR l s b n u bf).1]) [.arr false (.raw 1) [[.int .i64 b]], .arr false (.raw 1) [[.slice ⟨4, 0, 0, 1, 0⟩ s.length]], .arr false (.raw 1) [[.slice ⟨5, 0, 0, 3, 0⟩ l.length]], .arr false (.raw 1) [[.func 53 [.ptr ⟨0, 0, 0, 1, 0⟩, .ptr ⟨1, 0, 0, 1, 0⟩, .ptr ⟨2, 0, 0, 1, 0⟩, .ptr ⟨3, 0, 0, 1, 0⟩]]], .arr true .int s, .arr true .s3 l, .arr false .int (pathR l s b n u bf).2])
  | 0, u, bf, d, hd, h9 => absurd hd.le (by omega)
  | n + 1, u, bf, d, hd, h9 => wayIn_callStep l s hg hs hf b n (wayIn_call l s hg hs hf b n) u bf d hd h9

theorem specPathIn_call (l : List S3) (s : List Int) (a b : Int) (hl : l.length ≤ 1048576) (hs : s.length ≤ 1048576) : ACall Try.prog 22 [.slice ⟨0, 0, 0, 3, 0⟩ l.length, .slice ⟨1, 0, 0, 1, 0⟩ s.length, .int .i64 a, .int .i64 b] [.arr true .s3 l, .arr true .int s] (Is (.tuple [.slice ⟨2, 0, 0, 1, 0⟩ (piL l s a b).length, .bool (piB l s a b)]) [.arr true .s3 l, .arr true .int s, .arr false .int (piL l s a b)]) := by
  refine ACall.walk T Try.func22 Try.ntmps22 Try.results22 rfl rfl rfl (Is.nv _ _) ?_
  repeat' (conv => whnf); first
    | refine AWP.seq ?_
    | refine AWP.reg T rfl ?_
    | refine AWP.drw T none rfl rfl rfl ?_
    | refine AWP.dep T none rfl rfl rfl rfl ?_
    | refine AWP.block ?_
    | refine AWP.condT rfl ?_
    | refine AWP.condF rfl ?_
    | refine AWP.cond rfl (fun hb => ?_) (fun hb => ?_)
    | refine AWP.ret ?_
    | refine AWP.exit ?_
    | refine AWP.skip ?_
    | refine GuardB.t ?_
    | refine GuardB.f ?_
    | refine GuardB.mk (fun hb => ?_) (fun hb => ?_)
    | refine NilQ.mk (fun hb => ?_) ?_
    | refine VC.mk Nat.zero_lt_one ?_
    | refine VC.mk rfl ?_
    | refine ACall.useIs [0] (specGoodEdges_call _ ?_) rfl (.cons (.same rfl rfl) (.nil _)) rfl ?_
    | refine ACall.useIs [1] (l1Some_call _ _ ?_) rfl (.cons (.same rfl rfl) (.nil _)) rfl ?_
    | refine ACall.useIs [] (l6Node_call _) rfl (.nil _) rfl ?_
    | refine ACall.useIs [0, 1] (l7Forest_call _ _ ?_ ?_) rfl (.cons (.same rfl rfl) (.cons (.same rfl rfl) (.nil _))) rfl ?_
    | refine ACall.useIs [0, 1] (l7Path_call l s ?_ ?_ ?_ b 9 _ _ 0 ?_ ?_) rfl (.cons (.same rfl rfl) (.cons (.same rfl rfl) (.nil _))) rfl ?_
    | refine Ret.sb [0, 1, 3] rfl ?_ ?_ (.cons (.same rfl rfl) (.cons (.same rfl rfl) (.cons (.arr rfl ?_) (.nil _)))) rfl
    | refine Ret.sb [0, 1, 2] rfl ?_ ?_ (.cons (.same rfl rfl) (.cons (.same rfl rfl) (.cons (.arr rfl ?_) (.nil _)))) rfl
    | refine VC.mk ?_ ?_
  all_goals try simp only [decide_eq_true_eq, decide_eq_false_iff_not, Bool.not_eq_true', Bool.not_eq_false', cond_true, cond_false, eqB_true, eqB_false] at *
  all_goals try simp only [in64, idxAdd_zero_left, Int.toNat_natCast, fillTo_length, Int.ofNat_lt, Int.ofNat_le, Int.natCast_inj] at *
  all_goals try
    have hok : piOk l s a b = true := by simp only [piOk]; simp_all
    have hpy := pi_yes hok
    have hpl := pathR_len l s b 9 a (-1)
  all_goals try
    have hab : (0 ≤ a ∧ a ≤ 7) ∧ (0 ≤ b ∧ b ≤ 7) := by simp_all [btw_iff]
  all_goals first
    | exact hl
    | exact hs
    | assumption
    | omega
    | rfl
    | exact TrailAt.zero hab.1 (-1)
    | exact ⟨by decide, by decide⟩
    | (rw [hpy.1]; done)
    | (rw [hpy.2]; done)
    | (have hpn := pi_no (l := l) (s := s) (u := a) (b := b) (by simp only [piOk]; simp_all)
       first
       | (rw [hpn.1]; done)
       | (rw [hpn.2]; done)
       | (rw [hpn.2]; rfl))
    | (simp_all; done)

theorem implPathIn_call (l : List S3) (s : List Int) (a b : Int) (hl : l.length ≤ 1048576) (hs : s.length ≤ 1048576) : ACall Try.prog 23 [.slice ⟨0, 0, 0, 3, 0⟩ l.length, .slice ⟨1, 0, 0, 1, 0⟩ s.length, .int .i64 a, .int .i64 b] [.arr true .s3 l, .arr true .int s] (Is (.tuple [.slice ⟨2, 0, 0, 1, 0⟩ (piL l s a b).length, .bool (piB l s a b)]) [.arr true .s3 l, .arr true .int s, .arr false .int (piL l s a b)]) := by
  refine ACall.walk T Try.func23 Try.ntmps23 Try.results23 rfl rfl rfl (Is.nv _ _) ?_
  repeat' (conv => whnf); first
    | refine AWP.seq ?_
    | refine AWP.reg T rfl ?_
    | refine AWP.drw T none rfl rfl rfl ?_
    | refine AWP.dep T none rfl rfl rfl rfl ?_
    | refine AWP.block ?_
    | refine AWP.condT rfl ?_
    | refine AWP.condF rfl ?_
    | refine AWP.cond rfl (fun hb => ?_) (fun hb => ?_)
    | refine AWP.ret ?_
    | refine AWP.exit ?_
    | refine AWP.skip ?_
    | refine GuardB.t ?_
    | refine GuardB.f ?_
    | refine GuardB.mk (fun hb => ?_) (fun hb => ?_)
    | refine NilQ.mk (fun hb => ?_) ?_
    | refine VC.mk Nat.zero_lt_one ?_
    | refine VC.mk rfl ?_
    | refine ACall.useIs [0] (implGoodEdges_call _ ?_) rfl (.cons (.same rfl rfl) (.nil _)) rfl ?_
    | refine ACall.useIs [1] (rise_call _ _ ?_) rfl (.cons (.same rfl rfl) (.nil _)) rfl ?_
    | refine ACall.useIs [] (isNode_call _) rfl (.nil _) rfl ?_
    | refine ACall.useIs [0, 1] (isForest_call _ _ ?_ ?_) rfl (.cons (.same rfl rfl) (.cons (.same rfl rfl) (.nil _))) rfl ?_
    | refine ACall.useIs [4, 3, 2, 6, 1, 0] (wayIn_call l s ?_ ?_ ?_ b 9 _ _ 0 ?_ ?_) rfl (.cons (.same rfl rfl) (.cons (.same rfl rfl) (.cons (.same rfl rfl) (.cons (.same rfl rfl) (.cons (.same rfl rfl) (.cons (.same rfl rfl) (.nil _))))))) rfl ?_
    | refine Ret.sb [0, 1, 7] rfl ?_ ?_ (.cons (.same rfl rfl) (.cons (.same rfl rfl) (.cons (.arr rfl ?_) (.nil _)))) rfl
    | refine Ret.sb [0, 1, 6] rfl ?_ ?_ (.cons (.same rfl rfl) (.cons (.same rfl rfl) (.cons (.arr rfl ?_) (.nil _)))) rfl
    | refine VC.mk ?_ ?_
  all_goals try simp only [decide_eq_true_eq, decide_eq_false_iff_not, Bool.not_eq_true', Bool.not_eq_false', cond_true, cond_false, eqB_true, eqB_false] at *
  all_goals try simp only [in64, idxAdd_zero_left, Int.toNat_natCast, fillTo_length, Int.ofNat_lt, Int.ofNat_le, Int.natCast_inj] at *
  all_goals try
    have hok : piOk l s a b = true := by simp only [piOk]; simp_all
    have hpy := pi_yes hok
    have hpl := pathR_len l s b 9 a (-1)
  all_goals try
    have hab : (0 ≤ a ∧ a ≤ 7) ∧ (0 ≤ b ∧ b ≤ 7) := by simp_all [btw_iff]
  all_goals first
    | exact hl
    | exact hs
    | assumption
    | omega
    | rfl
    | exact TrailAt.zero hab.1 (-1)
    | exact ⟨by decide, by decide⟩
    | (rw [hpy.1]; done)
    | (rw [hpy.2]; done)
    | (have hpn := pi_no (l := l) (s := s) (u := a) (b := b) (by simp only [piOk]; simp_all)
       first
       | (rw [hpn.1]; done)
       | (rw [hpn.2]; done)
       | (rw [hpn.2]; rfl))
    | (simp_all; done)

theorem lawPathIn_call (l : List S3) (s : List Int) (a b : Int) (hl : l.length ≤ 9223372036854775807) (hs : s.length ≤ 9223372036854775807) : ACall Try.prog 5 [.slice ⟨0, 0, 0, 3, 0⟩ l.length, .slice ⟨1, 0, 0, 1, 0⟩ s.length, .int .i64 a, .int .i64 b] [.arr true .s3 l, .arr true .int s] (Is (.bool true) [.arr true .s3 l, .arr true .int s]) := by
  refine ACall.walk T Try.func5 Try.ntmps5 Try.results5 rfl rfl rfl (Is.nv _ _) ?_
  repeat' (conv => whnf); first
    | refine AWP.seq ?_
    | refine AWP.reg T rfl ?_
    | refine AWP.drw T none rfl rfl rfl ?_
    | refine AWP.dep T none rfl rfl rfl rfl ?_
    | refine AWP.block ?_
    | refine AWP.condT rfl ?_
    | refine AWP.condF rfl ?_
    | refine AWP.cond rfl (fun hb => ?_) (fun hb => ?_)
    | refine AWP.ret ?_
    | refine AWP.exit ?_
    | refine AWP.skip ?_
    | refine GuardB.t ?_
    | refine GuardB.f ?_
    | refine GuardB.mk (fun hb => ?_) (fun hb => ?_)
    | refine NilQ.mk (fun hb => ?_) ?_
    | refine VC.mk Nat.zero_lt_one ?_
    | refine VC.mk rfl ?_
    | refine ACall.useIs [0] (szEdgeS_call _ _ ?_ ?_) rfl (.cons (.same rfl rfl) (.nil _)) rfl ?_
    | refine ACall.useIs [0] (toEdgeS_call _ ?_) rfl (.cons (.same rfl rfl) (.nil _)) rfl ?_
    | refine ACall.useIs [1] (toIntS_call _ ?_) rfl (.cons (.same rfl rfl) (.nil _)) rfl ?_
    | refine ACall.useIs [2, 3] (specPathIn_call _ _ _ _ ?_ ?_) rfl (.cons (.ro rfl rfl) (.cons (.ro rfl rfl) (.nil _))) rfl ?_
    | refine ACall.useIs [5, 6] (implPathIn_call _ _ _ _ ?_ ?_) rfl (.cons (.ro rfl rfl) (.cons (.ro rfl rfl) (.nil _))) rfl ?_
    | refine ACall.useIs [10, 11] (implPathIn_call _ _ _ _ ?_ ?_) rfl (.cons (.ro rfl rfl) (.cons (.ro rfl rfl) (.nil _))) rfl ?_
    | refine ACall.useIs [7, 4] (eqIntS_call _ _ ?_) rfl (.cons (.ro rfl rfl) (.cons (.ro rfl rfl) (.nil _))) rfl ?_
    | refine ACall.useIs [5, 8] (eqEdgeS_call _ _ ?_) rfl (.cons (.ro rfl rfl) (.cons (.ro rfl rfl) (.nil _))) rfl ?_
    | refine ACall.useIs [6, 9] (eqIntS_call _ _ ?_) rfl (.cons (.ro rfl rfl) (.cons (.ro rfl rfl) (.nil _))) rfl ?_
    | refine ACall.useIs [12, 4] (eqIntS_call _ _ ?_) rfl (.cons (.ro rfl rfl) (.cons (.ro rfl rfl) (.nil _))) rfl ?_
    | refine ACall.useIs [5] (markEdgeS_call _ _ ?_ ?_) rfl (.cons (.same rfl rfl) (.nil _)) rfl ?_
    | refine ACall.useIs [6] (markIntS_call _ _ ?_ ?_) rfl (.cons (.same rfl rfl) (.nil _)) rfl ?_
    | refine ACall.useIs [7] (markIntS_call _ _ ?_ ?_) rfl (.cons (.same rfl rfl) (.nil _)) rfl ?_
    | refine ACall.useIs [7] (heldIntS_call _ _ ?_ ?_) rfl (.cons (.ro rfl rfl) (.nil _)) rfl ?_
    | refine Ret.bool [0, 1] ?_ (.cons (.same rfl rfl) (.cons (.same rfl rfl) (.nil _))) rfl
    | refine VC.mk ?_ ?_
  all_goals try simp only [decide_eq_true_eq, decide_eq_false_iff_not, Bool.not_eq_true', Bool.not_eq_false', cond_true, cond_false, eqB_true, eqB_false] at *
  all_goals try simp only [in64, idxAdd_zero_left, Int.toNat_natCast, fillTo_length, Int.ofNat_lt, Int.ofNat_le, Int.natCast_inj] at *
  all_goals try simp only [marksI_length, marks3_length] at *
  all_goals try have hfact := piL_le l s a b
  all_goals first
    | rfl
    | omega
    | exact leftOf_ok (by assumption) (by omega)
    | (have := leftOf_ok (by assumption) (by omega : (1048576 : Int) ≤ 1048576); omega)
    | (simp_all [eqB]; done)
    | (simp_all [eqB]; omega)

end YtnfcnocoehkgoaaAM
