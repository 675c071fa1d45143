/- Contracts of functions of this seat. -/
import Derived.Test.YtcljaokjjnmioaaAmTabRoads
import Derived.Test.YtcljaokjjnmioaaAmModels
import Derived.Test.YtcljaokjjnmioaaAmRoads3
set_option linter.unusedVariables false
set_option linter.unusedSimpArgs false
set_option maxRecDepth 100000
namespace YtcljaokjjnmioaaAM
open Go Go.Proofs

theorem specReducedRoads_call (l : List S3) (hl : l.length ≤ 1048576) : ACall Try.prog 25 [.slice ⟨0, 0, 0, 3, 0⟩ l.length] [.arr true .s3 l] (Is (.tuple [.slice ⟨1, 0, 0, 3, 0⟩ (redOf l).length, .bool (fine l)]) [.arr true .s3 l, .arr false .s3 (redOf l)]) := by
  refine ACall.walk T Try.func25 Try.ntmps25 Try.results25 rfl rfl rfl (Is.nv _ _) ?_
  repeat' (conv => whnf); first
    | refine AWP.seq ?_
    | refine AWP.reg T rfl ?_
    | refine AWP.drw T none rfl rfl rfl ?_
    | refine AWP.block ?_
    | refine AWP.condT rfl ?_
    | refine AWP.condF rfl ?_
    | refine AWP.cond rfl (fun hb => ?_) (fun hb => ?_)
    | refine AWP.ret ?_
    | refine AWP.exit ?_
    | refine AWP.skip ?_
    | refine GuardB.t ?_
    | refine GuardB.f ?_
    | refine GuardB.mk (fun hb => ?_) (fun hb => ?_)
    | refine VC.mk Nat.zero_lt_one ?_
    | refine VC.mk rfl ?_
    | refine ACall.useIs [0] (l11Fine_call _ ?_) rfl (.cons (.same rfl rfl) (.nil _)) rfl ?_
    | refine ACall.useIs [0] (l11Potentials_call _ ?_) rfl (.cons (.same rfl rfl) (.nil _)) rfl ?_
    | refine AWP.while (ι := Nat) (fun k => St.of [(4, .slice ⟨1, 0, 0, 1, 0⟩ 8), (6, .slice ⟨2, 0, 0, 3, 0⟩ k), (17, .slice ⟨0, 0, 0, 3, 0⟩ l.length), (18, .int .i64 l.length), (19, .int .i64 k)] [.arr true .s3 l, .arr false .int (potOf l), .arr false .s3 ((l.take k).map (redF (potOf l)))]) (fun k => k ≤ l.length) (fun k => l.length - k) 0 (Nat.zero_le _)
        (Weak.of [0, 2, 3] (.cons rfl rfl (.cons rfl rfl (.cons rfl rfl (.cons rfl rfl (.cons rfl rfl .nil))))) (.cons (.same rfl rfl) (.cons (.arr rfl ?_) (.cons (.same rfl rfl) (.nil _)))) rfl) (fun k hk => ?_)
    | refine roundEnd (k + 1) ?_ ?_ (Weak.of [0, 1, 4] (.cons rfl rfl (.cons rfl rfl (.cons rfl rfl (.cons rfl rfl (.cons rfl rfl .nil))))) (.cons (.same rfl rfl) (.cons (.same rfl rfl) (.cons (.arr rfl ?_) (.nil _)))) rfl)
    | refine roundEnd (k + 1) ?_ ?_ (Weak.of [0, 1, 5] (.cons rfl rfl (.cons rfl rfl (.cons rfl rfl (.cons rfl rfl (.cons rfl rfl .nil))))) (.cons (.same rfl rfl) (.cons (.same rfl rfl) (.cons (.arr rfl ?_) (.nil _)))) rfl)
    | refine Ret.sb [0, 2] rfl ?_ ?_ (.cons (.same rfl rfl) (.cons (.arr rfl ?_) (.nil _))) rfl
    | refine VC.mk ?_ ?_
  all_goals try simp only [decide_eq_true_eq, decide_eq_false_iff_not, Bool.not_eq_true', Bool.not_eq_false', cond_true, cond_false, eqB_true, eqB_false] at *
  all_goals try simp only [in64, idxAdd_zero_left, Int.toNat_natCast, fillTo_length, Int.ofNat_lt, Int.ofNat_le, Int.natCast_inj] at *
  all_goals try
    have hf : fine l = true := by simp_all
    have hg := fine_good hf
    have hlr := goodRoads_len hg
    have ok := potOf_ok hf
    have hlen := ok.len
    have h2 : k < l.length := by omega
    simp only [getD_get h2] at *
    have gr := goodRoad_iff.1 (goodRoads_get hg h2)
    have lo := ok.lo l[k].a.toNat (by omega)
    have hi := ok.hi l[k].a.toNat (by omega)
    have lo2 := ok.lo l[k].b.toNat (by omega)
    have hi2 := ok.hi l[k].b.toNat (by omega)
    have hfar : Far = 1000000000 := rfl
    have hml := map_take_length (f := redF (potOf l)) hk
  all_goals first
    | omega
    | exact hl
    | exact ⟨by simp, by omega, by omega⟩
    | (simp_all; done)
    | (simp_all [redOf]; done)
    | (simp only [potOf_fine hf] at *; omega)
    | exact map_take_app h2 (by first | rfl | (simp only [redF, S3.mk.injEq, true_and]; omega))
    | (have hf : fine l = true := by simp_all
       exact (potOf_fine hf))
    | (have hf : fine l = true := by simp_all
       exact goodRoads_len (fine_good hf))
    | (have hf : fine l = true := by simp_all
       exact fine_good hf)
    | (have hf : fine l = true := by simp_all
       have e : k = l.length := by omega
       subst e
       simp [redOf, hf])
    | (refine ⟨by simp, by omega, by omega⟩)
    | exact potOf_length (by simp_all)
    | (simp; omega)

theorem implReducedRoads_call (l : List S3) (hl : l.length ≤ 1048576) : ACall Try.prog 26 [.slice ⟨0, 0, 0, 3, 0⟩ l.length] [.arr true .s3 l] (Is (.tuple [.slice ⟨1, 0, 0, 3, 0⟩ (redOf l).length, .bool (fine l)]) [.arr true .s3 l, .arr false .s3 (redOf l)]) := by
  refine ACall.walk T Try.func26 Try.ntmps26 Try.results26 rfl rfl rfl (Is.nv _ _) ?_
  repeat' (conv => whnf); first
    | refine AWP.seq ?_
    | refine AWP.reg T rfl ?_
    | refine AWP.drw T none rfl rfl rfl ?_
    | refine AWP.block ?_
    | refine AWP.condT rfl ?_
    | refine AWP.condF rfl ?_
    | refine AWP.cond rfl (fun hb => ?_) (fun hb => ?_)
    | refine AWP.ret ?_
    | refine AWP.exit ?_
    | refine AWP.skip ?_
    | refine GuardB.t ?_
    | refine GuardB.f ?_
    | refine GuardB.mk (fun hb => ?_) (fun hb => ?_)
    | refine VC.mk Nat.zero_lt_one ?_
    | refine VC.mk rfl ?_
    | refine ACall.useIs [0] (implPotentialsOf_call _ ?_) rfl (.cons (.same rfl rfl) (.nil _)) rfl ?_
    | refine AWP.while (ι := Nat) (fun k => St.of [(4, .slice ⟨1, 0, 0, 1, 0⟩ 8), (6, .slice ⟨2, 0, 0, 3, 0⟩ k), (17, .slice ⟨0, 0, 0, 3, 0⟩ l.length), (18, .int .i64 l.length), (19, .int .i64 k)] [.arr true .s3 l, .arr false .int (potOf l), .arr false .s3 ((l.take k).map (redF (potOf l)))]) (fun k => k ≤ l.length) (fun k => l.length - k) 0 (Nat.zero_le _)
        (Weak.of [0, 2, 3] (.cons rfl rfl (.cons rfl rfl (.cons rfl rfl (.cons rfl rfl (.cons rfl rfl .nil))))) (.cons (.same rfl rfl) (.cons (.same rfl rfl) (.cons (.same rfl rfl) (.nil _)))) rfl) (fun k hk => ?_)
    | refine AWP.while (ι := Nat) (fun k => St.of [(4, .slice ⟨1, 0, 0, 1, 0⟩ 8), (6, .slice ⟨2, 0, 0, 3, 0⟩ k), (17, .slice ⟨0, 0, 0, 3, 0⟩ l.length), (18, .int .i64 l.length), (19, .int .i64 k)] [.arr true .s3 l, .arr false .int (potOf l), .arr false .s3 ((l.take k).map (redF (potOf l)))]) (fun k => k ≤ l.length) (fun k => l.length - k) 0 (Nat.zero_le _)
        (Weak.of [0, 2, 3] (.s rfl ?_ rfl (.cons rfl rfl (.cons rfl rfl (.cons rfl rfl (.cons rfl rfl .nil))))) (.cons (.same rfl rfl) (.cons (.same rfl rfl) (.cons (.same rfl rfl) (.nil _)))) rfl) (fun k hk => ?_)
    | refine roundEnd (k + 1) ?_ ?_ (Weak.of [0, 1, 5] (.cons rfl rfl (.cons rfl rfl (.cons rfl rfl (.cons rfl rfl (.cons rfl rfl .nil))))) (.cons (.same rfl rfl) (.cons (.same rfl rfl) (.cons (.arr rfl ?_) (.nil _)))) rfl)
    | refine roundEnd (k + 1) ?_ ?_ (Weak.of [0, 1, 4] (.cons rfl rfl (.cons rfl rfl (.cons rfl rfl (.cons rfl rfl (.cons rfl rfl .nil))))) (.cons (.same rfl rfl) (.cons (.same rfl rfl) (.cons (.arr rfl ?_) (.nil _)))) rfl)
    | refine Ret.sb [0, 2] rfl ?_ ?_ (.cons (.same rfl rfl) (.cons (.arr rfl ?_) (.nil _))) rfl
    | refine Ret.sb [0, 3] rfl ?_ ?_ (.cons (.same rfl rfl) (.cons (.arr rfl ?_) (.nil _))) rfl
    | refine VC.mk ?_ ?_
  all_goals try simp only [decide_eq_true_eq, decide_eq_false_iff_not, Bool.not_eq_true', Bool.not_eq_false', cond_true, cond_false, eqB_true, eqB_false] at *
  all_goals try simp only [in64, idxAdd_zero_left, Int.toNat_natCast, fillTo_length, Int.ofNat_lt, Int.ofNat_le, Int.natCast_inj] at *
  all_goals try
    have hf : fine l = true := by simp_all
    have hg := fine_good hf
    have hlr := goodRoads_len hg
    have ok := potOf_ok hf
    have hlen := ok.len
    have h2 : k < l.length := by omega
    simp only [getD_get h2] at *
    have gr := goodRoad_iff.1 (goodRoads_get hg h2)
    have lo := ok.lo l[k].a.toNat (by omega)
    have hi := ok.hi l[k].a.toNat (by omega)
    have lo2 := ok.lo l[k].b.toNat (by omega)
    have hi2 := ok.hi l[k].b.toNat (by omega)
    have hfar : Far = 1000000000 := rfl
    have hml := map_take_length (f := redF (potOf l)) hk
  all_goals first
    | omega
    | exact hl
    | exact ⟨by simp, by omega, by omega⟩
    | (simp_all; done)
    | (simp_all [redOf]; done)
    | (simp only [potOf_fine hf] at *; omega)
    | exact map_take_app h2 (by first | rfl | (simp only [redF, S3.mk.injEq, true_and]; omega))
    | (have hf : fine l = true := by simp_all
       exact (potOf_fine hf))
    | (have hf : fine l = true := by simp_all
       exact goodRoads_len (fine_good hf))
    | (have hf : fine l = true := by simp_all
       exact fine_good hf)
    | (have hf : fine l = true := by simp_all
       have e : k = l.length := by omega
       subst e
       simp [redOf, hf])
    | (refine ⟨by simp, by omega, by omega⟩)
    | exact potOf_length (by simp_all)
    | (simp; omega)

theorem lawReducedRoads_call (l : List S3) (hl : l.length ≤ 9223372036854775807) : ACall Try.prog 6 [.slice ⟨0, 0, 0, 3, 0⟩ l.length] [.arr true .s3 l] (Is (.bool true) [.arr true .s3 l]) := by
  refine ACall.walk T Try.func6 Try.ntmps6 Try.results6 rfl rfl rfl (Is.nv _ _) ?_
  repeat' (conv => whnf); first
    | refine AWP.seq ?_
    | refine AWP.reg T rfl ?_
    | refine AWP.drw T none rfl rfl rfl ?_
    | refine AWP.block ?_
    | refine AWP.condT rfl ?_
    | refine AWP.condF rfl ?_
    | refine AWP.cond rfl (fun hb => ?_) (fun hb => ?_)
    | refine AWP.ret ?_
    | refine AWP.exit ?_
    | refine AWP.skip ?_
    | refine GuardB.t ?_
    | refine GuardB.f ?_
    | refine GuardB.mk (fun hb => ?_) (fun hb => ?_)
    | refine VC.mk Nat.zero_lt_one ?_
    | refine VC.mk rfl ?_
    | refine ACall.useIs [0] (szRoadS_call _ _ ?_ ?_) rfl (.cons (.same rfl rfl) (.nil _)) rfl ?_
    | refine ACall.useIs [0] (toRoadS_call _ ?_) rfl (.cons (.same rfl rfl) (.nil _)) rfl ?_
    | refine ACall.useIs [1] (specReducedRoads_call _ ?_) rfl (.cons (.ro rfl rfl) (.nil _)) rfl ?_
    | refine ACall.useIs [3] (implReducedRoads_call _ ?_) rfl (.cons (.ro rfl rfl) (.nil _)) rfl ?_
    | refine ACall.useIs [6] (implReducedRoads_call _ ?_) rfl (.cons (.ro rfl rfl) (.nil _)) rfl ?_
    | refine ACall.useIs [4, 2] (eqRoadS_call _ _ ?_) rfl (.cons (.ro rfl rfl) (.cons (.ro rfl rfl) (.nil _))) rfl ?_
    | refine ACall.useIs [7, 2] (eqRoadS_call _ _ ?_) rfl (.cons (.ro rfl rfl) (.cons (.ro rfl rfl) (.nil _))) rfl ?_
    | refine ACall.useIs [3, 5] (eqRoadS_call _ _ ?_) rfl (.cons (.ro rfl rfl) (.cons (.ro rfl rfl) (.nil _))) rfl ?_
    | refine ACall.useIs [3] (markRoadS_call _ _ ?_ ?_) rfl (.cons (.same rfl rfl) (.nil _)) rfl ?_
    | refine ACall.useIs [4] (markRoadS_call _ _ ?_ ?_) rfl (.cons (.same rfl rfl) (.nil _)) rfl ?_
    | refine ACall.useIs [4] (heldRoadS_call _ _ ?_ ?_) rfl (.cons (.ro rfl rfl) (.nil _)) rfl ?_
    | refine Ret.bool [0] ?_ (.cons (.same rfl rfl) (.nil _)) rfl
    | refine VC.mk ?_ ?_
  all_goals try simp only [decide_eq_true_eq, decide_eq_false_iff_not, Bool.not_eq_true', Bool.not_eq_false', cond_true, cond_false, eqB_true, eqB_false] at *
  all_goals try simp only [in64, idxAdd_zero_left, Int.toNat_natCast, fillTo_length, Int.ofNat_lt, Int.ofNat_le, Int.natCast_inj] at *
  all_goals try simp only [marksI_length, marks3_length] at *
  all_goals first
    | rfl
    | omega
    | (have := leftOf_ok (by assumption) (by omega : (1048576 : Int) ≤ 1048576); omega)
    | (have := redOf_le (l := l); omega)
    | (simp_all [eqB]; done)
    | (have := redOf_le (l := l); simp_all [eqB]; omega)

end YtcljaokjjnmioaaAM
