/- Contracts of functions of this seat. -/
import Derived.Test.YtafalojjbghlhaaAmTabLinks
import Derived.Test.YtafalojjbghlhaaAmModels
import Derived.Test.YtafalojjbghlhaaAmLinks8
set_option linter.unusedVariables false
set_option linter.unusedSimpArgs false
set_option maxRecDepth 100000
set_option maxHeartbeats 4000000
namespace YtafalojjbghlhaaAM
open Go Go.Proofs
attribute [local irreducible] NextOk PickOk OneOk AmongOk foldN sortI sortN goodLinks linkAsk waL waV fcL rbL rbOk rcM apartB fewB isWay wayOk hasB someB numN

section
variable {l : List S2} {f t : Int}
theorem ways_at (ha : linkAsk l f t = true) {k : Nat} (hk : k < waV l f t) : isWay l f t ((waL l f t).getD k []) = true := by
  have hlen := waL_len ha
  rw [getD_get (by omega)]
  exact (wa_all ha (waV l f t) (Nat.le_refl _)).1 _ (by rw [← waL_eq ha]; exact List.getElem_mem _)
theorem ways_row (ha : linkAsk l f t = true) (k : Nat) : ((waL l f t).getD k []).length ≤ 20 := by
  rcases Nat.lt_or_ge k (waV l f t) with c | c
  · exact way_len (ways_at ha c)
  · rw [List.getD_eq_getElem?_getD, List.getElem?_eq_none (by rw [waL_len ha]; exact c)]; simp
theorem ways_few (ha : linkAsk l f t = true) : fewB (waL l f t) = true := by
  have hlen := waL_len ha
  have hV := waV_le ha
  unfold fewB
  rw [decide_eq_true (by omega), Bool.true_and, List.all_eq_true]
  intro w hw
  obtain ⟨k, hk, rfl⟩ := List.getElem_of_mem hw
  have := ways_row ha k
  rw [getD_get hk] at this
  simpa using this
theorem ways_nodup (ha : linkAsk l f t = true) : (waL l f t).flatten.Nodup := by rw [waL_eq ha]; exact (wa_all ha _ (Nat.le_refl _)).2.1
theorem fcL_eq (ha : linkAsk l f t = true) : fcL l f t = fcN l (sideM (pipesOf l) f t) l.length := by unfold fcL; rw [if_pos ha]
theorem cut_part (ha : linkAsk l f t = true) {s : List Int} (h : s.Sublist (fcL l f t)) : rbOk l f s = true := by
  obtain ⟨hg, hf, _⟩ := linkAsk_spec ha
  unfold rbOk
  rw [hg, btw_iff.2 hf, Bool.true_and, Bool.true_and]
  rw [fcL_eq ha] at h
  exact some_mem ((fc_rise _ _).sublist h) fun x hx => by obtain ⟨j, h1, h2, _⟩ := (fc_mem _).1 (h.subset hx); omega
def fewN (l : List S2) (f t : Int) (i k : Nat) : List Int := ((fcL l f t).take k).eraseIdx i
theorem few_zero (i : Nat) : fewN l f t i 0 = [] := by unfold fewN; simp
theorem few_next (ha : linkAsk l f t = true) {i k : Nat} (hk : k < waV l f t) (h : k ≠ i) : fewN l f t i (k + 1) = fewN l f t i k ++ [(fcL l f t).getD k 0] := erase_next (by rw [(cut_end ha).len]; exact hk) h
theorem few_skip (ha : linkAsk l f t = true) {i k : Nat} (hk : k < waV l f t) (h : k = i) : fewN l f t i (k + 1) = fewN l f t i k := by subst h; exact erase_skip (by rw [(cut_end ha).len]; exact hk)
theorem few_le (i k : Nat) : (fewN l f t i k).length ≤ 20 := by
  have h1 := fcL_le l f t
  have h2 := List.length_eraseIdx_le ((fcL l f t).take k) i
  rw [List.length_take] at h2
  unfold fewN
  omega
theorem few_ok (ha : linkAsk l f t = true) (i k : Nat) : rbOk l f (fewN l f t i k) = true := cut_part ha ((List.eraseIdx_sublist _ _).trans (List.take_sublist _ _))
theorem few_reach (ha : linkAsk l f t = true) {i k : Nat} (hi : i < waV l f t) (hk : ¬ k < waV l f t) : hasB (rcM l (fewN l f t i k) f) t = true := by
  refine hasB_iff.2 (fewer_reach ha ?_)
  have hl := (cut_end ha).len
  unfold fewN
  rw [List.take_of_length_le (by omega), List.length_eraseIdx_of_lt (by omega)]
  omega
theorem rcm_cut (ha : linkAsk l f t = true) : (rcM l (fcL l f t) f).length ≤ 8 := by
  have h1 := rbL_le l f (fcL l f t)
  rwa [rb_yes (cut_part ha (List.Sublist.refl _))] at h1
theorem rcm_few (ha : linkAsk l f t = true) (i k : Nat) : (rcM l (fewN l f t i k) f).length ≤ 8 := by
  have h1 := rbL_le l f (fewN l f t i k)
  rwa [rb_yes (few_ok ha i k)] at h1
theorem small_nil (ha : linkAsk l f t = false) : SmallR [] := by
  have h1 := waL_small l f t
  rwa [waL_no ha] at h1
def metB (c w : List Int) (j : Nat) : Bool := (w.take j).any (hasB c)
theorem met_zero (c w : List Int) : metB c w 0 = false := rfl
theorem met_succ {c w : List Int} {j : Nat} (h : j < w.length) : metB c w (j + 1) = (metB c w j || hasB c (w.getD j 0)) := by
  unfold metB
  rw [List.take_succ_eq_append_getElem h, List.any_append, getD_get h]
  simp
theorem met_all (ha : linkAsk l f t = true) {k j : Nat} (hk : k < waV l f t) (hj : ¬ j < ((waL l f t).getD k []).length) : metB (fcL l f t) ((waL l f t).getD k []) j = true := by
  obtain ⟨x, h1, h2⟩ := (cut_end ha).meet _ (ways_at ha hk)
  unfold metB
  rw [List.take_of_length_le (by omega), List.any_eq_true]
  exact ⟨x, h1, hasB_iff.2 h2⟩
theorem tmodV {x : Int} {V : Nat} (hx : 0 ≤ x) (hV : 0 < V) : 0 ≤ x.tmod (V : Int) ∧ x.tmod (V : Int) < V := by
  rw [Int.tmod_eq_emod_of_nonneg hx]
  exact ⟨Int.emod_nonneg _ (by omega), Int.emod_lt_of_pos _ (by omega)⟩
theorem sub_app9 (a : List Int) (x : Int) : sub a 0 a.length ++ sub [x] 0 1 = a ++ [x] := by simp [sub]
end
attribute [local irreducible] fewN metB

theorem lawMenger_call (code more : List Int) (hcode : ∀ x ∈ code, 0 ≤ x ∧ x ≤ 255) (hmore : ∀ x ∈ more, 0 ≤ x ∧ x ≤ 255) (hm : more.length ≤ 9223372036854775807) : ACall Try.prog 9 [.slice ⟨0, 0, 0, 1, 0⟩ code.length, .slice ⟨1, 0, 0, 1, 0⟩ more.length] [.arr true .byte code, .arr true .byte more] (Is (.bool true) [.arr true .byte code, .arr true .byte more]) := by
  refine ACall.walk T Try.func9 Try.ntmps9 Try.results9 rfl rfl rfl (Is.nv _ _) ?_
  repeat' (conv => whnf); first
    | refine AWP.regX (id := 1) T 4 rfl ?_
    | refine AWP.cond rfl (fun hb => absurd (of_decide_eq_true hb) (by omega)) (fun hb => ?_)
    | refine AWP.seq ?_
    | refine AWP.reg T rfl ?_
    | refine AWP.drw T none rfl rfl rfl ?_
    | refine AWP.dep T none rfl rfl rfl rfl ?_
    | refine AWP.block ?_
    | refine AWP.condT rfl ?_
    | refine AWP.condF rfl ?_
    | refine AWP.cond rfl (fun hb => ?_) (fun hb => ?_)
    | refine AWP.ret ?_
    | refine AWP.exit ?_
    | refine AWP.skip ?_
    | refine GuardB.t ?_
    | refine GuardB.f ?_
    | refine GuardB.mk (fun hb => ?_) (fun hb => ?_)
    | refine NilQ.mk (fun hb => ?_) ?_
    | refine VC.mk Nat.zero_lt_one ?_
    | refine VC.mk rfl ?_
    | refine ACall.useEx3 [0] (drawWays_call code hcode) rfl (.cons (.same rfl rfl) (.nil _)) rfl (fun l f t hl => boolSplit (linkAsk l f t) (fun ha => ?_) (fun ha => ?_))
    | refine ACall.useIs [2] (implWaysT_call l f t ha ?_) rfl (.cons (.ro rfl rfl) (.nil _)) rfl ?_
    | refine ACall.useIs [2] (implCutT_call l f t ha ?_) rfl (.cons (.ro rfl rfl) (.nil _)) rfl ?_
    | refine ACall.useIs [2] (implWaysF_call l f t ha ?_) rfl (.cons (.ro rfl rfl) (.nil _)) rfl ?_
    | refine ACall.useIs [2] (implCutF_call l f t ha ?_) rfl (.cons (.ro rfl rfl) (.nil _)) rfl ?_
    | refine ACall.useIs [2] (specWaysT_call l f t ha ?_) rfl (.cons (.ro rfl rfl) (.nil _)) rfl ?_
    | refine ACall.useIs [2] (specCutT_call l f t ha ?_) rfl (.cons (.ro rfl rfl) (.nil _)) rfl ?_
    | refine ACall.useIs [2] (specWaysF_call l f t ha ?_) rfl (.cons (.ro rfl rfl) (.nil _)) rfl ?_
    | refine ACall.useIs [2] (specCutF_call l f t ha ?_) rfl (.cons (.ro rfl rfl) (.nil _)) rfl ?_
    | refine ACall.useIs [3, 4] (sameListsE_call _ _ _ _ ?_ ?_ ?_ ?_) rfl (.cons (.ro rfl rfl) (.cons (.ro rfl rfl) (.nil _))) rfl ?_
    | refine ACall.useIs [5, 6] (sameIntsE_call _ _ _ _ ?_ ?_ ?_ ?_) rfl (.cons (.ro rfl rfl) (.cons (.ro rfl rfl) (.nil _))) rfl ?_
    | refine ACall.useIs [2] (implGoodLinks_call l ?_) rfl (.cons (.ro rfl rfl) (.nil _)) rfl ?_
    | refine ACall.useIs [2] (specGoodLinks_call l ?_) rfl (.cons (.ro rfl rfl) (.nil _)) rfl ?_
    | refine AWP.while (ι := Nat) (fun j => St.of [(1, .slice ⟨1, 0, 0, 1, 0⟩ more.length), (5, .slice ⟨2, 0, 0, 2, 0⟩ l.length), (6, .int .i64 f), (7, .int .i64 t), (8, .slice ⟨3, 0, 0, 1, 0⟩ (waV l f t)), (12, .slice ⟨4, 0, 0, 1, 0⟩ (waV l f t)), (104, .slice ⟨3, 0, 0, 1, 0⟩ (waV l f t)), (105, .int .i64 ((waV l f t) : Nat)), (106, .int .i64 k), (17, .slice ⟨3, k + 1, 0, 1, 0⟩ ((waL l f t).getD k []).length), (20, .bool (metB (fcL l f t) ((waL l f t).getD k []) j)), (124, .slice ⟨3, k + 1, 0, 1, 0⟩ ((waL l f t).getD k []).length), (125, .int .i64 ((waL l f t).getD k []).length), (126, .int .i64 j)] [.arr true .byte code, .arr true .byte more, .arr true .s2 l, .rows true (waL l f t), .arr true .int (fcL l f t)]) (fun j => j ≤ ((waL l f t).getD k []).length) (fun j => ((waL l f t).getD k []).length - j) 0 (Nat.zero_le _)
        (Weak.of [0, 1, 2, 3, 4] (.cons rfl rfl (.cons rfl rfl (.cons rfl rfl (.cons rfl rfl (.cons rfl rfl (.cons rfl rfl (.cons rfl rfl (.cons rfl rfl (.cons rfl rfl (.cons rfl rfl (.b rfl ?_ (.cons rfl rfl (.cons rfl rfl (.cons rfl rfl .nil)))))))))))))) (.cons (.same rfl rfl) (.cons (.same rfl rfl) (.cons (.same rfl rfl) (.cons (.same rfl rfl) (.cons (.same rfl rfl) (.nil _)))))) rfl) (fun j hj => ?_)
    | refine AWP.while (ι := Nat) (fun k => St.of [(1, .slice ⟨1, 0, 0, 1, 0⟩ more.length), (5, .slice ⟨2, 0, 0, 2, 0⟩ l.length), (6, .int .i64 f), (7, .int .i64 t), (8, .slice ⟨3, 0, 0, 1, 0⟩ (waV l f t)), (12, .slice ⟨4, 0, 0, 1, 0⟩ (waV l f t)), (104, .slice ⟨3, 0, 0, 1, 0⟩ (waV l f t)), (105, .int .i64 ((waV l f t) : Nat)), (106, .int .i64 k)] [.arr true .byte code, .arr true .byte more, .arr true .s2 l, .rows true (waL l f t), .arr true .int (fcL l f t)]) (fun k => k ≤ waV l f t) (fun k => waV l f t - k) 0 (Nat.zero_le _)
        (Weak.of [0, 1, 2, 3, 5] (.cons rfl rfl (.cons rfl rfl (.cons rfl rfl (.cons rfl rfl (.cons rfl rfl (.cons rfl rfl (.cons rfl rfl (.cons rfl rfl (.cons rfl rfl .nil))))))))) (.cons (.same rfl rfl) (.cons (.same rfl rfl) (.cons (.ro rfl rfl) (.cons (.ro rfl rfl) (.cons (.ro rfl rfl) (.nil _)))))) rfl) (fun k hk => ?_)
    | refine AWP.while (ι := Nat) (fun k => St.of [(1, .slice ⟨1, 0, 0, 1, 0⟩ more.length), (5, .slice ⟨2, 0, 0, 2, 0⟩ l.length), (6, .int .i64 f), (7, .int .i64 t), (12, .slice ⟨4, 0, 0, 1, 0⟩ (waV l f t)), (27, .slice ⟨5, 0, 0, 1, 0⟩ (fewN l f t ((numN more more.length).tmod (waV l f t : Int)).toNat k).length), (177, .slice ⟨4, 0, 0, 1, 0⟩ (waV l f t)), (178, .int .i64 ((waV l f t) : Nat)), (179, .int .i64 k)] [.arr true .byte code, .arr true .byte more, .arr true .s2 l, .rows true (waL l f t), .arr true .int (fcL l f t), .arr false .int (fewN l f t ((numN more more.length).tmod (waV l f t : Int)).toNat k)]) (fun k => k ≤ waV l f t) (fun k => waV l f t - k) 0 (Nat.zero_le _)
        (Weak.of [0, 1, 2, 3, 4, 6] (.cons rfl rfl (.cons rfl rfl (.cons rfl rfl (.cons rfl rfl (.cons rfl rfl (.s rfl ?_ rfl (.cons rfl rfl (.cons rfl rfl (.cons rfl rfl .nil))))))))) (.cons (.same rfl rfl) (.cons (.same rfl rfl) (.cons (.same rfl rfl) (.cons (.same rfl rfl) (.cons (.same rfl rfl) (.cons (.arr rfl ?_) (.nil _))))))) rfl) (fun k hk => ?_)
    | refine ACall.row3 (id := 3) rfl ?_
    | refine ACall.useIs [2, 5] (isWayT_call l f t _ _ rfl ?_ ?_ ?_) rfl (.cons (.same rfl rfl) (.cons (.same rfl rfl) (.nil _))) rfl ?_
    | refine ACall.useIs [4] (hasN_call _ _ _ ?_ ?_) rfl (.cons (.same rfl rfl) (.nil _)) rfl ?_
    | refine roundEnd (j + 1) ?_ ?_ (Weak.of [0, 1, 2, 3, 4] (.cons rfl rfl (.cons rfl rfl (.cons rfl rfl (.cons rfl rfl (.cons rfl rfl (.cons rfl rfl (.cons rfl rfl (.cons rfl rfl (.cons rfl rfl (.cons rfl rfl (.b rfl ?_ (.cons rfl rfl (.cons rfl rfl (.cons rfl rfl .nil)))))))))))))) (.cons (.same rfl rfl) (.cons (.same rfl rfl) (.cons (.same rfl rfl) (.cons (.same rfl rfl) (.cons (.same rfl rfl) (.nil _)))))) rfl)
    | refine roundEnd (k + 1) ?_ ?_ (Weak.of [0, 1, 2, 3, 4] (.cons rfl rfl (.cons rfl rfl (.cons rfl rfl (.cons rfl rfl (.cons rfl rfl (.cons rfl rfl (.cons rfl rfl (.cons rfl rfl (.cons rfl rfl .nil))))))))) (.cons (.same rfl rfl) (.cons (.same rfl rfl) (.cons (.same rfl rfl) (.cons (.same rfl rfl) (.cons (.same rfl rfl) (.nil _)))))) rfl)
    | refine roundEnd (k + 1) ?_ ?_ (Weak.of [0, 1, 2, 3, 4, 7] (.cons rfl rfl (.cons rfl rfl (.cons rfl rfl (.cons rfl rfl (.cons rfl rfl (.s rfl ?_ rfl (.cons rfl rfl (.cons rfl rfl (.cons rfl rfl .nil))))))))) (.cons (.same rfl rfl) (.cons (.same rfl rfl) (.cons (.same rfl rfl) (.cons (.same rfl rfl) (.cons (.same rfl rfl) (.cons (.arr rfl ?_) (.nil _))))))) rfl)
    | refine roundEnd (k + 1) ?_ ?_ (Weak.of [0, 1, 2, 3, 4, 5] (.cons rfl rfl (.cons rfl rfl (.cons rfl rfl (.cons rfl rfl (.cons rfl rfl (.s rfl ?_ rfl (.cons rfl rfl (.cons rfl rfl (.cons rfl rfl .nil))))))))) (.cons (.same rfl rfl) (.cons (.same rfl rfl) (.cons (.same rfl rfl) (.cons (.same rfl rfl) (.cons (.same rfl rfl) (.cons (.arr rfl ?_) (.nil _))))))) rfl)
    | refine ACall.useIs [3] (apartT_call (waL l f t) _ ?_ ?_ ?_ ?_) rfl (.cons (.same rfl rfl) (.nil _)) rfl ?_
    | refine ACall.useIs [2, 4] (reachT_call l f (fcL l f t) _ ?_ ?_ ?_ ?_) rfl (.cons (.same rfl rfl) (.cons (.same rfl rfl) (.nil _))) rfl ?_
    | refine ACall.useIs [5] (hasF_call _ t _ rfl ?_ ?_) rfl (.cons (.ro rfl rfl) (.nil _)) rfl ?_
    | refine ACall.useIs [1] (number_call more hmore _ ?_ ?_) rfl (.cons (.same rfl rfl) (.nil _)) rfl ?_
    | refine ACall.useIs [2, 5] (reachT_call l f _ _ rfl (few_ok ha _ _) ?_ ?_) rfl (.cons (.same rfl rfl) (.cons (.ro rfl rfl) (.nil _))) rfl ?_
    | refine ACall.useIs [6] (hasT_call _ t _ rfl ?_ ?_) rfl (.cons (.ro rfl rfl) (.nil _)) rfl ?_
    | refine XGoal.addW (o := ⟨_, .binOp .add _ _ _ _, _, _, _, _⟩) rfl ?_
    | refine XGoal.list rfl ?_
    | refine Ret.bool [0, 1] ?_ (.cons (.same rfl rfl) (.cons (.same rfl rfl) (.nil _))) rfl
    | refine VC.mk ?_ ?_
  all_goals try simp only [decide_eq_true_eq, decide_eq_false_iff_not, Bool.not_eq_true', Bool.not_eq_false', cond_true, cond_false, eqB_true, eqB_false] at *
  all_goals try simp only [in64, idxAdd_zero_left, Int.toNat_natCast, fillTo_length, Int.ofNat_lt, Int.ofNat_le, Int.natCast_inj] at *
  all_goals try have hV := waV_le ha
  all_goals try have hcl := (cut_end ha).len
  all_goals try have hwl := waL_len ha
  all_goals try have hrk := ways_row ha k
  all_goals try
    have hnr := numN_rng hmore more.length
    have htm := tmodV (V := waV l f t) hnr.1 (by omega)
  all_goals try
    have hfl := few_le (l := l) (f := f) (t := t) ((numN more more.length).tmod (waV l f t : Int)).toNat k
  all_goals first
    | omega
    | rfl
    | exact ⟨by omega, by omega⟩
    | exact Eq.refl true
    | exact hcl.symm
    | exact hwl.symm
    | exact ways_at ha (by omega)
    | exact ways_few ha
    | exact ways_nodup ha
    | exact waL_small l f t
    | exact small_nil ha
    | exact cut_part ha (List.Sublist.refl _)
    | exact hasB_false.2 (cut_end ha).shut
    | exact few_reach ha (by omega) (by omega)
    | (have := rcm_cut ha; omega)
    | (have := rcm_few ha ((numN more more.length).tmod (waV l f t : Int)).toNat k; omega)
    | exact met_zero _ _
    | exact (met_zero _ _).symm
    | (rw [met_succ (by omega)]; simp_all; done)
    | (exfalso; have hm := met_all ha (k := k) (j := j) (by omega) (by omega); simp_all; done)
    | (refine ⟨?_, ?_, ?_⟩ <;> first | omega | (simp; done))
    | (rw [few_zero]; done)
    | (rw [few_zero]; rfl)
    | (rw [few_next ha (by omega) (by omega), sub_app9]; done)
    | (rw [few_next ha (by omega) (by omega), List.length_append]; rfl)
    | (rw [few_skip ha (by omega) (by omega)]; done)
    | (exfalso; simp at *; done)
    | (exfalso; omega)

end YtafalojjbghlhaaAM
