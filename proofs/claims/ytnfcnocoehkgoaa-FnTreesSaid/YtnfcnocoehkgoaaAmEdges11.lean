/- Contracts of functions of this seat. -/
import Derived.Test.YtnfcnocoehkgoaaAmTabEdges
import Derived.Test.YtnfcnocoehkgoaaAmModels
import Derived.Test.YtnfcnocoehkgoaaAmEdges10
set_option linter.unusedVariables false
set_option linter.unusedSimpArgs false
set_option maxRecDepth 100000
set_option maxHeartbeats 4000000
namespace YtnfcnocoehkgoaaAM
open Go Go.Proofs
attribute [local irreducible] NextOk PickOk OneOk AmongOk foldN sortI sortN goodEdges kruL kruC partsM partsOk cutOkE cutsM cutsN forB piB piL primL primC hasB leastN foundN partsN rngI

theorem kruL_F {l : List S3} (h : goodEdges l = false) : kruL l = [] ∧ kruC l = 0 ∧ primL l = [] ∧ primC l = 0 := ⟨kruL_no h, kruC_no h, by unfold primL; rw [h]; rfl, by unfold primC; rw [h]; rfl⟩
theorem part_kru {l : List S3} (hg : goodEdges l = true) : partsOk l (kruL l) = true := by unfold partsOk; rw [hg, kru_some hg]; rfl
theorem part_all {l : List S3} (hg : goodEdges l = true) : partsOk l (rngI l.length) = true := by unfold partsOk; rw [hg, allE_some]; rfl

theorem implKruF_call (l : List S3) (hl : l.length ≤ 1048576) (hg : goodEdges l = false) : ACall Try.prog 27 [.slice ⟨0, 0, 0, 3, 0⟩ l.length] [.arr true .s3 l] (Is (.tuple [.slice ⟨1, 0, 0, 1, 0⟩ 0, .int .i64 0, .bool false]) [.arr true .s3 l, .arr false .int []]) := by
  have h := implKruskal_call l hl
  rw [(kruL_F hg).1, (kruL_F hg).2.1, hg] at h
  exact h

theorem implPriT_call (l : List S3) (hl : l.length ≤ 1048576) (hg : goodEdges l = true) : ACall Try.prog 25 [.slice ⟨0, 0, 0, 3, 0⟩ l.length] [.arr true .s3 l] (Is (.tuple [.slice ⟨1, 0, 0, 1, 0⟩ (primL l).length, .int .i64 (kruC l), .bool true]) [.arr true .s3 l, .arr false .int (primL l)]) := by
  have h := implPrim_call l hl
  rw [← kru_prim hg, hg] at h
  exact h

theorem implPriF_call (l : List S3) (hl : l.length ≤ 1048576) (hg : goodEdges l = false) : ACall Try.prog 25 [.slice ⟨0, 0, 0, 3, 0⟩ l.length] [.arr true .s3 l] (Is (.tuple [.slice ⟨1, 0, 0, 1, 0⟩ 0, .int .i64 0, .bool false]) [.arr true .s3 l, .arr false .int []]) := by
  have h := implPrim_call l hl
  rw [(kruL_F hg).2.2.1, (kruL_F hg).2.2.2, hg] at h
  exact h

theorem specKruF_call (l : List S3) (hl : l.length ≤ 1048576) (hg : goodEdges l = false) : ACall Try.prog 26 [.slice ⟨0, 0, 0, 3, 0⟩ l.length] [.arr true .s3 l] (Is (.tuple [.slice ⟨1, 0, 0, 1, 0⟩ 0, .int .i64 0, .bool false]) [.arr true .s3 l, .arr false .int []]) := by
  have h := specKruskal_call l hl
  rw [(kruL_F hg).1, (kruL_F hg).2.1, hg] at h
  exact h

theorem specPriT_call (l : List S3) (hl : l.length ≤ 1048576) (hg : goodEdges l = true) : ACall Try.prog 24 [.slice ⟨0, 0, 0, 3, 0⟩ l.length] [.arr true .s3 l] (Is (.tuple [.slice ⟨1, 0, 0, 1, 0⟩ (primL l).length, .int .i64 (kruC l), .bool true]) [.arr true .s3 l, .arr false .int (primL l)]) := by
  have h := specPrim_call l hl
  rw [← kru_prim hg, hg] at h
  exact h

theorem specPriF_call (l : List S3) (hl : l.length ≤ 1048576) (hg : goodEdges l = false) : ACall Try.prog 24 [.slice ⟨0, 0, 0, 3, 0⟩ l.length] [.arr true .s3 l] (Is (.tuple [.slice ⟨1, 0, 0, 1, 0⟩ 0, .int .i64 0, .bool false]) [.arr true .s3 l, .arr false .int []]) := by
  have h := specPrim_call l hl
  rw [(kruL_F hg).2.2.1, (kruL_F hg).2.2.2, hg] at h
  exact h

theorem goodT_call (l : List S3) (hl : l.length ≤ 1048576) (hg : goodEdges l = true) : ACall Try.prog 36 [.slice ⟨0, 0, 0, 3, 0⟩ l.length] [.arr true .s3 l] (Is (.bool true) [.arr true .s3 l]) := by
  have h := implGoodEdges_call l hl
  rw [hg] at h
  exact h

theorem goodF_call (l : List S3) (hl : l.length ≤ 1048576) (hg : goodEdges l = false) : ACall Try.prog 36 [.slice ⟨0, 0, 0, 3, 0⟩ l.length] [.arr true .s3 l] (Is (.bool false) [.arr true .s3 l]) := by
  have h := implGoodEdges_call l hl
  rw [hg] at h
  exact h

theorem hasT_call (s : List Int) (x : Int) (hs : s.length ≤ 1048576) (hh : hasB s x = true) : ACall Try.prog 30 [.slice ⟨0, 0, 0, 1, 0⟩ s.length, .int .i64 x] [.arr true .int s] (Is (.bool true) [.arr true .int s]) := by
  have h := has_call s x hs
  rw [hh] at h
  exact h

theorem hasF_call (s : List Int) (x : Int) (hs : s.length ≤ 1048576) (hh : hasB s x = false) : ACall Try.prog 30 [.slice ⟨0, 0, 0, 1, 0⟩ s.length, .int .i64 x] [.arr true .int s] (Is (.bool false) [.arr true .int s]) := by
  have h := has_call s x hs
  rw [hh] at h
  exact h

theorem treePath_call (l : List S3) (hg : goodEdges l = true) (k : Nat) (hk : k < l.length) : ACall Try.prog 23 [.slice ⟨0, 0, 0, 3, 0⟩ l.length, .slice ⟨1, 0, 0, 1, 0⟩ (kruL l).length, .int .i64 (l.getD k ⟨0, 0, 0⟩).a, .int .i64 (l.getD k ⟨0, 0, 0⟩).b] [.arr true .s3 l, .arr true .int (kruL l)] (Is (.tuple [.slice ⟨2, 0, 0, 1, 0⟩ (piL l (kruL l) (l.getD k ⟨0, 0, 0⟩).a (l.getD k ⟨0, 0, 0⟩).b).length, .bool true]) [.arr true .s3 l, .arr true .int (kruL l), .arr false .int (piL l (kruL l) (l.getD k ⟨0, 0, 0⟩).a (l.getD k ⟨0, 0, 0⟩).b)]) :=
  implPathT_call l (kruL l) _ _ (by have := goodEdges_len hg; omega) (by have := kruL_le l; omega) (tree_path hg hk).1

theorem partAll_call (l : List S3) (k : Nat) (hl : l.length ≤ 1048576) (hg : goodEdges l = true) (hk : k = l.length) : ACall Try.prog 21 [.slice ⟨0, 0, 0, 3, 0⟩ l.length, .slice ⟨1, 0, 0, 1, 0⟩ k] [.arr true .s3 l, .arr true .int (rngI k)] (Is (.tuple [.slice ⟨2, 0, 0, 1, 0⟩ (partsM l (kruL l)).length, .bool true]) [.arr true .s3 l, .arr true .int (rngI k), .arr false .int (partsM l (kruL l))]) := by
  subst hk
  have h := implPartT_call l (rngI l.length) hl (by rw [rngI_length]; exact hl) (part_all hg)
  rw [rngI_length, ← kru_parts hg] at h
  exact h

theorem lawTrees_call (code : List Int) (hcode : ∀ x ∈ code, 0 ≤ x ∧ x ≤ 255) : ACall Try.prog 9 [.slice ⟨0, 0, 0, 1, 0⟩ code.length] [.arr true .byte code] (Is (.bool true) [.arr true .byte code]) := by
  refine ACall.walk T Try.func9 Try.ntmps9 Try.results9 rfl rfl rfl (Is.nv _ _) ?_
  repeat' (conv => whnf); first
    | refine AWP.seqTo (x := .seq _ (.cond (.tmp 152) _ _)) (fun _ : Unit => St.of [(3, .slice ⟨1, 0, 0, 3, 0⟩ l.length), (4, .slice ⟨2, 0, 0, 1, 0⟩ (kruL l).length)] [.arr true .byte code, .arr false .s3 l, .arr false .int (kruL l)]) (fun _ => True) ?_ (fun _ _ => ?_)
    | refine ⟨(), _, trivial, Weak.of [0, 1, 2] (.cons rfl rfl (.cons rfl rfl (.cons rfl rfl (.cons rfl rfl (.cons rfl rfl .nil))))) (.cons (.same rfl rfl) (.cons (.same rfl rfl) (.cons (.same rfl rfl) (.nil _)))) rfl⟩
    | refine AWP.cond rfl (fun hb => absurd (of_decide_eq_true hb) (by omega)) (fun hb => ?_)
    | refine AWP.seq ?_
    | refine AWP.reg T rfl ?_
    | refine AWP.drw T none rfl rfl rfl ?_
    | refine AWP.dep T none rfl rfl rfl rfl ?_
    | refine AWP.block ?_
    | refine AWP.condT rfl ?_
    | refine AWP.condF rfl ?_
    | refine AWP.cond rfl (fun hb => ?_) (fun hb => ?_)
    | refine AWP.ret ?_
    | refine AWP.exit ?_
    | refine AWP.skip ?_
    | refine GuardB.t ?_
    | refine GuardB.f ?_
    | refine GuardB.mk (fun hb => ?_) (fun hb => ?_)
    | refine NilQ.mk (fun hb => ?_) ?_
    | refine VC.mk Nat.zero_lt_one ?_
    | refine VC.mk rfl ?_
    | refine ACall.useEx [0] (drawKruskal_call code hcode) rfl (.cons (.same rfl rfl) (.nil _)) rfl (fun l hll => boolSplit (goodEdges l) (fun hg => ?_) (fun hg => ?_))
    | refine ACall.useIs [1] (implKruT_call l ?_ hg) rfl (.cons (.ro rfl rfl) (.nil _)) rfl ?_
    | refine ACall.useIs [1] (implKruF_call l ?_ hg) rfl (.cons (.ro rfl rfl) (.nil _)) rfl ?_
    | refine ACall.useIs [1] (implPriT_call l ?_ hg) rfl (.cons (.ro rfl rfl) (.nil _)) rfl ?_
    | refine ACall.useIs [1] (implPriF_call l ?_ hg) rfl (.cons (.ro rfl rfl) (.nil _)) rfl ?_
    | refine ACall.useIs [1] (specKruT_call l ?_ hg) rfl (.cons (.ro rfl rfl) (.nil _)) rfl ?_
    | refine ACall.useIs [1] (specKruF_call l ?_ hg) rfl (.cons (.ro rfl rfl) (.nil _)) rfl ?_
    | refine ACall.useIs [1] (specPriT_call l ?_ hg) rfl (.cons (.ro rfl rfl) (.nil _)) rfl ?_
    | refine ACall.useIs [1] (specPriF_call l ?_ hg) rfl (.cons (.ro rfl rfl) (.nil _)) rfl ?_
    | refine ACall.useIs [1] (goodT_call l ?_ hg) rfl (.cons (.ro rfl rfl) (.nil _)) rfl ?_
    | refine ACall.useIs [1] (goodF_call l ?_ hg) rfl (.cons (.ro rfl rfl) (.nil _)) rfl ?_
    | refine ACall.useIs [2, 3] (sameE_call _ _ _ _ ?_ ?_ ?_ ?_) rfl (.cons (.ro rfl rfl) (.cons (.ro rfl rfl) (.nil _))) rfl ?_
    | refine ACall.useIs [4, 5] (sameE_call _ _ _ _ ?_ ?_ ?_ ?_) rfl (.cons (.ro rfl rfl) (.cons (.ro rfl rfl) (.nil _))) rfl ?_
    | refine AWP.while (ι := Nat) (fun j => St.of [(3, .slice ⟨1, 0, 0, 3, 0⟩ l.length), (4, .slice ⟨2, 0, 0, 1, 0⟩ (kruL l).length), (153, .slice ⟨1, 0, 0, 3, 0⟩ l.length), (154, .int .i64 l.length), (155, .int .i64 k), (25, .ptr ⟨3, 0, 0, 3, 0⟩), (180, .slice ⟨4, 0, 0, 1, 0⟩ (piL l (kruL l) (l.getD k ⟨0, 0, 0⟩).a (l.getD k ⟨0, 0, 0⟩).b).length), (181, .int .i64 (piL l (kruL l) (l.getD k ⟨0, 0, 0⟩).a (l.getD k ⟨0, 0, 0⟩).b).length), (182, .int .i64 j)] [.arr true .byte code, .arr false .s3 l, .arr false .int (kruL l), .arr false (.raw 3) [[.int .i64 (l.getD k ⟨0, 0, 0⟩).a, .int .i64 (l.getD k ⟨0, 0, 0⟩).b, .int .i64 (l.getD k ⟨0, 0, 0⟩).c]], .arr false .int (piL l (kruL l) (l.getD k ⟨0, 0, 0⟩).a (l.getD k ⟨0, 0, 0⟩).b)]) (fun j => j ≤ (piL l (kruL l) (l.getD k ⟨0, 0, 0⟩).a (l.getD k ⟨0, 0, 0⟩).b).length) (fun j => (piL l (kruL l) (l.getD k ⟨0, 0, 0⟩).a (l.getD k ⟨0, 0, 0⟩).b).length - j) 0 (Nat.zero_le _)
        (Weak.of [0, 1, 2, 3, 4] (.cons rfl rfl (.cons rfl rfl (.cons rfl rfl (.cons rfl rfl (.cons rfl rfl (.cons rfl rfl (.cons rfl rfl (.cons rfl rfl (.cons rfl rfl .nil))))))))) (.cons (.same rfl rfl) (.cons (.same rfl rfl) (.cons (.same rfl rfl) (.cons (.same rfl rfl) (.cons (.same rfl rfl) (.nil _)))))) rfl) (fun j hj => ?_)
    | refine AWP.while (ι := Nat) (fun k => St.of [(3, .slice ⟨1, 0, 0, 3, 0⟩ l.length), (4, .slice ⟨2, 0, 0, 1, 0⟩ (kruL l).length), (5, .int .i64 (kruC l)), (11, .int .i64 (kruC l)), (6, .bool true), (16, .slice ⟨3, 0, 0, 1, 0⟩ k), (100, .slice ⟨1, 0, 0, 3, 0⟩ l.length), (101, .int .i64 l.length), (102, .int .i64 k)] [.arr true .byte code, .arr false .s3 l, .arr false .int (kruL l), .arr false .int (rngI k)]) (fun k => k ≤ l.length) (fun k => l.length - k) 0 (Nat.zero_le _)
        (Weak.of [0, 1, 2, 6] (.cons rfl rfl (.cons rfl rfl (.cons rfl rfl (.cons rfl rfl (.cons rfl rfl (.s rfl ?_ rfl (.cons rfl rfl (.cons rfl rfl (.cons rfl rfl .nil))))))))) (.cons (.same rfl rfl) (.cons (.same rfl rfl) (.cons (.same rfl rfl) (.cons (.arr rfl ?_) (.nil _))))) rfl) (fun k hk => ?_)
    | refine ⟨(), _, trivial, Weak.of [0, 1, 2] (.cons rfl rfl (.cons rfl rfl .nil)) (.cons (.same rfl rfl) (.cons (.same rfl rfl) (.cons (.same rfl rfl) (.nil _)))) rfl⟩
    | refine AWP.while (ι := Nat) (fun k => St.of [(3, .slice ⟨1, 0, 0, 3, 0⟩ l.length), (4, .slice ⟨2, 0, 0, 1, 0⟩ (kruL l).length), (153, .slice ⟨1, 0, 0, 3, 0⟩ l.length), (154, .int .i64 l.length), (155, .int .i64 k)] [.arr true .byte code, .arr false .s3 l, .arr false .int (kruL l)]) (fun k => k ≤ l.length) (fun k => l.length - k) 0 (Nat.zero_le _)
        (Weak.of [0, 1, 2] (.cons rfl rfl (.cons rfl rfl (.cons rfl rfl (.cons rfl rfl (.cons rfl rfl .nil))))) (.cons (.same rfl rfl) (.cons (.same rfl rfl) (.cons (.same rfl rfl) (.nil _)))) rfl) (fun k hk => ?_)
    | refine ACall.useIs [1, 2] (implPartT_call l (kruL l) ?_ ?_ (part_kru hg)) rfl (.cons (.ro rfl rfl) (.cons (.ro rfl rfl) (.nil _))) rfl ?_
    | refine ACall.useIs [1, 3] (partAll_call l k ?_ hg ?_) rfl (.cons (.ro rfl rfl) (.cons (.ro rfl rfl) (.nil _))) rfl ?_
    | refine ACall.useIs [1, 2] (implForTt_call l (kruL l) ?_ ?_ (part_kru hg) (kru_for hg)) rfl (.cons (.ro rfl rfl) (.cons (.ro rfl rfl) (.nil _))) rfl ?_
    | refine ACall.useIs [4, 5] (sameE_call _ _ _ _ ?_ ?_ ?_ ?_) rfl (.cons (.ro rfl rfl) (.cons (.ro rfl rfl) (.nil _))) rfl ?_
    | refine ACall.useIs [2] (has_call _ _ ?_) rfl (.cons (.ro rfl rfl) (.nil _)) rfl ?_
    | refine ACall.useIs [1, 2] (treePath_call l hg k ?_) rfl (.cons (.ro rfl rfl) (.cons (.ro rfl rfl) (.nil _))) rfl ?_
    | refine roundEnd (j + 1) ?_ ?_ (Weak.of [0, 1, 2, 3, 4] (.cons rfl rfl (.cons rfl rfl (.cons rfl rfl (.cons rfl rfl (.cons rfl rfl (.cons rfl rfl (.cons rfl rfl (.cons rfl rfl (.cons rfl rfl .nil))))))))) (.cons (.same rfl rfl) (.cons (.same rfl rfl) (.cons (.same rfl rfl) (.cons (.same rfl rfl) (.cons (.same rfl rfl) (.nil _)))))) rfl)
    | refine roundEnd (k + 1) ?_ ?_ (Weak.of [0, 1, 2, 5] (.cons rfl rfl (.cons rfl rfl (.cons rfl rfl (.cons rfl rfl (.cons rfl rfl (.s rfl ?_ rfl (.cons rfl rfl (.cons rfl rfl (.cons rfl rfl .nil))))))))) (.cons (.same rfl rfl) (.cons (.same rfl rfl) (.cons (.same rfl rfl) (.cons (.arr rfl ?_) (.nil _))))) rfl)
    | refine roundEnd (k + 1) ?_ ?_ (Weak.of [0, 1, 2] (.cons rfl rfl (.cons rfl rfl (.cons rfl rfl (.cons rfl rfl (.cons rfl rfl .nil))))) (.cons (.same rfl rfl) (.cons (.same rfl rfl) (.cons (.same rfl rfl) (.nil _)))) rfl)
    | refine Ret.bool [0] ?_ (.cons (.same rfl rfl) (.nil _)) rfl
    | refine VC.mk ?_ ?_
  all_goals try simp only [decide_eq_true_eq, decide_eq_false_iff_not, Bool.not_eq_true', Bool.not_eq_false', cond_true, cond_false, eqB_true, eqB_false] at *
  all_goals try simp only [in64, idxAdd_zero_left, Int.toNat_natCast, fillTo_length, Int.ofNat_lt, Int.ofNat_le, Int.natCast_inj] at *
  all_goals try have hlr := goodEdges_len hg
  all_goals try have hkl := kruL_le l
  all_goals try have htp := tree_path hg (k := k) (by omega)
  all_goals try have hp9 := piL_le l (kruL l) (l.getD k ⟨0, 0, 0⟩).a (l.getD k ⟨0, 0, 0⟩).b
  all_goals try have htj := htp.2.2 j (by omega)
  all_goals first
    | omega
    | exact ⟨by omega, by omega⟩
    | exact Eq.refl true
    | exact List.length_nil.symm
    | exact rngI_zero
    | exact rng_more _
    | (refine ⟨?_, ?_, ?_⟩ <;> first | omega | (simp; done) | (simp; omega))
    | (have := primL_le (l := l); omega)
    | (have := partsM_le l (kruL l); omega)
    | exact htp.2.2 j (by omega)
    | (exfalso; omega)
    | (exfalso; simp_all; done)

end YtnfcnocoehkgoaaAM
