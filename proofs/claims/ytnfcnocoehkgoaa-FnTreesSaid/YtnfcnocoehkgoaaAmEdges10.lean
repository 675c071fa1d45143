/- Contracts of functions of this seat. -/
import Derived.Test.YtnfcnocoehkgoaaAmTabEdges
import Derived.Test.YtnfcnocoehkgoaaAmModels
import Derived.Test.YtnfcnocoehkgoaaAmEdges9
import Derived.Test.YtnfcnocoehkgoaaAmTreePath
import Derived.Test.YtnfcnocoehkgoaaAmDrawsX
import Derived.Test.YtnfcnocoehkgoaaAmDrawsY
set_option linter.unusedVariables false
set_option linter.unusedSimpArgs false
set_option maxRecDepth 100000
set_option maxHeartbeats 4000000
namespace YtnfcnocoehkgoaaAM
open Go Go.Proofs
attribute [local irreducible] NextOk PickOk OneOk AmongOk foldN sortI sortN goodEdges kruL kruC partsM partsOk cutOkE cutsM cutsN forB piB piL primL primC hasB leastN foundN partsN

theorem implIsForest_call (l : List S3) (s : List Int) (hl : l.length ≤ 1048576) (hs : s.length ≤ 1048576) : ACall Try.prog 32 [.slice ⟨0, 0, 0, 3, 0⟩ l.length, .slice ⟨1, 0, 0, 1, 0⟩ s.length] [.arr true .s3 l, .arr true .int s] (Is (.tuple [.bool (partsOk l s && forB l s), .bool (partsOk l s)]) [.arr true .s3 l, .arr true .int s]) := by
  refine ACall.walk T Try.func32 Try.ntmps32 Try.results32 rfl rfl rfl (Is.nv _ _) ?_
  repeat' (conv => whnf); first
    | refine AWP.seq ?_
    | refine AWP.reg T rfl ?_
    | refine AWP.drw T none rfl rfl rfl ?_
    | refine AWP.dep T none rfl rfl rfl rfl ?_
    | refine AWP.block ?_
    | refine AWP.condT rfl ?_
    | refine AWP.condF rfl ?_
    | refine AWP.cond rfl (fun hb => ?_) (fun hb => ?_)
    | refine AWP.ret ?_
    | refine AWP.exit ?_
    | refine AWP.skip ?_
    | refine GuardB.t ?_
    | refine GuardB.f ?_
    | refine GuardB.mk (fun hb => ?_) (fun hb => ?_)
    | refine NilQ.mk (fun hb => ?_) ?_
    | refine VC.mk Nat.zero_lt_one ?_
    | refine VC.mk rfl ?_
    | refine ACall.useIs [0] (implGoodEdges_call _ ?_) rfl (.cons (.same rfl rfl) (.nil _)) rfl ?_
    | refine ACall.useIs [1] (rise_call _ _ ?_) rfl (.cons (.same rfl rfl) (.nil _)) rfl ?_
    | refine ACall.useIs [0, 1] (isForest_call l s ?_ ?_) rfl (.cons (.same rfl rfl) (.cons (.same rfl rfl) (.nil _))) rfl ?_
    | refine Ret.bb [0, 1] ?_ ?_ (.cons (.same rfl rfl) (.cons (.same rfl rfl) (.nil _))) rfl
    | refine VC.mk ?_ ?_
  all_goals try simp only [decide_eq_true_eq, decide_eq_false_iff_not, Bool.not_eq_true', Bool.not_eq_false', cond_true, cond_false, eqB_true, eqB_false] at *
  all_goals try simp only [in64, idxAdd_zero_left, Int.toNat_natCast, fillTo_length, Int.ofNat_lt, Int.ofNat_le, Int.natCast_inj] at *
  all_goals first
    | exact hl
    | exact hs
    | assumption
    | (have e : partsOk l s = true := by unfold partsOk; simp_all
       rw [e]; done)
    | (have e : partsOk l s = true := by unfold partsOk; simp_all
       rw [e]; rfl)
    | (have e : partsOk l s = false := by unfold partsOk; simp_all
       rw [e]; done)
    | (have e : partsOk l s = false := by unfold partsOk; simp_all
       rw [e]; rfl)

theorem specIsForest_call (l : List S3) (s : List Int) (hl : l.length ≤ 1048576) (hs : s.length ≤ 1048576) : ACall Try.prog 33 [.slice ⟨0, 0, 0, 3, 0⟩ l.length, .slice ⟨1, 0, 0, 1, 0⟩ s.length] [.arr true .s3 l, .arr true .int s] (Is (.tuple [.bool (partsOk l s && forB l s), .bool (partsOk l s)]) [.arr true .s3 l, .arr true .int s]) := by
  refine ACall.walk T Try.func33 Try.ntmps33 Try.results33 rfl rfl rfl (Is.nv _ _) ?_
  repeat' (conv => whnf); first
    | refine AWP.seq ?_
    | refine AWP.reg T rfl ?_
    | refine AWP.drw T none rfl rfl rfl ?_
    | refine AWP.dep T none rfl rfl rfl rfl ?_
    | refine AWP.block ?_
    | refine AWP.condT rfl ?_
    | refine AWP.condF rfl ?_
    | refine AWP.cond rfl (fun hb => ?_) (fun hb => ?_)
    | refine AWP.ret ?_
    | refine AWP.exit ?_
    | refine AWP.skip ?_
    | refine GuardB.t ?_
    | refine GuardB.f ?_
    | refine GuardB.mk (fun hb => ?_) (fun hb => ?_)
    | refine NilQ.mk (fun hb => ?_) ?_
    | refine VC.mk Nat.zero_lt_one ?_
    | refine VC.mk rfl ?_
    | refine ACall.useIs [0] (specGoodEdges_call _ ?_) rfl (.cons (.same rfl rfl) (.nil _)) rfl ?_
    | refine ACall.useIs [1] (l1Some_call _ _ ?_) rfl (.cons (.same rfl rfl) (.nil _)) rfl ?_
    | refine ACall.useIs [0, 1] (l7Forest_call l s ?_ ?_) rfl (.cons (.same rfl rfl) (.cons (.same rfl rfl) (.nil _))) rfl ?_
    | refine Ret.bb [0, 1] ?_ ?_ (.cons (.same rfl rfl) (.cons (.same rfl rfl) (.nil _))) rfl
    | refine VC.mk ?_ ?_
  all_goals try simp only [decide_eq_true_eq, decide_eq_false_iff_not, Bool.not_eq_true', Bool.not_eq_false', cond_true, cond_false, eqB_true, eqB_false] at *
  all_goals try simp only [in64, idxAdd_zero_left, Int.toNat_natCast, fillTo_length, Int.ofNat_lt, Int.ofNat_le, Int.natCast_inj] at *
  all_goals first
    | exact hl
    | exact hs
    | assumption
    | (have e : partsOk l s = true := by unfold partsOk; simp_all
       rw [e]; done)
    | (have e : partsOk l s = true := by unfold partsOk; simp_all
       rw [e]; rfl)
    | (have e : partsOk l s = false := by unfold partsOk; simp_all
       rw [e]; done)
    | (have e : partsOk l s = false := by unfold partsOk; simp_all
       rw [e]; rfl)

theorem cutT {l : List S3} {s : List Int} (h : cutOkE l s = true) : cutsM l s = cutsN l s l.length := by unfold cutsM; rw [if_pos h]
theorem cutF {l : List S3} {s : List Int} (h : cutOkE l s = false) : cutsM l s = [] := by unfold cutsM; rw [h]; rfl
theorem cut_good {l : List S3} {s : List Int} (h : cutOkE l s = true) : goodEdges l = true := by unfold cutOkE at h; simp at h; exact h.1
theorem partF {l : List S3} {s : List Int} (h : partsOk l s = false) : partsM l s = [] := by unfold partsM; rw [h]; rfl
theorem pib_F {l : List S3} {s : List Int} {a b : Int} (h : piB l s a b = false) : piL l s a b = [] := by
  by_cases c : piOk l s a b = true
  · have h2 := pi_yes c
    rw [h2.2]
    exact pathR_none _ _ _ _ _ _ (h2.1.symm.trans h)
  · exact (pi_no c).2
theorem sameE_call (a b : List Int) (n m : Nat) (hn : n = a.length) (hm : m = b.length) (h : a = b) (ha : n ≤ 1048576) : ACall Try.prog 29 [.slice ⟨0, 0, 0, 1, 0⟩ n, .slice ⟨1, 0, 0, 1, 0⟩ m] [.arr true .int a, .arr true .int b] (Is (.bool true) [.arr true .int a, .arr true .int b]) := by
  subst h hn hm
  have h := sameInts_call a a ha
  rwa [show eqB a a = true by rw [eqB_true]] at h

theorem implCutT_call (l : List S3) (s : List Int) (hl : l.length ≤ 1048576) (hs : s.length ≤ 1048576) (hc : cutOkE l s = true) : ACall Try.prog 14 [.slice ⟨0, 0, 0, 3, 0⟩ l.length, .slice ⟨1, 0, 0, 1, 0⟩ s.length] [.arr true .s3 l, .arr true .int s] (Is (.tuple [.slice ⟨2, 0, 0, 1, 0⟩ (cutsN l s l.length).length, .bool true]) [.arr true .s3 l, .arr true .int s, .arr false .int (cutsN l s l.length)]) := by
  have h := implCutOf_call l s hl hs
  rw [cutT hc, hc] at h
  exact h

theorem implCutF_call (l : List S3) (s : List Int) (hl : l.length ≤ 1048576) (hs : s.length ≤ 1048576) (hc : cutOkE l s = false) : ACall Try.prog 14 [.slice ⟨0, 0, 0, 3, 0⟩ l.length, .slice ⟨1, 0, 0, 1, 0⟩ s.length] [.arr true .s3 l, .arr true .int s] (Is (.tuple [.slice ⟨2, 0, 0, 1, 0⟩ 0, .bool false]) [.arr true .s3 l, .arr true .int s, .arr false .int []]) := by
  have h := implCutOf_call l s hl hs
  rw [cutF hc, hc] at h
  exact h

theorem implPartT_call (l : List S3) (s : List Int) (hl : l.length ≤ 1048576) (hs : s.length ≤ 1048576) (hc : partsOk l s = true) : ACall Try.prog 21 [.slice ⟨0, 0, 0, 3, 0⟩ l.length, .slice ⟨1, 0, 0, 1, 0⟩ s.length] [.arr true .s3 l, .arr true .int s] (Is (.tuple [.slice ⟨2, 0, 0, 1, 0⟩ (partsM l s).length, .bool true]) [.arr true .s3 l, .arr true .int s, .arr false .int (partsM l s)]) := by
  have h := implPartsOf_call l s hl hs
  rw [hc] at h
  exact h

theorem implPartF_call (l : List S3) (s : List Int) (hl : l.length ≤ 1048576) (hs : s.length ≤ 1048576) (hc : partsOk l s = false) : ACall Try.prog 21 [.slice ⟨0, 0, 0, 3, 0⟩ l.length, .slice ⟨1, 0, 0, 1, 0⟩ s.length] [.arr true .s3 l, .arr true .int s] (Is (.tuple [.slice ⟨2, 0, 0, 1, 0⟩ 0, .bool false]) [.arr true .s3 l, .arr true .int s, .arr false .int []]) := by
  have h := implPartsOf_call l s hl hs
  rw [partF hc, hc] at h
  exact h

theorem implForTt_call (l : List S3) (s : List Int) (hl : l.length ≤ 1048576) (hs : s.length ≤ 1048576) (hc : partsOk l s = true) (hf : forB l s = true) : ACall Try.prog 32 [.slice ⟨0, 0, 0, 3, 0⟩ l.length, .slice ⟨1, 0, 0, 1, 0⟩ s.length] [.arr true .s3 l, .arr true .int s] (Is (.tuple [.bool true, .bool true]) [.arr true .s3 l, .arr true .int s]) := by
  have h := implIsForest_call l s hl hs
  rw [hc, hf, Bool.true_and] at h
  exact h

theorem implForTf_call (l : List S3) (s : List Int) (hl : l.length ≤ 1048576) (hs : s.length ≤ 1048576) (hc : partsOk l s = true) (hf : forB l s = false) : ACall Try.prog 32 [.slice ⟨0, 0, 0, 3, 0⟩ l.length, .slice ⟨1, 0, 0, 1, 0⟩ s.length] [.arr true .s3 l, .arr true .int s] (Is (.tuple [.bool false, .bool true]) [.arr true .s3 l, .arr true .int s]) := by
  have h := implIsForest_call l s hl hs
  rw [hc, hf, Bool.true_and] at h
  exact h

theorem implForF_call (l : List S3) (s : List Int) (hl : l.length ≤ 1048576) (hs : s.length ≤ 1048576) (hc : partsOk l s = false) : ACall Try.prog 32 [.slice ⟨0, 0, 0, 3, 0⟩ l.length, .slice ⟨1, 0, 0, 1, 0⟩ s.length] [.arr true .s3 l, .arr true .int s] (Is (.tuple [.bool false, .bool false]) [.arr true .s3 l, .arr true .int s]) := by
  have h := implIsForest_call l s hl hs
  rw [hc, Bool.false_and] at h
  exact h

theorem implPathT_call (l : List S3) (s : List Int) (a b : Int) (hl : l.length ≤ 1048576) (hs : s.length ≤ 1048576) (hp : piB l s a b = true) : ACall Try.prog 23 [.slice ⟨0, 0, 0, 3, 0⟩ l.length, .slice ⟨1, 0, 0, 1, 0⟩ s.length, .int .i64 a, .int .i64 b] [.arr true .s3 l, .arr true .int s] (Is (.tuple [.slice ⟨2, 0, 0, 1, 0⟩ (piL l s a b).length, .bool true]) [.arr true .s3 l, .arr true .int s, .arr false .int (piL l s a b)]) := by
  have h := implPathIn_call l s a b hl hs
  rw [hp] at h
  exact h

theorem implPathF_call (l : List S3) (s : List Int) (a b : Int) (hl : l.length ≤ 1048576) (hs : s.length ≤ 1048576) (hp : piB l s a b = false) : ACall Try.prog 23 [.slice ⟨0, 0, 0, 3, 0⟩ l.length, .slice ⟨1, 0, 0, 1, 0⟩ s.length, .int .i64 a, .int .i64 b] [.arr true .s3 l, .arr true .int s] (Is (.tuple [.slice ⟨2, 0, 0, 1, 0⟩ 0, .bool false]) [.arr true .s3 l, .arr true .int s, .arr false .int []]) := by
  have h := implPathIn_call l s a b hl hs
  rw [pib_F hp, hp] at h
  exact h

theorem implKruT_call (l : List S3) (hl : l.length ≤ 1048576) (hg : goodEdges l = true) : ACall Try.prog 27 [.slice ⟨0, 0, 0, 3, 0⟩ l.length] [.arr true .s3 l] (Is (.tuple [.slice ⟨1, 0, 0, 1, 0⟩ (kruL l).length, .int .i64 (kruC l), .bool true]) [.arr true .s3 l, .arr false .int (kruL l)]) := by
  have h := implKruskal_call l hl
  rw [hg] at h
  exact h

theorem specCutT_call (l : List S3) (s : List Int) (hl : l.length ≤ 1048576) (hs : s.length ≤ 1048576) (hc : cutOkE l s = true) : ACall Try.prog 11 [.slice ⟨0, 0, 0, 3, 0⟩ l.length, .slice ⟨1, 0, 0, 1, 0⟩ s.length] [.arr true .s3 l, .arr true .int s] (Is (.tuple [.slice ⟨2, 0, 0, 1, 0⟩ (cutsN l s l.length).length, .bool true]) [.arr true .s3 l, .arr true .int s, .arr false .int (cutsN l s l.length)]) := by
  have h := specCutOf_call l s hl hs
  rw [cutT hc, hc] at h
  exact h

theorem specCutF_call (l : List S3) (s : List Int) (hl : l.length ≤ 1048576) (hs : s.length ≤ 1048576) (hc : cutOkE l s = false) : ACall Try.prog 11 [.slice ⟨0, 0, 0, 3, 0⟩ l.length, .slice ⟨1, 0, 0, 1, 0⟩ s.length] [.arr true .s3 l, .arr true .int s] (Is (.tuple [.slice ⟨2, 0, 0, 1, 0⟩ 0, .bool false]) [.arr true .s3 l, .arr true .int s, .arr false .int []]) := by
  have h := specCutOf_call l s hl hs
  rw [cutF hc, hc] at h
  exact h

theorem specPartT_call (l : List S3) (s : List Int) (hl : l.length ≤ 1048576) (hs : s.length ≤ 1048576) (hc : partsOk l s = true) : ACall Try.prog 20 [.slice ⟨0, 0, 0, 3, 0⟩ l.length, .slice ⟨1, 0, 0, 1, 0⟩ s.length] [.arr true .s3 l, .arr true .int s] (Is (.tuple [.slice ⟨2, 0, 0, 1, 0⟩ (partsM l s).length, .bool true]) [.arr true .s3 l, .arr true .int s, .arr false .int (partsM l s)]) := by
  have h := specPartsOf_call l s hl hs
  rw [hc] at h
  exact h

theorem specPartF_call (l : List S3) (s : List Int) (hl : l.length ≤ 1048576) (hs : s.length ≤ 1048576) (hc : partsOk l s = false) : ACall Try.prog 20 [.slice ⟨0, 0, 0, 3, 0⟩ l.length, .slice ⟨1, 0, 0, 1, 0⟩ s.length] [.arr true .s3 l, .arr true .int s] (Is (.tuple [.slice ⟨2, 0, 0, 1, 0⟩ 0, .bool false]) [.arr true .s3 l, .arr true .int s, .arr false .int []]) := by
  have h := specPartsOf_call l s hl hs
  rw [partF hc, hc] at h
  exact h

theorem specForTt_call (l : List S3) (s : List Int) (hl : l.length ≤ 1048576) (hs : s.length ≤ 1048576) (hc : partsOk l s = true) (hf : forB l s = true) : ACall Try.prog 33 [.slice ⟨0, 0, 0, 3, 0⟩ l.length, .slice ⟨1, 0, 0, 1, 0⟩ s.length] [.arr true .s3 l, .arr true .int s] (Is (.tuple [.bool true, .bool true]) [.arr true .s3 l, .arr true .int s]) := by
  have h := specIsForest_call l s hl hs
  rw [hc, hf, Bool.true_and] at h
  exact h

theorem specForTf_call (l : List S3) (s : List Int) (hl : l.length ≤ 1048576) (hs : s.length ≤ 1048576) (hc : partsOk l s = true) (hf : forB l s = false) : ACall Try.prog 33 [.slice ⟨0, 0, 0, 3, 0⟩ l.length, .slice ⟨1, 0, 0, 1, 0⟩ s.length] [.arr true .s3 l, .arr true .int s] (Is (.tuple [.bool false, .bool true]) [.arr true .s3 l, .arr true .int s]) := by
  have h := specIsForest_call l s hl hs
  rw [hc, hf, Bool.true_and] at h
  exact h

theorem specForF_call (l : List S3) (s : List Int) (hl : l.length ≤ 1048576) (hs : s.length ≤ 1048576) (hc : partsOk l s = false) : ACall Try.prog 33 [.slice ⟨0, 0, 0, 3, 0⟩ l.length, .slice ⟨1, 0, 0, 1, 0⟩ s.length] [.arr true .s3 l, .arr true .int s] (Is (.tuple [.bool false, .bool false]) [.arr true .s3 l, .arr true .int s]) := by
  have h := specIsForest_call l s hl hs
  rw [hc, Bool.false_and] at h
  exact h

theorem specPathT_call (l : List S3) (s : List Int) (a b : Int) (hl : l.length ≤ 1048576) (hs : s.length ≤ 1048576) (hp : piB l s a b = true) : ACall Try.prog 22 [.slice ⟨0, 0, 0, 3, 0⟩ l.length, .slice ⟨1, 0, 0, 1, 0⟩ s.length, .int .i64 a, .int .i64 b] [.arr true .s3 l, .arr true .int s] (Is (.tuple [.slice ⟨2, 0, 0, 1, 0⟩ (piL l s a b).length, .bool true]) [.arr true .s3 l, .arr true .int s, .arr false .int (piL l s a b)]) := by
  have h := specPathIn_call l s a b hl hs
  rw [hp] at h
  exact h

theorem specPathF_call (l : List S3) (s : List Int) (a b : Int) (hl : l.length ≤ 1048576) (hs : s.length ≤ 1048576) (hp : piB l s a b = false) : ACall Try.prog 22 [.slice ⟨0, 0, 0, 3, 0⟩ l.length, .slice ⟨1, 0, 0, 1, 0⟩ s.length, .int .i64 a, .int .i64 b] [.arr true .s3 l, .arr true .int s] (Is (.tuple [.slice ⟨2, 0, 0, 1, 0⟩ 0, .bool false]) [.arr true .s3 l, .arr true .int s, .arr false .int []]) := by
  have h := specPathIn_call l s a b hl hs
  rw [pib_F hp, hp] at h
  exact h

theorem specKruT_call (l : List S3) (hl : l.length ≤ 1048576) (hg : goodEdges l = true) : ACall Try.prog 26 [.slice ⟨0, 0, 0, 3, 0⟩ l.length] [.arr true .s3 l] (Is (.tuple [.slice ⟨1, 0, 0, 1, 0⟩ (kruL l).length, .int .i64 (kruC l), .bool true]) [.arr true .s3 l, .arr false .int (kruL l)]) := by
  have h := specKruskal_call l hl
  rw [hg] at h
  exact h

theorem lawCuts_call (code more : List Int) (hcode : ∀ x ∈ code, 0 ≤ x ∧ x ≤ 255) (hmore : ∀ x ∈ more, 0 ≤ x ∧ x ≤ 255) : ACall Try.prog 8 [.slice ⟨0, 0, 0, 1, 0⟩ code.length, .slice ⟨1, 0, 0, 1, 0⟩ more.length] [.arr true .byte code, .arr true .byte more] (Is (.bool true) [.arr true .byte code, .arr true .byte more]) := by
  refine ACall.walk T Try.func8 Try.ntmps8 Try.results8 rfl rfl rfl (Is.nv _ _) ?_
  repeat' (conv => whnf); first
    | refine AWP.regX (id := 1) T 4 rfl ?_
    | refine AWP.seqTo (x := .seq _ (.cond (.tmp 75) _ _)) (fun _ : Unit => St.of [(1, .slice ⟨1, 0, 0, 1, 0⟩ more.length)] [.arr true .byte code, .arr true .byte more]) (fun _ => True) ?_ (fun _ _ => ?_)
    | refine AWP.seqTo (x := .seq _ (.cond (.tmp 183) _ _)) (fun _ : Unit => St.of [(1, .slice ⟨1, 0, 0, 1, 0⟩ more.length)] [.arr true .byte code, .arr true .byte more]) (fun _ => True) ?_ (fun _ _ => ?_)
    | refine ⟨(), _, trivial, Weak.of [0, 1] (.cons rfl rfl .nil) (.cons (.same rfl rfl) (.cons (.same rfl rfl) (.nil _))) rfl⟩
    | refine AWP.cond rfl (fun hb => absurd (of_decide_eq_true hb) (by omega)) (fun hb => ?_)
    | refine AWP.seq ?_
    | refine AWP.reg T rfl ?_
    | refine AWP.drw T none rfl rfl rfl ?_
    | refine AWP.dep T none rfl rfl rfl rfl ?_
    | refine AWP.block ?_
    | refine AWP.condT rfl ?_
    | refine AWP.condF rfl ?_
    | refine AWP.cond rfl (fun hb => ?_) (fun hb => ?_)
    | refine AWP.ret ?_
    | refine AWP.exit ?_
    | refine AWP.skip ?_
    | refine GuardB.t ?_
    | refine GuardB.f ?_
    | refine GuardB.mk (fun hb => ?_) (fun hb => ?_)
    | refine NilQ.mk (fun hb => ?_) ?_
    | refine VC.mk Nat.zero_lt_one ?_
    | refine VC.mk rfl ?_
    | refine ACall.useEx2 [0] (drawCutOf_call code hcode) rfl (.cons (.same rfl rfl) (.nil _)) rfl (fun l s hls => boolSplit (cutOkE l s) (fun hc => ?_) (fun hc => ?_))
    | refine ACall.useEx2 [1] (drawPartsOf_call more hmore) rfl (.cons (.same rfl rfl) (.nil _)) rfl (fun m t hmt => boolSplit (partsOk m t) (fun hc => boolSplit (forB m t) (fun hf => ?_) (fun hf => ?_)) (fun hc => ?_))
    | refine ACall.useEx4 [1] (drawPathIn_call more hmore) rfl (.cons (.same rfl rfl) (.nil _)) rfl (fun m t a b hmt => boolSplit (piB m t a b) (fun hp => ?_) (fun hp => ?_))
    | refine ACall.useIs [2, 3] (implCutT_call l s ?_ ?_ hc) rfl (.cons (.ro rfl rfl) (.cons (.ro rfl rfl) (.nil _))) rfl ?_
    | refine ACall.useIs [2, 3] (implCutF_call l s ?_ ?_ hc) rfl (.cons (.ro rfl rfl) (.cons (.ro rfl rfl) (.nil _))) rfl ?_
    | refine ACall.useIs [2, 3] (implPartT_call m t ?_ ?_ hc) rfl (.cons (.ro rfl rfl) (.cons (.ro rfl rfl) (.nil _))) rfl ?_
    | refine ACall.useIs [2, 3] (implPartF_call m t ?_ ?_ hc) rfl (.cons (.ro rfl rfl) (.cons (.ro rfl rfl) (.nil _))) rfl ?_
    | refine ACall.useIs [2, 3] (implForTt_call m t ?_ ?_ hc hf) rfl (.cons (.ro rfl rfl) (.cons (.ro rfl rfl) (.nil _))) rfl ?_
    | refine ACall.useIs [2, 3] (implForTf_call m t ?_ ?_ hc hf) rfl (.cons (.ro rfl rfl) (.cons (.ro rfl rfl) (.nil _))) rfl ?_
    | refine ACall.useIs [2, 3] (implForF_call m t ?_ ?_ hc) rfl (.cons (.ro rfl rfl) (.cons (.ro rfl rfl) (.nil _))) rfl ?_
    | refine ACall.useIs [2, 3] (implPathT_call m t a b ?_ ?_ hp) rfl (.cons (.ro rfl rfl) (.cons (.ro rfl rfl) (.nil _))) rfl ?_
    | refine ACall.useIs [2, 3] (implPathF_call m t a b ?_ ?_ hp) rfl (.cons (.ro rfl rfl) (.cons (.ro rfl rfl) (.nil _))) rfl ?_
    | refine ACall.useIs [2, 3] (specCutT_call l s ?_ ?_ hc) rfl (.cons (.ro rfl rfl) (.cons (.ro rfl rfl) (.nil _))) rfl ?_
    | refine ACall.useIs [2, 3] (specCutF_call l s ?_ ?_ hc) rfl (.cons (.ro rfl rfl) (.cons (.ro rfl rfl) (.nil _))) rfl ?_
    | refine ACall.useIs [2, 3] (specPartT_call m t ?_ ?_ hc) rfl (.cons (.ro rfl rfl) (.cons (.ro rfl rfl) (.nil _))) rfl ?_
    | refine ACall.useIs [2, 3] (specPartF_call m t ?_ ?_ hc) rfl (.cons (.ro rfl rfl) (.cons (.ro rfl rfl) (.nil _))) rfl ?_
    | refine ACall.useIs [2, 3] (specForTt_call m t ?_ ?_ hc hf) rfl (.cons (.ro rfl rfl) (.cons (.ro rfl rfl) (.nil _))) rfl ?_
    | refine ACall.useIs [2, 3] (specForTf_call m t ?_ ?_ hc hf) rfl (.cons (.ro rfl rfl) (.cons (.ro rfl rfl) (.nil _))) rfl ?_
    | refine ACall.useIs [2, 3] (specForF_call m t ?_ ?_ hc) rfl (.cons (.ro rfl rfl) (.cons (.ro rfl rfl) (.nil _))) rfl ?_
    | refine ACall.useIs [2, 3] (specPathT_call m t a b ?_ ?_ hp) rfl (.cons (.ro rfl rfl) (.cons (.ro rfl rfl) (.nil _))) rfl ?_
    | refine ACall.useIs [2, 3] (specPathF_call m t a b ?_ ?_ hp) rfl (.cons (.ro rfl rfl) (.cons (.ro rfl rfl) (.nil _))) rfl ?_
    | refine ACall.useIs [2] (implKruT_call l ?_ (cut_good hc)) rfl (.cons (.ro rfl rfl) (.nil _)) rfl ?_
    | refine ACall.useIs [4, 5] (sameE_call _ _ _ _ ?_ ?_ ?_ ?_) rfl (.cons (.ro rfl rfl) (.cons (.ro rfl rfl) (.nil _))) rfl ?_
    | refine ACall.useIs [6] (has_call _ _ ?_) rfl (.cons (.ro rfl rfl) (.nil _)) rfl ?_
    | refine AWP.while (ι := Nat) (fun k => St.of [(1, .slice ⟨1, 0, 0, 1, 0⟩ more.length), (5, .slice ⟨2, 0, 0, 3, 0⟩ l.length), (7, .slice ⟨4, 0, 0, 1, 0⟩ (cutsN l s l.length).length), (11, .slice ⟨6, 0, 0, 1, 0⟩ (kruL l).length), (13, .bool true), (14, .int .i64 (leastN l (cutsN l s l.length) k)), (89, .slice ⟨4, 0, 0, 1, 0⟩ (cutsN l s l.length).length), (90, .int .i64 (cutsN l s l.length).length), (91, .int .i64 k)] [.arr true .byte code, .arr true .byte more, .arr false .s3 l, .arr false .int s, .arr false .int (cutsN l s l.length), .arr false .int (cutsN l s l.length), .arr false .int (kruL l)]) (fun k => k ≤ (cutsN l s l.length).length) (fun k => (cutsN l s l.length).length - k) 0 (Nat.zero_le _)
        (Weak.of [0, 1, 2, 3, 4, 5, 6] (.cons rfl rfl (.cons rfl rfl (.cons rfl rfl (.cons rfl rfl (.cons rfl rfl (.i rfl ?_ (.cons rfl rfl (.cons rfl rfl (.cons rfl rfl .nil))))))))) (.cons (.same rfl rfl) (.cons (.same rfl rfl) (.cons (.same rfl rfl) (.cons (.same rfl rfl) (.cons (.same rfl rfl) (.cons (.same rfl rfl) (.cons (.same rfl rfl) (.nil _)))))))) rfl) (fun k hk => ?_)
    | refine AWP.while (ι := Nat) (fun j => St.of [(1, .slice ⟨1, 0, 0, 1, 0⟩ more.length), (5, .slice ⟨2, 0, 0, 3, 0⟩ l.length), (7, .slice ⟨4, 0, 0, 1, 0⟩ (cutsN l s l.length).length), (11, .slice ⟨6, 0, 0, 1, 0⟩ (kruL l).length), (13, .bool true), (14, .int .i64 (leastN l (cutsN l s l.length) (cutsN l s l.length).length)), (17, .bool (foundN l (cutsN l s l.length) (kruL l) (leastN l (cutsN l s l.length) (cutsN l s l.length).length) j)), (108, .slice ⟨4, 0, 0, 1, 0⟩ (cutsN l s l.length).length), (109, .int .i64 (cutsN l s l.length).length), (110, .int .i64 j)] [.arr true .byte code, .arr true .byte more, .arr false .s3 l, .arr false .int s, .arr false .int (cutsN l s l.length), .arr false .int (cutsN l s l.length), .arr false .int (kruL l)]) (fun j => j ≤ (cutsN l s l.length).length) (fun j => (cutsN l s l.length).length - j) 0 (Nat.zero_le _)
        (Weak.of [0, 1, 2, 3, 4, 5, 6] (.cons rfl rfl (.cons rfl rfl (.cons rfl rfl (.cons rfl rfl (.cons rfl rfl (.i rfl ?_ (.b rfl ?_ (.cons rfl rfl (.cons rfl rfl (.cons rfl rfl .nil)))))))))) (.cons (.same rfl rfl) (.cons (.same rfl rfl) (.cons (.same rfl rfl) (.cons (.same rfl rfl) (.cons (.same rfl rfl) (.cons (.same rfl rfl) (.cons (.same rfl rfl) (.nil _)))))))) rfl) (fun j hj => ?_)
    | refine roundEnd (k + 1) ?_ ?_ (Weak.of [0, 1, 2, 3, 4, 5, 6] (.cons rfl rfl (.cons rfl rfl (.cons rfl rfl (.cons rfl rfl (.cons rfl rfl (.i rfl ?_ (.cons rfl rfl (.cons rfl rfl (.cons rfl rfl .nil))))))))) (.cons (.same rfl rfl) (.cons (.same rfl rfl) (.cons (.same rfl rfl) (.cons (.same rfl rfl) (.cons (.same rfl rfl) (.cons (.same rfl rfl) (.cons (.same rfl rfl) (.nil _)))))))) rfl)
    | refine roundEnd (j + 1) ?_ ?_ (Weak.of [0, 1, 2, 3, 4, 5, 6] (.cons rfl rfl (.cons rfl rfl (.cons rfl rfl (.cons rfl rfl (.cons rfl rfl (.cons rfl rfl (.b rfl ?_ (.cons rfl rfl (.cons rfl rfl (.cons rfl rfl .nil)))))))))) (.cons (.same rfl rfl) (.cons (.same rfl rfl) (.cons (.same rfl rfl) (.cons (.same rfl rfl) (.cons (.same rfl rfl) (.cons (.same rfl rfl) (.cons (.same rfl rfl) (.nil _)))))))) rfl)
    | refine XGoal.addW (o := ⟨_, .binOp .add _ _ _ _, _, _, _, _⟩) rfl ?_
    | refine XGoal.list rfl ?_
    | refine Ret.bool [0, 1] ?_ (.cons (.same rfl rfl) (.cons (.same rfl rfl) (.nil _))) rfl
    | refine VC.mk ?_ ?_
  all_goals try simp only [decide_eq_true_eq, decide_eq_false_iff_not, Bool.not_eq_true', Bool.not_eq_false', cond_true, cond_false, eqB_true, eqB_false] at *
  all_goals try simp only [in64, idxAdd_zero_left, Int.toNat_natCast, fillTo_length, Int.ofNat_lt, Int.ofNat_le, Int.natCast_inj] at *
  all_goals try have hg := cut_good hc
  all_goals try have hlr := goodEdges_len hg
  all_goals try have hcl := cutsN_len l s l.length
  all_goals try have hkl := kruL_le l
  all_goals try have hpm := partsM_le m t
  all_goals try have hpi := piL_le m t a b
  all_goals try
    have hk2 : k < (cutsN l s l.length).length := by omega
    have hat := (cuts_mem s l.length ((cutsN l s l.length).getD k 0)).1 (by rw [getD_get hk2]; exact List.getElem_mem _)
  all_goals try
    have hj2 : j < (cutsN l s l.length).length := by omega
    have hat := (cuts_mem s l.length ((cutsN l s l.length).getD j 0)).1 (by rw [getD_get hj2]; exact List.getElem_mem _)
  all_goals try simp only [Int.toNat_zero] at *
  all_goals try have hat := (cuts_mem s l.length ((cutsN l s l.length).getD 0 0)).1 (by rw [getD_get (by omega)]; exact List.getElem_mem _)
  all_goals first
    | omega
    | exact ⟨by omega, by omega⟩
    | exact Eq.refl true
    | exact List.length_nil.symm
    | exact leastN_yes (by assumption)
    | exact leastN_no (by assumption)
    | exact (leastN_zero _).symm
    | (have e : k = (cutsN l s l.length).length := by omega
       rw [e]; done)
    | exact found_yes (by assumption)
    | exact found_eq (by assumption) (by assumption)
    | exact found_ne (by assumption) (by assumption)
    | exact (foundN_zero _ _ _).symm
    | (exfalso
       have e : j = (cutsN l s l.length).length := by omega
       have hfd := cut_found hg s (by omega)
       subst e
       simp_all; done)
    | (exfalso
       have e : j = (cutsN l s l.length).length := by omega
       have hfd := cut_found hg s (by omega)
       rw [← e] at hfd
       simp_all; done)

end YtnfcnocoehkgoaaAM
