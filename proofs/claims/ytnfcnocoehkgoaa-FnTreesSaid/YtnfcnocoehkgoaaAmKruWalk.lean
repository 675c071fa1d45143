/- Kruskal's walk, its steps in plain Lean. -/
import Derived.Test.YtnfcnocoehkgoaaAmKruMath
import Derived.Test.YtnfcnocoehkgoaaAmForestWalk
set_option linter.unusedVariables false
set_option linter.unusedSimpArgs false
namespace YtnfcnocoehkgoaaAM

/-- The facts of a step. -/
theorem kru_at {l : List S3} (hg : goodEdges l = true) {k : Nat} (hk : k < (ordE l).length) : 0 ≤ (ordE l).getD k 0 ∧ (ordE l).getD k 0 < l.length := ordE_in _ (by rw [getD_get hk]; exact List.getElem_mem _)
theorem pickN_le {l : List S3} {V : List Int} : ∀ k, (pickN l V k).length ≤ k
  | 0 => Nat.le_refl _
  | k + 1 => by
    have := pickN_le (l := l) (V := V) k
    rw [pickN_succ]
    split
    · rw [List.length_append, List.length_singleton]; omega
    · omega
theorem pickN_yes {l : List S3} {k : Nat} (h : ¬ (min ((partsN l (ordE l) k).getD (l.getD ((ordE l).getD k 0).toNat ⟨0, 0, 0⟩).a.toNat 0) ((partsN l (ordE l) k).getD (l.getD ((ordE l).getD k 0).toNat ⟨0, 0, 0⟩).b.toNat 0)) = (max ((partsN l (ordE l) k).getD (l.getD ((ordE l).getD k 0).toNat ⟨0, 0, 0⟩).a.toNat 0) ((partsN l (ordE l) k).getD (l.getD ((ordE l).getD k 0).toNat ⟨0, 0, 0⟩).b.toNat 0))) :
    pickN l (ordE l) (k + 1) = pickN l (ordE l) k ++ [(ordE l).getD k 0] := by
  have hj : joinB l (ordE l) k = true := join_no fun e => h (by unfold lab at e; exact min_max.2 e)
  rw [pickN_succ, if_pos hj]
theorem pickN_no {l : List S3} {k : Nat} (h : (min ((partsN l (ordE l) k).getD (l.getD ((ordE l).getD k 0).toNat ⟨0, 0, 0⟩).a.toNat 0) ((partsN l (ordE l) k).getD (l.getD ((ordE l).getD k 0).toNat ⟨0, 0, 0⟩).b.toNat 0)) = (max ((partsN l (ordE l) k).getD (l.getD ((ordE l).getD k 0).toNat ⟨0, 0, 0⟩).a.toNat 0) ((partsN l (ordE l) k).getD (l.getD ((ordE l).getD k 0).toNat ⟨0, 0, 0⟩).b.toNat 0))) :
    pickN l (ordE l) (k + 1) = pickN l (ordE l) k := by
  have hj : joinB l (ordE l) k = false := join_yes (by unfold lab; exact min_max.1 h)
  rw [pickN_succ, hj, if_neg (by decide)]
theorem pick_all {l : List S3} {k : Nat} (hk : k ≤ l.length) (h : l.length ≤ k) : pickN l (ordE l) k = pickA l (ordE l) := by
  have : k = (ordE l).length := by rw [ordE_len]; omega
  rw [this]; rfl
theorem kru_in {l : List S3} {k : Nat} (hk : k < (sortI (pickA l (ordE l))).length) : 0 ≤ (sortI (pickA l (ordE l))).getD k 0 ∧ (sortI (pickA l (ordE l))).getD k 0 < l.length :=
  sort_in (pick_in ordE_in) _ (by rw [getD_get hk]; exact List.getElem_mem _)
theorem kruL_yes {l : List S3} (hg : goodEdges l = true) : kruL l = sortI (pickA l (ordE l)) := by unfold kruL; rw [if_pos hg]
theorem kruC_yes {l : List S3} (hg : goodEdges l = true) : kruC l = costL l (sortI (pickA l (ordE l))) (sortI (pickA l (ordE l))).length := by unfold kruC; rw [if_pos hg, kruL_yes hg]
theorem kruL_no {l : List S3} (hg : goodEdges l = false) : kruL l = [] := by unfold kruL; rw [hg]; rfl
theorem kruC_no {l : List S3} (hg : goodEdges l = false) : kruC l = 0 := by unfold kruC; rw [hg]; rfl
theorem kruL_le (l : List S3) : (kruL l).length ≤ 8 := by
  cases hg : goodEdges l with
  | false => rw [kruL_no hg]; exact Nat.zero_le _
  | true => rw [kruL_yes hg, sortI_len]; exact pick_le hg ordE_in
theorem vis_pick {l : List S3} (hg : goodEdges l = true) {c k : Nat} (hk : k < l.length) (he : (l.getD k ⟨0, 0, 0⟩).c = (c : Int)) (h : ¬ (partsN l (sortI (pickA l (vis l c k))) (sortI (pickA l (vis l c k))).length).getD (l.getD k ⟨0, 0, 0⟩).a.toNat 0 = (partsN l (sortI (pickA l (vis l c k))) (sortI (pickA l (vis l c k))).length).getD (l.getD k ⟨0, 0, 0⟩).b.toNat 0) :
    putL (k : Int) (sortI (pickA l (vis l c k))) = sortI (pickA l (vis l c (k + 1))) := by
  have hin := vis_in (c := c) hg (Nat.le_of_lt hk)
  rw [pick_parts hg hin] at h
  have hn := pick_nodup (l := l) (lts_nodup (vis_lts' (c := c) hg (Nat.le_of_lt hk)))
  have hm : (k : Int) ∉ pickA l (vis l c k) := fun hm => by
    have := ((vis_mem' hg (Nat.le_of_lt hk) _).1 (pick_mem hm)).2
    have he2 : co l (k : Int) = c := he
    omega
  have h2 : ¬ labA l (vis l c k) (edgeAt l (k : Int)).a = labA l (vis l c k) (edgeAt l (k : Int)).b := h
  rw [sort_put hn hm, vis_succ, if_pos he, pickA_snoc, if_neg h2]
theorem vis_pass {l : List S3} (hg : goodEdges l = true) {c k : Nat} (hk : k < l.length) (he : (l.getD k ⟨0, 0, 0⟩).c = (c : Int)) (h : (partsN l (sortI (pickA l (vis l c k))) (sortI (pickA l (vis l c k))).length).getD (l.getD k ⟨0, 0, 0⟩).a.toNat 0 = (partsN l (sortI (pickA l (vis l c k))) (sortI (pickA l (vis l c k))).length).getD (l.getD k ⟨0, 0, 0⟩).b.toNat 0) :
    pickA l (vis l c (k + 1)) = pickA l (vis l c k) := by
  have hin := vis_in (c := c) hg (Nat.le_of_lt hk)
  rw [pick_parts hg hin] at h
  have h2 : labA l (vis l c k) (edgeAt l (k : Int)).a = labA l (vis l c k) (edgeAt l (k : Int)).b := h
  rw [vis_succ, if_pos he, pickA_snoc, if_pos h2]
theorem vis_skip {l : List S3} {c k : Nat} (he : ¬ (l.getD k ⟨0, 0, 0⟩).c = (c : Int)) : vis l c (k + 1) = vis l c k := by rw [vis_succ, if_neg he]
theorem vis_some {l : List S3} (hg : goodEdges l = true) {c k : Nat} (hk : k ≤ l.length) : someB (sortI (pickA l (vis l c k))) l.length = true := sort_some (pick_in (vis_in hg hk)) (pick_nodup (lts_nodup (vis_lts' hg hk)))
theorem vis_len {l : List S3} (hg : goodEdges l = true) {c k : Nat} (hk : k ≤ l.length) : (sortI (pickA l (vis l c k))).length ≤ 8 := by rw [sortI_len]; exact pick_le hg (vis_in hg hk)
theorem vis_rise {l : List S3} (hg : goodEdges l = true) {c k : Nat} (hk : k ≤ l.length) : Rise (sortI (pickA l (vis l c k))) := sortI_rise (pick_nodup (lts_nodup (vis_lts' hg hk)))
theorem vis_end {l : List S3} (hg : goodEdges l = true) {c : Nat} (hc : c ≤ 1001) (h : ¬ (c : Int) ≤ 1000) : visC l c = ordE l := by
  have : c = 1001 := by omega
  subst this; exact vis_all hg
end YtnfcnocoehkgoaaAM
