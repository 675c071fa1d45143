/- Links as pipes; the links that lead across a least cut. -/
import Derived.Test.YtafalojjbghlhaaAmLinkModels
import Derived.Test.YtafalojjbghlhaaAmCutModels
set_option linter.unusedVariables false
set_option linter.unusedSimpArgs false
namespace YtafalojjbghlhaaAM

def toP (r : S2) : S3 := ⟨r.a, r.b, 1⟩
def pipesOf (l : List S2) : List S3 := l.map toP
theorem pipesOf_len (l : List S2) : (pipesOf l).length = l.length := by simp [pipesOf]
theorem pipesOf_take {l : List S2} {k : Nat} (h : l.length ≤ k) : (l.take k).map toP = pipesOf l := by
  rw [List.take_of_length_le h]; rfl
theorem pipesOf_good {l : List S2} (h : goodLinks l = true) : goodPipes (pipesOf l) = true := by
  have hl := goodLinks_len h
  simp only [goodPipes, Bool.and_eq_true, decide_eq_true_eq, Bool.not_eq_true', List.any_eq_false]
  refine ⟨by rw [pipesOf_len]; exact hl, fun x hx => ?_⟩
  obtain ⟨r, hr, rfl⟩ := List.mem_map.1 hx
  obtain ⟨i, hi, rfl⟩ := List.getElem_of_mem hr
  have := goodLink_iff.1 (goodLinks_get h hi)
  have h2 : goodPipe (toP l[i]) = true := goodPipe_iff.2 ⟨this.1, this.2.1, this.2.2, by show (0 : Int) ≤ 1; decide, by show (1 : Int) ≤ 100; decide⟩
  rw [h2]; decide
theorem linkAsk_spec {l : List S2} {u t : Int} (h : linkAsk l u t = true) : goodLinks l = true ∧ (0 ≤ u ∧ u ≤ 7) ∧ (0 ≤ t ∧ t ≤ 7) ∧ u ≠ t ∧ goodPipes (pipesOf l) = true ∧ askB (pipesOf l) u t = true := by
  simp only [linkAsk, Bool.and_eq_true, decide_eq_true_eq, btw_iff] at h
  have hp := pipesOf_good h.1.1.1
  refine ⟨h.1.1.1, h.1.1.2, h.1.2, h.2, hp, ?_⟩
  simp only [askB, Bool.and_eq_true, decide_eq_true_eq, btw_iff]
  exact ⟨⟨⟨hp, h.1.1.2⟩, h.1.2⟩, h.2⟩
def acrossB (l : List S2) (s : List Int) (j : Nat) : Bool := hasB s (l.getD j ⟨0, 0⟩).a && !hasB s (l.getD j ⟨0, 0⟩).b
def fcN (l : List S2) (s : List Int) (k : Nat) : List Int := foldN (fun out j => if acrossB l s j = true then out ++ [(j : Int)] else out) [] k
theorem fcN_zero (l : List S2) (s : List Int) : fcN l s 0 = [] := rfl
theorem fcN_succ (l : List S2) (s : List Int) (k : Nat) : fcN l s (k + 1) = if acrossB l s k = true then fcN l s k ++ [(k : Int)] else fcN l s k := rfl
theorem fcN_len (l : List S2) (s : List Int) : ∀ k, (fcN l s k).length ≤ k
  | 0 => by rw [fcN_zero]; exact Nat.le_refl _
  | k + 1 => by
    have := fcN_len l s k
    rw [fcN_succ]; split <;> simp <;> omega
def fcL (l : List S2) (u t : Int) : List Int := if linkAsk l u t = true then fcN l (sideM (pipesOf l) u t) l.length else []
theorem fcL_le (l : List S2) (u t : Int) : (fcL l u t).length ≤ 20 := by
  unfold fcL
  split
  · rename_i h
    have := goodLinks_len (linkAsk_spec h).1
    have := fcN_len l (sideM (pipesOf l) u t) l.length
    omega
  · simp
theorem mcL_side {l : List S3} {u t : Int} (h : askB l u t = true) : mcL l u t = sideM l u t := by rw [mcL, if_pos h]
end YtafalojjbghlhaaAM
