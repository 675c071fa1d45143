/- What the functions on links compute, in plain Lean. -/
import Derived.Test.YtafalojjbghlhaaAmLinks1
set_option linter.unusedVariables false
set_option linter.unusedSimpArgs false
namespace YtafalojjbghlhaaAM

theorem goodLink_iff {r : S2} : goodLink r = true ↔ (0 ≤ r.a ∧ r.a ≤ 7) ∧ (0 ≤ r.b ∧ r.b ≤ 7) ∧ r.a ≠ r.b := by
  simp [goodLink, btw, and_assoc]
theorem goodLinks_len {l : List S2} (h : goodLinks l = true) : l.length ≤ 20 := by
  simp [goodLinks] at h; omega
theorem goodLinks_get {l : List S2} (h : goodLinks l = true) {k : Nat} (hk : k < l.length) : goodLink l[k] = true := by
  simp only [goodLinks, Bool.and_eq_true, Bool.not_eq_true', List.any_eq_false] at h
  have := h.2 _ (List.getElem_mem hk)
  simpa using this

/-! ### Ways -/
def linkAsk (l : List S2) (f t : Int) : Bool := goodLinks l && btw 0 7 f && btw 0 7 t && decide (f ≠ t)
/-- Number j is one of a link. -/
def idxB (l : List S2) (w : List Int) (j : Nat) : Bool := decide (0 ≤ w.getD j 0) && decide (w.getD j 0 < l.length)
abbrev toW (l : List S2) (w : List Int) (j : Nat) : Int := (l.getD (w.getD j 0).toNat ⟨0, 0⟩).b
/-- The node after k links. -/
def atW (l : List S2) (f : Int) (w : List Int) : Nat → Int
  | 0 => f
  | k + 1 => toW l w k
def seenW (l : List S2) (f : Int) (w : List Int) (k : Nat) : List Int := f :: (List.range k).map fun j => toW l w j
theorem seenW_len (l : List S2) (f : Int) (w : List Int) (k : Nat) : (seenW l f w k).length = k + 1 := by simp [seenW]
theorem seenW_app (l : List S2) (f : Int) (w : List Int) (k : Nat) : seenW l f w (k + 1) = sub (seenW l f w k) 0 (seenW l f w k).length ++ sub [toW l w k] 0 1 := by
  have h : sub (seenW l f w k) 0 (seenW l f w k).length = seenW l f w k := sub_all _
  rw [h]
  simp [seenW, List.range_succ, sub]
def okW (l : List S2) (f : Int) (w : List Int) (k : Nat) : Bool := decide ((l.getD (w.getD k 0).toNat ⟨0, 0⟩).a = atW l f w k) && !hasB (seenW l f w k) (toW l w k)
def wayOk (l : List S2) (f t : Int) (w : List Int) : Bool := linkAsk l f t && (List.range w.length).all (idxB l w)
def isWay (l : List S2) (f t : Int) (w : List Int) : Bool := wayOk l f t w && (List.range w.length).all (okW l f w) && decide (atW l f w w.length = t)
/-- The test of a list of numbers by 'any'. -/
theorem any_idx (l : List S2) (w : List Int) : (!w.any fun k => !btw 0 (l.length - 1) k) = (List.range w.length).all (idxB l w) := by
  rw [Bool.eq_iff_iff]
  simp only [Bool.not_eq_true', List.any_eq_false, List.all_eq_true, List.mem_range, idxB, Bool.and_eq_true, decide_eq_true_eq, Bool.not_eq_true]
  constructor
  · intro h j hj
    have h1 := h (w.getD j 0) (by rw [getD_get hj]; exact List.getElem_mem hj)
    have h2 : btw 0 (l.length - 1) (w.getD j 0) = true := by simpa using h1
    have := btw_iff.1 h2
    omega
  · intro h x hx
    obtain ⟨j, hj, rfl⟩ := List.getElem_of_mem hx
    have := h j hj
    rw [getD_get hj] at this
    have h2 : btw 0 (l.length - 1) w[j] = true := btw_iff.2 ⟨by omega, by omega⟩
    simpa using h2
theorem wayOk_idx {l : List S2} {f t : Int} {w : List Int} (h : wayOk l f t w = true) {j : Nat} (hj : j < w.length) : idxB l w j = true := by
  simp only [wayOk, Bool.and_eq_true, List.all_eq_true, List.mem_range] at h
  exact h.2 j hj
end YtafalojjbghlhaaAM
