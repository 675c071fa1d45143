/- What the functions on pipes compute, in plain Lean. -/
import Derived.Test.YtgkpdnacfpdomaaAmModels
set_option linter.unusedVariables false
set_option linter.unusedSimpArgs false
namespace YtgkpdnacfpdomaaAM

/-- A pipe that may be. -/
def goodPipe (r : S3) : Bool := btw 0 7 r.a && btw 0 7 r.b && decide (r.a ≠ r.b) && btw 0 100 r.c
def goodPipes (l : List S3) : Bool := decide (l.length ≤ 20) && !l.any (fun r => !goodPipe r)
theorem goodPipe_iff {r : S3} : goodPipe r = true ↔ (0 ≤ r.a ∧ r.a ≤ 7) ∧ (0 ≤ r.b ∧ r.b ≤ 7) ∧ r.a ≠ r.b ∧ (0 ≤ r.c ∧ r.c ≤ 100) := by
  simp [goodPipe, btw, and_assoc]
theorem goodPipes_len {l : List S3} (h : goodPipes l = true) : l.length ≤ 20 := by
  simp [goodPipes] at h; omega
theorem goodPipes_get {l : List S3} (h : goodPipes l = true) {k : Nat} (hk : k < l.length) : goodPipe l[k] = true := by
  simp only [goodPipes, Bool.and_eq_true, Bool.not_eq_true', List.any_eq_false] at h
  have := h.2 _ (List.getElem_mem hk)
  simpa using this

def cutStep (side : List Int) (n : Int) (p : S3) : Int := if hasB side p.a = true ∧ hasB side p.b = false then n + p.c else n
def cutM (l : List S3) (side : List Int) : Int := foldTo (cutStep side) 0 l l.length
theorem cutTo_range {l : List S3} (hg : goodPipes l = true) (side : List Int) : ∀ k, k ≤ l.length → 0 ≤ foldTo (cutStep side) 0 l k ∧ foldTo (cutStep side) 0 l k ≤ 100 * (k : Int)
  | 0, _ => by rw [foldTo_zero]; simp
  | k + 1, hk => by
    have ih := cutTo_range hg side k (by omega)
    have hp := goodPipe_iff.1 (goodPipes_get hg (k := k) (by omega))
    rw [foldTo_succ _ _ _ (by omega), cutStep]
    split <;> push_cast <;> omega
def cutOk (l : List S3) (side : List Int) : Bool := goodPipes l && someB side 8
def cutSz (l : List S3) (side : List Int) : Int := if cutOk l side then cutM l side else 0
end YtgkpdnacfpdomaaAM
