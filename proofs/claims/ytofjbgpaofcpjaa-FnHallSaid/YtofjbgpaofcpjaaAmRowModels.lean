/- Rows of numbers: sizes, marks, in plain Lean. -/
import Derived.Test.YtofjbgpaofcpjaaAmModels
set_option linter.unusedVariables false
set_option linter.unusedSimpArgs false
namespace YtofjbgpaofcpjaaAM

abbrev rw_ (ll : List (List Int)) (k : Nat) : List Int := ll.getD k []
/-- What is left after the first k rows. -/
def leftN (ll : List (List Int)) (n : Int) (k : Nat) : Int := foldN (fun c j => if c < 0 then c else leftOf c (ll.getD j []).length) (leftOf n ll.length) k
def leftSS (ll : List (List Int)) (n : Int) : Int := leftN ll n ll.length
theorem leftN_zero (ll : List (List Int)) (n : Int) : leftN ll n 0 = leftOf n ll.length := rfl
theorem leftN_succ (ll : List (List Int)) (n : Int) (k : Nat) : leftN ll n (k + 1) = if leftN ll n k < 0 then leftN ll n k else leftOf (leftN ll n k) (ll.getD k []).length := rfl
theorem leftN_go {ll : List (List Int)} {n : Int} {k : Nat} (h : 0 ≤ leftN ll n k) : leftN ll n (k + 1) = leftOf (leftN ll n k) (ll.getD k []).length := by
  rw [leftN_succ, if_neg (by omega)]
theorem leftN_stop {ll : List (List Int)} {n : Int} {k : Nat} (h : leftN ll n k < 0) : ∀ d, leftN ll n (k + d) = leftN ll n k
  | 0 => rfl
  | d + 1 => by
    have ih := leftN_stop h d
    rw [← Nat.add_assoc, leftN_succ, ih, if_pos h]
theorem leftN_end {ll : List (List Int)} {n : Int} {k : Nat} (hk : k ≤ ll.length) (h : leftN ll n k < 0) : leftSS ll n = leftN ll n k := by
  have := leftN_stop h (ll.length - k)
  rwa [show k + (ll.length - k) = ll.length by omega] at this
theorem leftOf_neg {n : Int} {k : Nat} (h : leftOf n k < 0) : leftOf n k = -1 := by
  unfold leftOf at *; split at h <;> simp_all
theorem leftN_range {ll : List (List Int)} {n : Int} (hn : n ≤ 1048576) : ∀ k, -1 ≤ leftN ll n k ∧ leftN ll n k ≤ 1048576
  | 0 => leftOf_range hn
  | k + 1 => by
    have ih := leftN_range (ll := ll) hn k
    rw [leftN_succ]
    split
    · exact ih
    · exact leftOf_range ih.2
/-- How many numbers the first k rows have. -/
def totN (ll : List (List Int)) (k : Nat) : Nat := foldN (fun c j => c + (ll.getD j []).length) 0 k
theorem totN_zero (ll : List (List Int)) : totN ll 0 = 0 := rfl
theorem totN_succ (ll : List (List Int)) (k : Nat) : totN ll (k + 1) = totN ll k + (ll.getD k []).length := rfl
theorem totN_mono (ll : List (List Int)) {k m : Nat} (h : k ≤ m) : totN ll k ≤ totN ll m := by
  induction m with
  | zero => obtain rfl : k = 0 := by omega
            exact Nat.le_refl _
  | succ m ih =>
    rcases Nat.lt_or_ge k (m + 1) with c | c
    · have := ih (by omega); rw [totN_succ]; omega
    · obtain rfl : k = m + 1 := by omega
      exact Nat.le_refl _
theorem leftN_eq {ll : List (List Int)} {n : Int} : ∀ k, 0 ≤ leftN ll n k → leftN ll n k = n - ll.length - totN ll k ∧ (ll.length : Int) + totN ll k ≤ n
  | 0, h => by
    rw [leftN_zero, totN_zero] at *
    unfold leftOf at *
    split at h <;> omega
  | k + 1, h => by
    rw [leftN_succ] at h
    split at h
    · omega
    · rename_i hc
      have ih := leftN_eq (ll := ll) (n := n) k (by omega)
      rw [leftN_succ, if_neg hc, totN_succ]
      generalize leftN ll n k = c at *
      generalize (ll.getD k []).length = m at *
      unfold leftOf at *
      split at h
      · omega
      · rename_i h2
        rw [if_neg h2]
        omega
/-- Rows within bounds. -/
structure SmallR (ll : List (List Int)) : Prop where
  len : ll.length ≤ 1048576
  tot : totN ll ll.length ≤ 1048576
theorem SmallR.row {ll : List (List Int)} (h : SmallR ll) (k : Nat) : (ll.getD k []).length ≤ 1048576 := by
  rcases Nat.lt_or_ge k ll.length with c | c
  · have h1 := totN_mono ll (show k + 1 ≤ ll.length by omega)
    rw [totN_succ] at h1
    have := h.tot
    omega
  · rw [List.getD_eq_getElem?_getD, List.getElem?_eq_none c]; simp
theorem SmallR.of {ll : List (List Int)} {n : Int} (hn : n ≤ 1048576) (h : ¬ leftSS ll n < 0) : SmallR ll := by
  have := leftN_eq (ll := ll) (n := n) ll.length (by show 0 ≤ leftSS ll n; omega)
  exact ⟨by omega, by omega⟩
/-- The marks. -/
def markSS (ll : List (List Int)) (n : Int) : List (List Int) := (List.range ll.length).map fun i => marksI (ll.getD i []).length (n + totN ll i)
@[simp] theorem markSS_length (ll : List (List Int)) (n : Int) : (markSS ll n).length = ll.length := by simp [markSS]
theorem markSS_get {ll : List (List Int)} {n : Int} {k : Nat} (h : k < ll.length) : (markSS ll n)[k]'(by simpa using h) = marksI (ll.getD k []).length (n + totN ll k) := by simp [markSS]
theorem markSS_getD {ll : List (List Int)} {n : Int} {k : Nat} (h : k < ll.length) : (markSS ll n).getD k [] = marksI (ll.getD k []).length (n + totN ll k) := by
  rw [getD_get (by simpa using h), markSS_get h]
end YtofjbgpaofcpjaaAM
