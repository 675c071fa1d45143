/- Rows that are few and short. -/
import Derived.Test.YtafalojjbghlhaaAmRowModels
set_option linter.unusedVariables false
set_option linter.unusedSimpArgs false
namespace YtafalojjbghlhaaAM
theorem totN_small {ll : List (List Int)} {b : Nat} (h : ∀ r ∈ ll, r.length ≤ b) : ∀ k, totN ll k ≤ k * b
  | 0 => by rw [totN_zero]; omega
  | k + 1 => by
    have ih := totN_small h k
    rw [totN_succ, Nat.add_mul]
    have : (ll.getD k []).length ≤ b := by
      rcases Nat.lt_or_ge k ll.length with c | c
      · rw [getD_get c]; exact h _ (List.getElem_mem c)
      · rw [List.getD_eq_getElem?_getD, List.getElem?_eq_none c]; simp
    omega
theorem SmallR.few {ll : List (List Int)} {n b : Nat} (h1 : ll.length ≤ n) (h : ∀ r ∈ ll, r.length ≤ b) (hn : n ≤ 1048576) (hb : n * b ≤ 1048576) : SmallR ll :=
  ⟨by omega, Nat.le_trans (totN_small h _) (Nat.le_trans (Nat.mul_le_mul_right b h1) hb)⟩
end YtafalojjbghlhaaAM
