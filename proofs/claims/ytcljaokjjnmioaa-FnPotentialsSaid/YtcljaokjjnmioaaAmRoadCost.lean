/- The costs from a node are the least ones; the way between two nodes. -/
import Derived.Test.YtcljaokjjnmioaaAmRoads5
import Derived.Test.YtcljaokjjnmioaaAmRoadWay
set_option linter.unusedVariables false
set_option linter.unusedSimpArgs false
namespace YtcljaokjjnmioaaAM

theorem start_cAt {n : Nat} (hn : n < 8) {v : Int} (hv : 0 ≤ v ∧ v < 8) : cAt (start n) v = if v = n then 0 else Far := by
  unfold cAt start
  rw [getD_set]
  have hr : (List.replicate 8 Far).getD v.toNat 0 = Far := by rw [List.getD_eq_getElem?_getD, List.getElem?_replicate, if_pos (by omega)]; rfl
  rw [hr]
  by_cases h : v = n
  · rw [if_pos h, if_pos ⟨by omega, by simpa using hn⟩]
  · rw [if_neg h, if_neg (by omega)]
theorem cf_least {l : List S3} (hf : fine l = true) {n : Nat} (hn : n < 8) : Least l n 180 (costFrom l n) := by
  have hs : 0 ≤ (n : Int) ∧ (n : Int) < 8 := by omega
  refine (settle_least (fine_good hf) hs (pot_feas hf).1 8 0 (start n) rfl ⟨by simp [start], fun v h0 h8 => ?_, fun v h0 h8 => ?_⟩ fun m hm v x hw => ?_).2
  · rw [start_cAt hn ⟨h0, h8⟩]; split <;> simp [Far]
  · rw [start_cAt hn ⟨h0, h8⟩]
    split
    · rename_i e; subst e; exact .inr ⟨0, by omega, HasWay.nil _ _⟩
    · exact .inl rfl
  · obtain rfl : m = 0 := by omega
    obtain ⟨rfl, rfl⟩ := hw.zero
    rw [start_cAt hn hs, if_pos rfl]; omega
theorem road_rng {l : List S3} (hg : goodRoads l = true) (k : Nat) : (0 ≤ (l.getD k ⟨0, 0, 0⟩).a ∧ (l.getD k ⟨0, 0, 0⟩).a < 8) ∧ (0 ≤ (l.getD k ⟨0, 0, 0⟩).b ∧ (l.getD k ⟨0, 0, 0⟩).b < 8) ∧ (-100 ≤ (l.getD k ⟨0, 0, 0⟩).c ∧ (l.getD k ⟨0, 0, 0⟩).c ≤ 100) := by
  rcases Nat.lt_or_ge k l.length with h | h
  · rw [getD_get h]
    have := goodRoads_mem hg (List.getElem_mem h)
    exact ⟨this.1, this.2.1, this.2.2.1⟩
  · rw [List.getD_eq_getElem?_getD, List.getElem?_eq_none h]; decide
def okWay (l : List S3) (f t : Int) : Bool := fine l && btw 0 7 f && btw 0 7 t && wbOk l (costFrom l f.toNat) f t
def wayL (l : List S3) (f t : Int) : List Int := if okWay l f t = true then wbL l (costFrom l f.toNat) f t else []
theorem wayL_le (l : List S3) (f t : Int) : (wayL l f t).length ≤ 7 := by
  unfold wayL
  split
  · rename_i h
    simp only [okWay, Bool.and_eq_true, btw_iff] at h
    exact wbL_le (fine_good h.1.1.1) (by omega)
  · simp
theorem idx_take {α : Type} (p : α → Bool) (d : α) {l : List α} {k : Nat} (hk : k < l.length) : idxF p (l.take (k + 1)) = if idxF p (l.take k) < 0 ∧ p (l.getD k d) = true then (k : Int) else idxF p (l.take k) := by
  have e : l.take (k + 1) = l.take k ++ [l.getD k d] := by rw [List.take_add_one, List.getElem?_eq_getElem hk, getD_get hk]; rfl
  rw [e]
  unfold idxF
  rw [List.findIdx?_append]
  cases h : (l.take k).findIdx? p with
  | some i => simp only [Option.some_or]; rw [if_neg (by omega)]
  | none =>
    simp only [Option.none_or, List.findIdx?_singleton]
    cases h2 : p (l.getD k d) with
    | true =>
      simp [List.length_take]; omega
    | false => simp [h2]
theorem idx_take0 {α : Type} (p : α → Bool) (l : List α) : idxF p (l.take 0) = -1 := rfl
end YtcljaokjjnmioaaAM
