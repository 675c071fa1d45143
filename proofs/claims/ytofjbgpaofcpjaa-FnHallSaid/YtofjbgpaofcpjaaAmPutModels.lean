/- Numbers put to their place in a list that rises, in plain Lean. -/
import Derived.Test.YtofjbgpaofcpjaaAmSortModels
set_option linter.unusedVariables false
set_option linter.unusedSimpArgs false
namespace YtofjbgpaofcpjaaAM

abbrev Rise (l : List Int) : Prop := l.Pairwise (· < ·)
theorem Rise.up {l : List Int} (h : Rise l) : Up l := h.imp fun h => by omega
/-- A number put to its place, if it isn't there. -/
def putL (n : Int) (l : List Int) : List Int := if hasB l n = true then l else ins n l
theorem putL_mem {n x : Int} {l : List Int} : x ∈ putL n l ↔ x = n ∨ x ∈ l := by
  unfold putL
  split
  · rename_i h
    constructor
    · exact .inr
    · rintro (rfl | h2)
      · exact hasB_iff.1 h
      · exact h2
  · exact ins_mem
theorem ins_rise {n : Int} {l : List Int} (h : Rise l) (hn : n ∉ l) : Rise (ins n l) := by
  have h1 := ins_up (x := n) h.up
  have h2 := ins_nodup (x := n) (s := l) (h.imp fun h => by omega) hn
  rw [Rise, List.pairwise_iff_getElem]
  intro i j hi hj hij
  have a := (List.pairwise_iff_getElem.1 h1) i j hi hj hij
  have b := (List.pairwise_iff_getElem.1 h2) i j hi hj hij
  omega
theorem putL_rise {n : Int} {l : List Int} (h : Rise l) : Rise (putL n l) := by
  unfold putL
  split
  · exact h
  · rename_i hn
    exact ins_rise h (fun hm => hn (hasB_iff.2 hm))
theorem putL_len (n : Int) (l : List Int) : l.length ≤ (putL n l).length := by
  unfold putL
  split
  · exact Nat.le_refl _
  · rw [ins_length]; omega
theorem putL_same {n : Int} {l : List Int} (h : (putL n l).length = l.length) : hasB l n = true := by
  unfold putL at h
  split at h
  · assumption
  · rw [ins_length] at h; omega
/-- The search of the place. -/
theorem put_here {n : Int} {l : List Int} {k : Nat} (hk : k < l.length) (h : l.getD k 0 = n) : l = putL n l := by
  rw [putL, if_pos (hasB_iff.2 (by rw [← h, getD_get hk]; exact List.getElem_mem hk))]
theorem put_new {n : Int} {l : List Int} {k : Nat} (hr : Rise l) (hk : k ≤ l.length) (hb : ∀ j, j < k → l.getD j 0 < n) (he : k = l.length ∨ n < l.getD k 0) : putL n l = l.take k ++ [n] ++ l.drop k := by
  have hd : ∀ y ∈ l.drop k, n < y := fun y hy => by
    obtain ⟨i, hi, rfl⟩ := List.getElem_of_mem hy
    rw [List.length_drop] at hi
    rw [List.getElem_drop]
    rcases he with he | he
    · omega
    · rw [getD_get (by omega)] at he
      rcases Nat.eq_zero_or_pos i with rfl | hi0
      · exact he
      · have := (List.pairwise_iff_getElem.1 hr) k (k + i) (by omega) (by omega) (by omega)
        omega
  have hn : hasB l n = false := by
    rw [hasB_false]
    intro hm
    rw [← List.take_append_drop k l] at hm
    rcases List.mem_append.1 hm with hm | hm
    · obtain ⟨i, hi, e⟩ := List.getElem_of_mem hm
      rw [List.length_take] at hi
      rw [List.getElem_take] at e
      have := hb i (by omega)
      rw [getD_get (by omega)] at this
      omega
    · have := hd n hm; omega
  rw [putL, if_neg (by rw [hn]; simp), ← insAt_ins hr.up hd (by
    rcases Nat.eq_zero_or_pos k with h0 | h0
    · exact .inl h0
    · exact .inr (by have := hb (k - 1) (by omega); omega)) hk]
  simp [insAt]

theorem put_parts {n : Int} {l : List Int} {k : Nat} (hr : Rise l) (hk : k ≤ l.length) (hb : ∀ j, j < k → l.getD j 0 < n) (he : k = l.length ∨ n < l.getD k 0) :
    putL n l = sub (sub (sub [] 0 0 ++ sub l 0 k) 0 (0 + k) ++ sub [n] 0 1) 0 (0 + k + 1) ++ sub l k (l.length - k) := by
  rw [put_new hr hk hb he]
  have h1 : sub ([] : List Int) 0 0 ++ sub l 0 k = l.take k := by simp [sub]
  have h2 : sub (l.take k) 0 (0 + k) = l.take k := by rw [sub_zero, List.take_of_length_le (by simp; omega)]
  have h3 : sub [n] 0 1 = [n] := rfl
  have h4 : sub (l.take k ++ [n]) 0 (0 + k + 1) = l.take k ++ [n] := by rw [sub_zero, List.take_of_length_le (by simp; omega)]
  have h5 : sub l k (l.length - k) = l.drop k := by rw [sub, List.take_of_length_le (by simp)]
  rw [h1, h2, h3, h4, h5]
theorem nod_len : ∀ (n : Nat) (l : List Int), l.Nodup → (∀ x ∈ l, 0 ≤ x ∧ x < n) → l.length ≤ n
  | 0, l, _, h => by
    cases l with
    | nil => simp
    | cons a r => have := h a (by simp); omega
  | n + 1, l, hn, h => by
    by_cases hm : (n : Int) ∈ l
    · have ih := nod_len n (l.erase n) (hn.erase _) (fun x hx => by
        have h1 := (hn.mem_erase_iff.1 hx)
        have := h x h1.2
        have := h1.1
        omega)
      rw [List.length_erase_of_mem hm] at ih
      omega
    · have ih := nod_len n l hn (fun x hx => by
        have := h x hx
        have : x ≠ n := fun e => hm (e ▸ hx)
        omega)
      omega

end YtofjbgpaofcpjaaAM
