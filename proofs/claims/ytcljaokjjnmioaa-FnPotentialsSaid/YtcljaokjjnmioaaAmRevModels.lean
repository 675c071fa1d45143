/- A list turned round in its place; the search of a way, step by step. -/
import Derived.Test.YtcljaokjjnmioaaAmRoadCost
set_option linter.unusedVariables false
set_option linter.unusedSimpArgs false
namespace YtcljaokjjnmioaaAM
def swapE (n : Nat) (s : List Int) (k : Nat) : List Int := (s.set k (s.getD (n - 1 - k) 0)).set (n - 1 - k) (s.getD k 0)
def revN (l : List Int) (k : Nat) : List Int := foldN (swapE l.length) l k
theorem revN_zero (l : List Int) : revN l 0 = l := rfl
theorem revN_succ (l : List Int) (k : Nat) : revN l (k + 1) = ((revN l k).set k ((revN l k).getD (l.length - 1 - k) 0)).set (l.length - 1 - k) ((revN l k).getD k 0) := rfl
theorem revN_len (l : List Int) : ∀ k, (revN l k).length = l.length
  | 0 => rfl
  | k + 1 => by rw [revN_succ, List.length_set, List.length_set, revN_len l k]
theorem revN_at (l : List Int) : ∀ k, 2 * k ≤ l.length + 1 → ∀ i, i < l.length → (revN l k).getD i 0 = if i < k ∨ l.length - k ≤ i then l.getD (l.length - 1 - i) 0 else l.getD i 0
  | 0, _, i, hi => by rw [revN_zero, if_neg (by omega)]
  | k + 1, hk, i, hi => by
    have ih := revN_at l k (by omega)
    have hl := revN_len l k
    rw [revN_succ, getD_set, List.length_set, getD_set, hl]
    by_cases h1 : l.length - 1 - k = i
    · rw [if_pos ⟨h1, by omega⟩, if_pos (by omega), ih k (by omega)]
      by_cases h2 : k < k ∨ l.length - k ≤ k
      · rw [if_pos h2]; congr 1; omega
      · rw [if_neg h2]; congr 1; omega
    · rw [if_neg (by omega)]
      by_cases h2 : k = i
      · rw [if_pos ⟨h2, by omega⟩, if_pos (by omega), ih _ (by omega), if_neg (by omega)]; congr 1; omega
      · rw [if_neg (by omega), ih i hi]
        by_cases h3 : i < k ∨ l.length - k ≤ i
        · rw [if_pos h3, if_pos (by omega)]
        · rw [if_neg h3, if_neg (by omega)]
theorem revN_all {l : List Int} {k : Nat} (h1 : 2 * k ≤ l.length + 1) (h2 : l.length ≤ 2 * k + 1) : revN l k = l.reverse := by
  refine List.ext_getElem (by rw [revN_len, List.length_reverse]) fun i hi hj => ?_
  rw [revN_len] at hi
  have := revN_at l k h1 i hi
  rw [getD_get (by rw [revN_len]; exact hi)] at this
  rw [this, List.getElem_reverse]
  split
  · rw [getD_get (by omega)]
  · rw [getD_get hi]; congr 1; omega
theorem pickR_eq (l : List S3) (c : List Int) (s : WS) : idxF (pickP c s) l = pickR l c s := rfl
theorem sub_one (x : Int) : sub [x] 0 1 = [x] := rfl
theorem sub_whole {l : List Int} {n : Nat} (h : l.length = n) : sub l 0 n = l := by subst h; simp [sub]
/-- The search has come to step j. -/
def ToW (l : List S3) (c : List Int) (f t : Int) (j : Nat) : Prop := ∀ d, d < j → ¬ (wbN l c f t d).at' = f ∧ ¬ pickR l c (wbN l c f t d) < 0
section
variable {l : List S3} {c : List Int} {f t : Int} {j : Nat}
theorem wbN_zero3 : (wbN l c f t 0).row = [] ∧ (wbN l c f t 0).met = [t] ∧ (wbN l c f t 0).at' = t := ⟨rfl, rfl, rfl⟩
theorem ToW.zero : ToW l c f t 0 := fun d hd => by omega
theorem ToW.next (h : ToW l c f t j) (h1 : ¬ (wbN l c f t j).at' = f) (h2 : ¬ pickR l c (wbN l c f t j) < 0) : ToW l c f t (j + 1) := fun d hd => by
  rcases Nat.lt_or_ge d j with c1 | c1
  · exact h d c1
  · obtain rfl : d = j := by omega
    exact ⟨h1, h2⟩
theorem ToW.at_next (h1 : ¬ (wbN l c f t j).at' = f) (h2 : ¬ pickR l c (wbN l c f t j) < 0) : (wbN l c f t (j + 1)).at' = (l.getD (pickR l c (wbN l c f t j)).toNat ⟨0, 0, 0⟩).a := by rw [wbN_go h1 h2]; rfl
theorem ToW.met_next (h1 : ¬ (wbN l c f t j).at' = f) (h2 : ¬ pickR l c (wbN l c f t j) < 0) : (wbN l c f t (j + 1)).met = (wbN l c f t j).met ++ [(wbN l c f t (j + 1)).at'] := by rw [wbN_go h1 h2]; rfl
theorem ToW.row_next (h1 : ¬ (wbN l c f t j).at' = f) (h2 : ¬ pickR l c (wbN l c f t j) < 0) : (wbN l c f t (j + 1)).row = (wbN l c f t j).row ++ [pickR l c (wbN l c f t j)] := by rw [wbN_go h1 h2]; rfl
theorem ToW.yes (hg : goodRoads l = true) (ht : 0 ≤ t ∧ t < 8) (h : ToW l c f t j) (h1 : (wbN l c f t j).at' = f) : wbOk l c f t = true ∧ wbL l c f t = (wbN l c f t j).row.reverse := by
  have e := wb_end hg ht h (.inl h1)
  have hk : wbOk l c f t = true := by rw [wbOk, e]; simp [h1]
  exact ⟨hk, by rw [wbL, if_pos hk, e]⟩
theorem ToW.no (hg : goodRoads l = true) (ht : 0 ≤ t ∧ t < 8) (h : ToW l c f t j) (h0 : ¬ (wbN l c f t j).at' = f) (h1 : pickR l c (wbN l c f t j) < 0) : wbOk l c f t = false ∧ wbL l c f t = [] := by
  have e := wb_end hg ht h (.inr h1)
  have hk : wbOk l c f t = false := by rw [wbOk, e]; simp [h0]
  exact ⟨hk, by rw [wbL, hk]; rfl⟩
theorem way_none (h : ¬ (fine l && btw 0 7 f && btw 0 7 t) = true) : okWay l f t = false ∧ wayL l f t = [] := by
  have hk : okWay l f t = false := by
    rw [okWay]
    cases e : (fine l && btw 0 7 f && btw 0 7 t)
    · rfl
    · exact absurd e h
  exact ⟨hk, by rw [wayL, hk]; rfl⟩
theorem way_eq (h : (fine l && btw 0 7 f && btw 0 7 t) = true) : okWay l f t = wbOk l (costFrom l f.toNat) f t ∧ wayL l f t = wbL l (costFrom l f.toNat) f t := by
  have hk : okWay l f t = wbOk l (costFrom l f.toNat) f t := by rw [okWay, h]; rfl
  refine ⟨hk, ?_⟩
  rw [wayL, hk]
  split
  · rfl
  · rename_i h2; rw [wbL, if_neg h2]
/-- Where the cost is Far there is no way, but that of none. -/
theorem way_far (hf : fine l = true) {f t : Int} (h1 : 0 ≤ f ∧ f < 8) (h2 : 0 ≤ t ∧ t < 8) (hc : (costFrom l f.toNat).getD t.toNat 0 = Far) : wbOk l (costFrom l f.toNat) f t = false ∧ wbL l (costFrom l f.toNat) f t = [] := by
  have hL := cf_least hf (n := f.toNat) (by omega)
  rw [show ((f.toNat : Nat) : Int) = f by omega] at hL
  have h0 : (wbN l (costFrom l f.toNat) f t 0) = ⟨t, [t], []⟩ := rfl
  refine ToW.no (j := 0) (fine_good hf) h2 ToW.zero ?_ ?_
  · rw [h0]
    intro e
    have e : t = f := e
    subst e
    have := hL.knows 0 t 0 (HasWay.nil _ _)
    unfold cAt at this
    rw [hc] at this
    unfold Far at this; omega
  · rw [h0]
    exact wb_far (fine_good hf) hL (by omega) h2 hc
section
variable {s : WS} {k : Nat} {d : S3}
theorem pick_all {k : Nat} (hk : k ≤ l.length) (h : l.length ≤ k) : idxF (pickP c s) (l.take k) = pickR l c s := by
  obtain rfl : k = l.length := by omega
  rw [List.take_of_length_le (Nat.le_refl _)]; rfl
theorem pick_yes (hk : k < l.length) (h0 : idxF (pickP c s) (l.take k) < 0) (h1 : (l.getD k d).b = s.at') (h2 : c.getD (l.getD k d).a.toNat 0 < 1000000000) (h3 : c.getD (l.getD k d).a.toNat 0 + (l.getD k d).c = c.getD s.at'.toNat 0)
    (h4 : hasB s.met (l.getD k d).a = false) : (k : Int) = idxF (pickP c s) (l.take (k + 1)) := by
  have h5 : pickP c s (l.getD k d) = true := by
    simp only [pickP, Bool.and_eq_true, Bool.not_eq_true', decide_eq_true_eq, decide_eq_false_iff_not, cAt]
    exact ⟨⟨⟨h1, by unfold Far; omega⟩, h3⟩, h4⟩
  rw [idx_take _ d hk, if_pos ⟨h0, h5⟩]
theorem pick_no (hk : k < l.length) (hA : c.getD (l.getD k d).a.toNat 0 ≤ Far) (h : ¬ (idxF (pickP c s) (l.take k) < 0 ∧ (l.getD k d).b = s.at' ∧ c.getD (l.getD k d).a.toNat 0 < 1000000000 ∧ c.getD (l.getD k d).a.toNat 0 + (l.getD k d).c = c.getD s.at'.toNat 0 ∧ hasB s.met (l.getD k d).a = false)) :
    idxF (pickP c s) (l.take k) = idxF (pickP c s) (l.take (k + 1)) := by
  rw [idx_take _ d hk, if_neg]
  rintro ⟨a, hp⟩
  simp only [pickP, Bool.and_eq_true, Bool.not_eq_true', decide_eq_true_eq, decide_eq_false_iff_not, cAt] at hp
  obtain ⟨⟨⟨b, e⟩, f⟩, g⟩ := hp
  exact h ⟨a, b, by unfold Far at *; omega, f, g⟩
end
end
end YtcljaokjjnmioaaAM
