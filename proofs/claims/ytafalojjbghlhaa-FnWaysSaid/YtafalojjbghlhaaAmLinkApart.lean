/- Lists that share nothing. In plain Lean. -/
import Derived.Lib.SlicesCompact
import Derived.Test.YtafalojjbghlhaaAmSortModels
import Derived.Test.YtafalojjbghlhaaAmRowModels
set_option linter.unusedVariables false
set_option linter.unusedSimpArgs false
namespace YtafalojjbghlhaaAM
open Go
/-- How many lists there are, and how long they are. -/
def fewB (ws : List (List Int)) : Bool := decide (ws.length ≤ 20) && ws.all fun w => decide (w.length ≤ 20)
def apartB (ws : List (List Int)) : Bool := fewB ws && decide ws.flatten.Nodup
def longB (w : List Int) : Bool := decide (20 < w.length)
theorem fewB_spec {ws : List (List Int)} (h : fewB ws = true) : ws.length ≤ 20 ∧ ∀ w ∈ ws, w.length ≤ 20 := by
  simp only [fewB, Bool.and_eq_true, decide_eq_true_eq, List.all_eq_true] at h
  exact h
/-- What stands ahead of place j of list i. -/
def catN (ws : List (List Int)) (i : Nat) : List Int := (ws.take i).flatten
def seenN (ws : List (List Int)) (i j : Nat) : List Int := catN ws i ++ (ws.getD i []).take j
theorem catN_zero (ws : List (List Int)) : catN ws 0 = [] := rfl
theorem catN_succ {ws : List (List Int)} {i : Nat} (h : i < ws.length) : catN ws (i + 1) = catN ws i ++ ws.getD i [] := by
  unfold catN
  rw [List.take_succ_eq_append_getElem h, List.flatten_append, getD_get h]
  simp
theorem catN_all (ws : List (List Int)) : catN ws ws.length = ws.flatten := by unfold catN; rw [List.take_length]
theorem seenN_zero (ws : List (List Int)) (i : Nat) : seenN ws i 0 = catN ws i := by unfold seenN; simp
theorem seenN_succ {ws : List (List Int)} {i j : Nat} (h : j < (ws.getD i []).length) : seenN ws i (j + 1) = seenN ws i j ++ [(ws.getD i []).getD j 0] := by
  unfold seenN
  rw [List.take_succ_eq_append_getElem h, getD_get h, List.append_assoc]
theorem seenN_all {ws : List (List Int)} {i : Nat} (h : i < ws.length) : seenN ws i (ws.getD i []).length = catN ws (i + 1) := by
  unfold seenN
  rw [List.take_length, catN_succ h]
theorem flat_le : ∀ (ws : List (List Int)), (∀ w ∈ ws, w.length ≤ 20) → ws.flatten.length ≤ 20 * ws.length
  | [], _ => by simp
  | w :: ws, h => by
    have ih := flat_le ws fun x hx => h x (by simp [hx])
    have := h w (by simp)
    simp only [List.flatten_cons, List.length_append, List.length_cons]
    omega
theorem catN_le {ws : List (List Int)} (h : fewB ws = true) (i : Nat) : (catN ws i).length ≤ 400 := by
  have h1 := fewB_spec h
  have h2 := flat_le (ws.take i) fun w hw => h1.2 w (List.mem_of_mem_take hw)
  rw [List.length_take] at h2
  unfold catN
  omega
theorem row_le {ws : List (List Int)} (h : fewB ws = true) (i : Nat) : (ws.getD i []).length ≤ 20 := by
  rcases Nat.lt_or_ge i ws.length with c | c
  · rw [getD_get c]; exact (fewB_spec h).2 _ (List.getElem_mem c)
  · rw [List.getD_eq_getElem?_getD, List.getElem?_eq_none c]; simp
theorem seenN_le {ws : List (List Int)} (h : fewB ws = true) (i j : Nat) : (seenN ws i j).length ≤ 420 := by
  have h1 := catN_le h i
  have h2 := row_le h i
  unfold seenN
  rw [List.length_append, List.length_take]
  omega
/-- As long as nothing is seen twice. -/
theorem seen_next {ws : List (List Int)} {i j : Nat} (h : j < (ws.getD i []).length) (hn : (seenN ws i j).Nodup) (hs : hasB (seenN ws i j) ((ws.getD i []).getD j 0) = false) : (seenN ws i (j + 1)).Nodup := by
  rw [seenN_succ h, List.nodup_append]
  refine ⟨hn, by simp, fun a ha b hb e => ?_⟩
  rw [List.mem_singleton] at hb
  subst hb; subst e
  exact hasB_false.1 hs ha
theorem seen_sub {ws : List (List Int)} {i j : Nat} (h : i < ws.length) : (seenN ws i j).Sublist ws.flatten := by
  have e : ws.flatten = catN ws i ++ (ws.drop i).flatten := by
    unfold catN
    rw [← List.flatten_append, List.take_append_drop]
  unfold seenN
  rw [e]
  refine List.Sublist.append (List.Sublist.refl _) ?_
  rw [List.drop_eq_getElem_cons h, List.flatten_cons, getD_get h]
  exact (List.take_sublist _ _).trans (List.sublist_append_left _ _)
theorem seen_twice {ws : List (List Int)} {i j : Nat} (hi : i < ws.length) (h : j < (ws.getD i []).length) (hs : hasB (seenN ws i j) ((ws.getD i []).getD j 0) = true) : ¬ ws.flatten.Nodup := fun hn => by
  have h1 := hn.sublist (seen_sub (j := j + 1) hi)
  rw [seenN_succ h, List.nodup_append] at h1
  exact h1.2.2 _ (hasB_iff.1 hs) _ (List.mem_singleton.2 rfl) rfl
theorem rise_nodup {zs : List Int} (h : zs.Pairwise (· < ·)) : zs.Nodup := h.imp fun h e => by omega
theorem chain_lt : ∀ {zs : List Int}, zs.Pairwise (· ≤ ·) → (∀ j, j + 1 < zs.length → zs.getD (j + 1) 0 ≠ zs.getD j 0) → zs.Pairwise (· < ·)
  | [], _, _ => List.Pairwise.nil
  | [x], _, _ => List.pairwise_singleton _ _
  | x :: y :: zs, h, hn => by
    rw [List.pairwise_cons] at h
    have ih := chain_lt h.2 fun j hj => by
      have := hn (j + 1) (by simp at hj ⊢; omega)
      simpa using this
    rw [List.pairwise_cons]
    refine ⟨fun z hz => ?_, ih⟩
    have h0 := hn 0 (by simp)
    simp at h0
    have h1 := h.1 y (by simp)
    rcases List.mem_cons.1 hz with rfl | hz
    · omega
    · have := (List.pairwise_cons.1 ih).1 z hz
      omega
theorem get_bang {zs : List Int} {j : Nat} (h : j < zs.length) : zs.toArray[j]! = zs.getD j 0 := by
  rw [getElem!_pos zs.toArray j (by simpa using h), getD_get h]; simp
/-- A row in order is as long when what stands twice is left out, if nothing does. -/
theorem compact_nodup {zs : List Int} (hs : zs.Pairwise (· ≤ ·)) : (Lib.compact zs).length = zs.length ↔ zs.Nodup := by
  have e : (Lib.compact zs).length = ((List.range zs.length).filter (Lib.keeps zs.toArray)).length := by simp [Lib.compact, Lib.compactUpTo]
  rw [e]
  constructor
  · intro h
    have h2 : ((List.range zs.length).filter (Lib.keeps zs.toArray)).length = (List.range zs.length).length := by rw [h, List.length_range]
    rw [List.length_filter_eq_length_iff] at h2
    refine rise_nodup (chain_lt hs fun j hj e => ?_)
    have := h2 (j + 1) (List.mem_range.2 hj)
    simp only [Lib.keeps, decide_eq_true_eq, Nat.add_sub_cancel] at this
    rw [get_bang hj, get_bang (by omega)] at this
    rcases this with h | h
    · omega
    · exact h e
  · intro h
    have h2 : (List.range zs.length).filter (Lib.keeps zs.toArray) = List.range zs.length := List.filter_eq_self.2 fun j hj => by
      have hj := List.mem_range.1 hj
      simp only [Lib.keeps, decide_eq_true_eq]
      rcases Nat.eq_zero_or_pos j with c | c
      · exact .inl c
      · refine .inr fun e => ?_
        rw [get_bang hj, get_bang (by omega), getD_get hj, getD_get (by omega)] at e
        exact List.pairwise_iff_getElem.1 h (j - 1) j (by omega) hj (by omega) e.symm
    rw [h2, List.length_range]
theorem mergeSort_ok (zs : List Int) : (zs.mergeSort fun x y => decide (x ≤ y)).Pairwise (· ≤ ·) := by
  have h := List.pairwise_mergeSort (le := fun x y : Int => decide (x ≤ y)) (fun a b c => by simp only [decide_eq_true_eq]; omega) (fun a b => by simp only [Bool.or_eq_true, decide_eq_true_eq]; omega) zs
  exact h.imp fun h => by simpa using h
end YtafalojjbghlhaaAM
