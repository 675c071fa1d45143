/- Sorting by a key, equals in their order, by insertion, in plain Lean. -/
import Derived.Test.YtofjbgpaofcpjaaAmSortModels
set_option linter.unusedVariables false
set_option linter.unusedSimpArgs false
namespace YtofjbgpaofcpjaaAM

abbrev UpK (key : Int → Int) (l : List Int) : Prop := l.Pairwise (fun a b => key a ≤ key b)
section
variable {key : Int → Int}
/-- A number laid into a list that rises, behind all that are not greater. -/
def insK (key : Int → Int) (x : Int) (s : List Int) : List Int := s.filter (fun y => decide (key y ≤ key x)) ++ x :: s.filter (fun y => decide (key x < key y))
theorem ins_lengthK (x : Int) (s : List Int) : (insK key x s).length = s.length + 1 := by
  unfold insK
  rw [List.length_append, List.length_cons]
  have : (s.filter fun y => decide (key y ≤ key x)).length + (s.filter fun y => decide (key x < key y)).length = s.length := by
    induction s with
    | nil => rfl
    | cons a s ih =>
      simp only [List.filter_cons]
      by_cases h : key a ≤ key x
      · rw [if_pos (by simpa using h), if_neg (by simp; omega)]
        simp only [List.length_cons]; omega
      · rw [if_neg (by simpa using h), if_pos (by simp; omega)]
        simp only [List.length_cons]; omega
  omega
theorem ins_memK {x y : Int} {s : List Int} : y ∈ insK key x s ↔ y = x ∨ y ∈ s := by
  unfold insK
  simp only [List.mem_append, List.mem_cons, List.mem_filter, decide_eq_true_eq]
  constructor
  · rintro (⟨h, _⟩ | rfl | ⟨h, _⟩)
    · exact .inr h
    · exact .inl rfl
    · exact .inr h
  · rintro (rfl | h)
    · exact .inr (.inl rfl)
    · rcases Int.lt_or_le (key x) (key y) with hc | hc
      · exact .inr (.inr ⟨h, hc⟩)
      · exact .inl ⟨h, hc⟩
theorem ins_upK {x : Int} {s : List Int} (h : UpK key s) : UpK key (insK key x s) := by
  unfold insK
  rw [UpK, List.pairwise_append]
  refine ⟨h.filter _, ?_, fun a ha b hb => ?_⟩
  · rw [List.pairwise_cons]
    refine ⟨fun b hb => ?_, h.filter _⟩
    have := (List.mem_filter.1 hb).2
    simp at this; omega
  · have h1 := (List.mem_filter.1 ha).2
    simp at h1
    rcases List.mem_cons.1 hb with rfl | hb
    · exact h1
    · have h2 := (List.mem_filter.1 hb).2
      simp at h2; omega
/-- Where it comes to lie. -/
theorem insAt_insK {x : Int} {s : List Int} {j : Nat} (h : UpK key s) (h1 : ∀ y ∈ s.drop j, key x < key y) (h2 : j = 0 ∨ key (s.getD (j - 1) 0) ≤ key x) (hj : j ≤ s.length) : insAt x s j = insK key x s := by
  have hA : ∀ y ∈ s.take j, key y ≤ key x := fun y hy => by
    rcases h2 with rfl | h2
    · simp at hy
    · obtain ⟨i, hi, rfl⟩ := List.getElem_of_mem hy
      simp only [List.length_take] at hi
      rw [List.getElem_take]
      have hj1 : j - 1 < s.length := by omega
      rw [getD_get hj1] at h2
      rcases Nat.lt_or_ge i (j - 1) with hlt | hge
      · have := (List.pairwise_iff_getElem.1 h) i (j - 1) (by omega) hj1 hlt
        omega
      · have : i = j - 1 := by omega
        subst this; exact h2
  have e : s.take j ++ s.drop j = s := List.take_append_drop j s
  unfold insAt insK
  have f1 : s.filter (fun y => decide (key y ≤ key x)) = s.take j := by
    conv => lhs; rw [← e]
    rw [List.filter_append, List.filter_eq_self.2 (fun y hy => by simpa using hA y hy), List.filter_eq_nil_iff.2 (fun y hy => by have := h1 y hy; simp; omega), List.append_nil]
  have f2 : s.filter (fun y => decide (key x < key y)) = s.drop j := by
    conv => lhs; rw [← e]
    rw [List.filter_append, List.filter_eq_nil_iff.2 (fun y hy => by have := hA y hy; simp; omega), List.filter_eq_self.2 (fun y hy => by simpa using h1 y hy), List.nil_append]
  rw [f1, f2]
/-- The first k numbers, sorted. -/
def sortNK (key : Int → Int) (l : List Int) (k : Nat) : List Int := foldN (fun s i => match l[i]? with | some x => insK key x s | none => s) [] k
def sortIK (key : Int → Int) (l : List Int) : List Int := sortNK key l l.length
theorem sortN_zeroK (l : List Int) : sortNK key l 0 = [] := rfl
theorem sortN_succK {l : List Int} {k : Nat} (h : k < l.length) : sortNK key l (k + 1) = insK key (l.getD k 0) (sortNK key l k) := by
  show (match l[k]? with | some x => insK key x (sortNK key l k) | none => sortNK key l k) = _
  rw [List.getElem?_eq_getElem h, getD_get h]
theorem sortN_stopK {l : List Int} {k : Nat} (h : l.length ≤ k) : sortNK key l (k + 1) = sortNK key l k := by
  show (match l[k]? with | some x => insK key x (sortNK key l k) | none => sortNK key l k) = _
  rw [List.getElem?_eq_none h]
theorem sortN_lenK {l : List Int} : ∀ k, k ≤ l.length → (sortNK key l k).length = k
  | 0, _ => rfl
  | k + 1, h => by rw [sortN_succK h, ins_lengthK, sortN_lenK k (by omega)]
theorem sortN_upK (l : List Int) : ∀ k, UpK key (sortNK key l k)
  | 0 => List.Pairwise.nil
  | k + 1 => by
    rcases Nat.lt_or_ge k l.length with h | h
    · rw [sortN_succK h]; exact ins_upK (sortN_upK l k)
    · rw [sortN_stopK h]; exact sortN_upK l k
theorem sortN_memK {l : List Int} {y : Int} : ∀ k, k ≤ l.length → (y ∈ sortNK key l k ↔ y ∈ l.take k)
  | 0, _ => by simp [sortN_zeroK]
  | k + 1, h => by
    rw [sortN_succK h, ins_memK, sortN_memK k (by omega), List.take_add_one, List.getElem?_eq_getElem h, getD_get h]
    simp only [Option.toList_some, List.mem_append, List.mem_singleton]
    exact or_comm
theorem sortI_lenK (l : List Int) : (sortIK key l).length = l.length := sortN_lenK _ (Nat.le_refl _)
theorem sortI_upK (l : List Int) : UpK key (sortIK key l) := sortN_upK l _
theorem sortI_memK {l : List Int} {y : Int} : y ∈ sortIK key l ↔ y ∈ l := by
  have := sortN_memK (key := key) (y := y) l.length (Nat.le_refl _)
  rw [List.take_of_length_le (Nat.le_refl _)] at this
  exact this
theorem ins_nodupK {x : Int} {s : List Int} (h : s.Nodup) (hx : x ∉ s) : (insK key x s).Nodup := by
  unfold insK
  rw [List.nodup_append]
  refine ⟨h.filter _, ?_, fun a ha b hb => ?_⟩
  · rw [List.nodup_cons]
    exact ⟨fun hm => hx (List.mem_filter.1 hm).1, h.filter _⟩
  · have h1 := (List.mem_filter.1 ha)
    rcases List.mem_cons.1 hb with rfl | hb
    · intro e; subst e; exact hx h1.1
    · have h2 := (List.mem_filter.1 hb).2
      have h3 := h1.2
      simp only [decide_eq_true_eq] at h2 h3
      intro e
      subst e
      omega
theorem sortN_nodupK {l : List Int} (h : l.Nodup) : ∀ k, k ≤ l.length → (sortNK key l k).Nodup
  | 0, _ => by simp [sortN_zeroK]
  | k + 1, hk => by
    rw [sortN_succK hk]
    refine ins_nodupK (sortN_nodupK h k (by omega)) fun hm => ?_
    rw [sortN_memK k (by omega), getD_get hk] at hm
    obtain ⟨i, hi, e⟩ := List.getElem_of_mem hm
    simp only [List.length_take] at hi
    rw [List.getElem_take] at e
    have := (List.pairwise_iff_getElem.1 h) i k (by omega) hk (by omega)
    exact this e
/-! ### The steps of the loop -/
/-- The list while number k is on its way, at place j. -/
def midLK (key : Int → Int) (l : List Int) (k j : Nat) : List Int := insAt (l.getD k 0) (sortNK key l k) j ++ l.drop (k + 1)
theorem midL_lenK {l : List Int} {k j : Nat} (hk : k < l.length) (hj : j ≤ k) : (midLK key l k j).length = l.length := by
  have := sortN_lenK (key := key) (l := l) k (by omega)
  simp only [midLK, insAt, List.length_append, List.length_take, List.length_cons, List.length_drop]
  omega
theorem midL_startK {l : List Int} {k : Nat} (hk : k < l.length) : midLK key l k k = sortNK key l k ++ l.drop k := by
  have := sortN_lenK (key := key) (l := l) k (by omega)
  rw [midLK, insAt, List.take_of_length_le (by omega), List.drop_of_length_le (by omega), List.drop_eq_getElem_cons hk, getD_get hk]
  simp
theorem midL_atK {l : List Int} {k j : Nat} (hk : k < l.length) (hj : j ≤ k) : (midLK key l k j).getD j 0 = l.getD k 0 := by
  have := sortN_lenK (key := key) (l := l) k (by omega)
  simp only [midLK, insAt, List.getD_eq_getElem?_getD]
  rw [List.getElem?_append_left (by simp; omega), List.getElem?_append_right (by simp; omega)]
  simp [show j - min j (sortNK key l k).length = 0 by omega]
theorem midL_belowK {l : List Int} {k j : Nat} (hk : k < l.length) (hj : j ≤ k) (h0 : 0 < j) : (midLK key l k j).getD (j - 1) 0 = (sortNK key l k).getD (j - 1) 0 := by
  have := sortN_lenK (key := key) (l := l) k (by omega)
  simp only [midLK, insAt, List.getD_eq_getElem?_getD]
  rw [List.getElem?_append_left (by simp; omega), List.getElem?_append_left (by simp; omega), List.getElem?_take, if_pos (by omega)]
theorem midL_swapK {l : List Int} {k j : Nat} (hk : k < l.length) (hj : j ≤ k) (h0 : 0 < j) : midLK key l k (j - 1) = ((midLK key l k j).set j ((midLK key l k j).getD (j - 1) 0)).set (j - 1) ((midLK key l k j).getD j 0) := by
  have hs := sortN_lenK (key := key) (l := l) k (by omega)
  rw [midL_atK hk hj, midL_belowK hk hj h0]
  apply List.ext_getElem
  · rw [List.length_set, List.length_set, midL_lenK hk (by omega), midL_lenK hk hj]
  · intro i h1 h2
    rw [midL_lenK hk (by omega)] at h1
    rw [List.getElem_set, List.getElem_set]
    have key : ∀ (j' : Nat) (hj' : j' ≤ k) (h : i < (midLK key l k j').length), (midLK key l k j')[i] = if i < j' then (sortNK key l k).getD i 0 else if i = j' then l.getD k 0 else if i ≤ k then (sortNK key l k).getD (i - 1) 0 else l.getD i 0 := fun j' hj' h => by
      rw [← getD_get (d := 0) h]
      simp only [midLK, insAt, List.getD_eq_getElem?_getD]
      rcases Nat.lt_or_ge i j' with c | c
      · rw [if_pos c, List.getElem?_append_left (by simp; omega), List.getElem?_append_left (by simp; omega), List.getElem?_take, if_pos c]
      · rw [if_neg (by omega)]
        by_cases c2 : i = j'
        · subst c2
          rw [if_pos rfl, List.getElem?_append_left (by simp; omega), List.getElem?_append_right (by simp; omega)]
          simp [show i - min i (sortNK key l k).length = 0 by omega]
        · rw [if_neg c2]
          by_cases c3 : i ≤ k
          · rw [if_pos c3, List.getElem?_append_left (by simp; omega), List.getElem?_append_right (by simp; omega)]
            obtain ⟨m, hm⟩ : ∃ m, i - min j' (sortNK key l k).length = m + 1 := ⟨i - j' - 1, by omega⟩
            simp only [List.length_take, hm, List.getElem?_cons_succ, List.getElem?_drop]
            rw [show j' + m = i - 1 by omega]
          · rw [if_neg c3, List.getElem?_append_right (by simp; omega)]
            simp only [List.length_append, List.length_take, List.length_cons, List.length_drop, List.getElem?_drop]
            rw [show k + 1 + (i - (min j' (sortNK key l k).length + ((sortNK key l k).length - j' + 1))) = i by omega]
    rw [key (j - 1) (by omega)]
    by_cases c1 : j - 1 = i
    · rw [if_pos c1, if_neg (by omega), if_pos (by omega)]
    · rw [if_neg c1]
      by_cases c2 : j = i
      · rw [if_pos c2, if_neg (by omega), if_neg (by omega), if_pos (by omega), c2]
      · rw [if_neg c2, key j hj]
        by_cases c3 : i < j - 1
        · rw [if_pos c3, if_pos (by omega)]
        · rw [if_neg c3, if_neg (show ¬ i = j - 1 by omega), if_neg (show ¬ i < j by omega), if_neg (show ¬ i = j by omega)]
theorem midL_endK {l : List Int} {k j : Nat} (hk : k < l.length) (hj : j ≤ k) (h1 : ∀ y ∈ (sortNK key l k).drop j, key (l.getD k 0) < key y) (h2 : j = 0 ∨ key ((sortNK key l k).getD (j - 1) 0) ≤ key (l.getD k 0)) : midLK key l k j = sortNK key l (k + 1) ++ l.drop (k + 1) := by
  have hs := sortN_lenK (key := key) (l := l) k (by omega)
  rw [midLK, insAt_insK (sortN_upK l k) h1 h2 (by omega), sortN_succK hk]
theorem drop_moreK {s : List Int} {j : Nat} {x : Int} (h0 : 0 < j) (hj : j ≤ s.length) (h1 : ∀ y ∈ s.drop j, key x < key y) (h2 : key x < key (s.getD (j - 1) 0)) : ∀ y ∈ s.drop (j - 1), key x < key y := fun y hy => by
  rw [List.drop_eq_getElem_cons (by omega), show j - 1 + 1 = j by omega] at hy
  rcases List.mem_cons.1 hy with rfl | hy
  · rw [getD_get (by omega)] at h2; exact h2
  · exact h1 y hy
theorem sort_startK (l : List Int) : sortNK key l 1 ++ l.drop 1 = l := by
  cases l with
  | nil => rfl
  | cons x r => rfl
theorem sort_doneK {l : List Int} {k : Nat} (h : l.length ≤ k) : sortNK key l k ++ l.drop k = sortIK key l := by
  rw [List.drop_of_length_le h, List.append_nil]
  have : ∀ d, sortNK key l (l.length + d) = sortIK key l := fun d => by
    induction d with
    | zero => rfl
    | succ d ih => rw [← Nat.add_assoc, sortN_stopK (by omega), ih]
  have := this (k - l.length)
  rwa [show l.length + (k - l.length) = k by omega] at this
theorem sort_oneK (s : List Int) : sortNK key s 1 ++ s.drop 1 = s := sort_startK s
/-- A number put behind all whose key is not greater. -/
theorem put_behind {x : Int} {s : List Int} {i : Nat} (h : UpK key s) (hi : i ≤ s.length) (h1 : ∀ j, j < i → key (s.getD j 0) ≤ key x) (h2 : i = s.length ∨ key x < key (s.getD i 0)) : s.take i ++ [x] ++ s.drop i = insK key x s := by
  rw [← insAt_insK (j := i) h (fun y hy => ?_) (by
    rcases Nat.eq_zero_or_pos i with rfl | h0
    · exact .inl rfl
    · exact .inr (h1 (i - 1) (by omega))) hi]
  · simp [insAt]
  · obtain ⟨j, hj, rfl⟩ := List.getElem_of_mem hy
    rw [List.length_drop] at hj
    rw [List.getElem_drop]
    rcases h2 with h2 | h2
    · omega
    · rw [getD_get (by omega)] at h2
      rcases Nat.eq_zero_or_pos j with rfl | h0
      · exact h2
      · have := (List.pairwise_iff_getElem.1 h) i (i + j) (by omega) (by omega) (by omega)
        omega
end
theorem app_at {p m q : List Int} {j : Nat} (hj : j < m.length) : (p ++ m ++ q).getD (p.length + j) 0 = m.getD j 0 := by
  simp only [List.getD_eq_getElem?_getD]
  rw [List.getElem?_append_left (by simp; omega), List.getElem?_append_right (by omega), Nat.add_sub_cancel_left]
theorem app_set {p m q : List Int} {j : Nat} {x : Int} (hj : j < m.length) : (p ++ m ++ q).set (p.length + j) x = p ++ m.set j x ++ q := by
  rw [List.set_append_left _ _ (by simp; omega), List.set_append_right _ _ (by omega), Nat.add_sub_cancel_left]
end YtofjbgpaofcpjaaAM
