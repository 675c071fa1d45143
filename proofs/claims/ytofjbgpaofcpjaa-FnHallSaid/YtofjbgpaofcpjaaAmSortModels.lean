/- Sorting few numbers by insertion, in plain Lean. -/
import Derived.Test.YtofjbgpaofcpjaaAmModels
set_option linter.unusedVariables false
set_option linter.unusedSimpArgs false
namespace YtofjbgpaofcpjaaAM

abbrev Up (l : List Int) : Prop := l.Pairwise (· ≤ ·)
/-- A number laid into a list that rises, behind all that are not greater. -/
def ins (x : Int) (s : List Int) : List Int := s.filter (fun y => decide (y ≤ x)) ++ x :: s.filter (fun y => decide (x < y))
/-- A number at place j. -/
def insAt (x : Int) (s : List Int) (j : Nat) : List Int := s.take j ++ x :: s.drop j
theorem ins_length (x : Int) (s : List Int) : (ins x s).length = s.length + 1 := by
  unfold ins
  rw [List.length_append, List.length_cons]
  have : (s.filter fun y => decide (y ≤ x)).length + (s.filter fun y => decide (x < y)).length = s.length := by
    induction s with
    | nil => rfl
    | cons a s ih =>
      simp only [List.filter_cons]
      by_cases h : a ≤ x
      · rw [if_pos (by simpa using h), if_neg (by simp; omega)]
        simp only [List.length_cons]; omega
      · rw [if_neg (by simpa using h), if_pos (by simp; omega)]
        simp only [List.length_cons]; omega
  omega
theorem ins_mem {x y : Int} {s : List Int} : y ∈ ins x s ↔ y = x ∨ y ∈ s := by
  unfold ins
  simp only [List.mem_append, List.mem_cons, List.mem_filter, decide_eq_true_eq]
  constructor
  · rintro (⟨h, _⟩ | rfl | ⟨h, _⟩)
    · exact .inr h
    · exact .inl rfl
    · exact .inr h
  · rintro (rfl | h)
    · exact .inr (.inl rfl)
    · rcases Int.lt_or_le x y with hc | hc
      · exact .inr (.inr ⟨h, hc⟩)
      · exact .inl ⟨h, hc⟩
theorem ins_up {x : Int} {s : List Int} (h : Up s) : Up (ins x s) := by
  unfold ins
  rw [Up, List.pairwise_append]
  refine ⟨h.filter _, ?_, fun a ha b hb => ?_⟩
  · rw [List.pairwise_cons]
    refine ⟨fun b hb => ?_, h.filter _⟩
    have := (List.mem_filter.1 hb).2
    simp at this; omega
  · have h1 := (List.mem_filter.1 ha).2
    simp at h1
    rcases List.mem_cons.1 hb with rfl | hb
    · exact h1
    · have h2 := (List.mem_filter.1 hb).2
      simp at h2; omega
/-- Where it comes to lie. -/
theorem insAt_ins {x : Int} {s : List Int} {j : Nat} (h : Up s) (h1 : ∀ y ∈ s.drop j, x < y) (h2 : j = 0 ∨ s.getD (j - 1) 0 ≤ x) (hj : j ≤ s.length) : insAt x s j = ins x s := by
  have hA : ∀ y ∈ s.take j, y ≤ x := fun y hy => by
    rcases h2 with rfl | h2
    · simp at hy
    · obtain ⟨i, hi, rfl⟩ := List.getElem_of_mem hy
      simp only [List.length_take] at hi
      rw [List.getElem_take]
      have hj1 : j - 1 < s.length := by omega
      rw [getD_get hj1] at h2
      rcases Nat.lt_or_ge i (j - 1) with hlt | hge
      · have := (List.pairwise_iff_getElem.1 h) i (j - 1) (by omega) hj1 hlt
        omega
      · have : i = j - 1 := by omega
        subst this; exact h2
  have e : s.take j ++ s.drop j = s := List.take_append_drop j s
  unfold insAt ins
  have f1 : s.filter (fun y => decide (y ≤ x)) = s.take j := by
    conv => lhs; rw [← e]
    rw [List.filter_append, List.filter_eq_self.2 (fun y hy => by simpa using hA y hy), List.filter_eq_nil_iff.2 (fun y hy => by have := h1 y hy; simp; omega), List.append_nil]
  have f2 : s.filter (fun y => decide (x < y)) = s.drop j := by
    conv => lhs; rw [← e]
    rw [List.filter_append, List.filter_eq_nil_iff.2 (fun y hy => by have := hA y hy; simp; omega), List.filter_eq_self.2 (fun y hy => by simpa using h1 y hy), List.nil_append]
  rw [f1, f2]
/-- The first k numbers, sorted. -/
def sortN (l : List Int) (k : Nat) : List Int := foldN (fun s i => match l[i]? with | some x => ins x s | none => s) [] k
def sortI (l : List Int) : List Int := sortN l l.length
theorem sortN_zero (l : List Int) : sortN l 0 = [] := rfl
theorem sortN_succ {l : List Int} {k : Nat} (h : k < l.length) : sortN l (k + 1) = ins (l.getD k 0) (sortN l k) := by
  show (match l[k]? with | some x => ins x (sortN l k) | none => sortN l k) = _
  rw [List.getElem?_eq_getElem h, getD_get h]
theorem sortN_stop {l : List Int} {k : Nat} (h : l.length ≤ k) : sortN l (k + 1) = sortN l k := by
  show (match l[k]? with | some x => ins x (sortN l k) | none => sortN l k) = _
  rw [List.getElem?_eq_none h]
theorem sortN_len {l : List Int} : ∀ k, k ≤ l.length → (sortN l k).length = k
  | 0, _ => rfl
  | k + 1, h => by rw [sortN_succ h, ins_length, sortN_len k (by omega)]
theorem sortN_up (l : List Int) : ∀ k, Up (sortN l k)
  | 0 => List.Pairwise.nil
  | k + 1 => by
    rcases Nat.lt_or_ge k l.length with h | h
    · rw [sortN_succ h]; exact ins_up (sortN_up l k)
    · rw [sortN_stop h]; exact sortN_up l k
theorem sortN_mem {l : List Int} {y : Int} : ∀ k, k ≤ l.length → (y ∈ sortN l k ↔ y ∈ l.take k)
  | 0, _ => by simp [sortN_zero]
  | k + 1, h => by
    rw [sortN_succ h, ins_mem, sortN_mem k (by omega), List.take_add_one, List.getElem?_eq_getElem h, getD_get h]
    simp only [Option.toList_some, List.mem_append, List.mem_singleton]
    exact or_comm
theorem sortI_len (l : List Int) : (sortI l).length = l.length := sortN_len _ (Nat.le_refl _)
theorem sortI_up (l : List Int) : Up (sortI l) := sortN_up l _
theorem sortI_mem {l : List Int} {y : Int} : y ∈ sortI l ↔ y ∈ l := by
  have := sortN_mem (y := y) l.length (Nat.le_refl _)
  rw [List.take_of_length_le (Nat.le_refl _)] at this
  exact this
/-- Two lists that rise strictly, of the same numbers, are the same. -/
theorem rise_eq : ∀ {a b : List Int}, a.Pairwise (· < ·) → b.Pairwise (· < ·) → (∀ x, x ∈ a ↔ x ∈ b) → a = b
  | [], [], _, _, _ => rfl
  | [], y :: b, _, _, h => by have := (h y).2 (by simp); simp at this
  | x :: a, [], _, _, h => by have := (h x).1 (by simp); simp at this
  | x :: a, y :: b, ha, hb, h => by
    rw [List.pairwise_cons] at ha hb
    have e : x = y := by
      rcases List.mem_cons.1 ((h x).1 (by simp)) with e | h1
      · exact e
      · rcases List.mem_cons.1 ((h y).2 (by simp)) with e | h2
        · exact e.symm
        · have := ha.1 y h2
          have := hb.1 x h1
          omega
    subst e
    congr 1
    refine rise_eq ha.2 hb.2 fun z => ?_
    constructor
    · intro hz
      rcases List.mem_cons.1 ((h z).1 (by simp [hz])) with e | h1
      · subst e; have := ha.1 z hz; omega
      · exact h1
    · intro hz
      rcases List.mem_cons.1 ((h z).2 (by simp [hz])) with e | h1
      · subst e; have := hb.1 z hz; omega
      · exact h1
theorem ins_nodup {x : Int} {s : List Int} (h : s.Nodup) (hx : x ∉ s) : (ins x s).Nodup := by
  unfold ins
  rw [List.nodup_append]
  refine ⟨h.filter _, ?_, fun a ha b hb => ?_⟩
  · rw [List.nodup_cons]
    exact ⟨fun hm => hx (List.mem_filter.1 hm).1, h.filter _⟩
  · have h1 := (List.mem_filter.1 ha)
    rcases List.mem_cons.1 hb with rfl | hb
    · intro e; subst e; exact hx h1.1
    · have h2 := (List.mem_filter.1 hb).2
      have h3 := h1.2
      simp at h2 h3; omega
theorem sortN_nodup {l : List Int} (h : l.Nodup) : ∀ k, k ≤ l.length → (sortN l k).Nodup
  | 0, _ => by simp [sortN_zero]
  | k + 1, hk => by
    rw [sortN_succ hk]
    refine ins_nodup (sortN_nodup h k (by omega)) fun hm => ?_
    rw [sortN_mem k (by omega), getD_get hk] at hm
    obtain ⟨i, hi, e⟩ := List.getElem_of_mem hm
    simp only [List.length_take] at hi
    rw [List.getElem_take] at e
    have := (List.pairwise_iff_getElem.1 h) i k (by omega) hk (by omega)
    exact this e
theorem sortI_rise {l : List Int} (h : l.Nodup) : (sortI l).Pairwise (· < ·) := by
  rw [List.pairwise_iff_getElem]
  intro i j hi hj hij
  have h1 := (List.pairwise_iff_getElem.1 (sortI_up l)) i j hi hj hij
  have h2 := (List.pairwise_iff_getElem.1 (sortN_nodup h l.length (Nat.le_refl _))) i j hi hj hij
  have h2 : (sortI l)[i] ≠ (sortI l)[j] := h2
  omega
/-! ### The steps of the loop -/
/-- The list while number k is on its way, at place j. -/
def midL (l : List Int) (k j : Nat) : List Int := insAt (l.getD k 0) (sortN l k) j ++ l.drop (k + 1)
theorem midL_len {l : List Int} {k j : Nat} (hk : k < l.length) (hj : j ≤ k) : (midL l k j).length = l.length := by
  have := sortN_len (l := l) k (by omega)
  simp only [midL, insAt, List.length_append, List.length_take, List.length_cons, List.length_drop]
  omega
theorem midL_start {l : List Int} {k : Nat} (hk : k < l.length) : midL l k k = sortN l k ++ l.drop k := by
  have := sortN_len (l := l) k (by omega)
  rw [midL, insAt, List.take_of_length_le (by omega), List.drop_of_length_le (by omega), List.drop_eq_getElem_cons hk, getD_get hk]
  simp
theorem midL_at {l : List Int} {k j : Nat} (hk : k < l.length) (hj : j ≤ k) : (midL l k j).getD j 0 = l.getD k 0 := by
  have := sortN_len (l := l) k (by omega)
  simp only [midL, insAt, List.getD_eq_getElem?_getD]
  rw [List.getElem?_append_left (by simp; omega), List.getElem?_append_right (by simp; omega)]
  simp [show j - min j (sortN l k).length = 0 by omega]
theorem midL_below {l : List Int} {k j : Nat} (hk : k < l.length) (hj : j ≤ k) (h0 : 0 < j) : (midL l k j).getD (j - 1) 0 = (sortN l k).getD (j - 1) 0 := by
  have := sortN_len (l := l) k (by omega)
  simp only [midL, insAt, List.getD_eq_getElem?_getD]
  rw [List.getElem?_append_left (by simp; omega), List.getElem?_append_left (by simp; omega), List.getElem?_take, if_pos (by omega)]
theorem midL_swap {l : List Int} {k j : Nat} (hk : k < l.length) (hj : j ≤ k) (h0 : 0 < j) : midL l k (j - 1) = ((midL l k j).set j ((midL l k j).getD (j - 1) 0)).set (j - 1) ((midL l k j).getD j 0) := by
  have hs := sortN_len (l := l) k (by omega)
  rw [midL_at hk hj, midL_below hk hj h0]
  apply List.ext_getElem
  · rw [List.length_set, List.length_set, midL_len hk (by omega), midL_len hk hj]
  · intro i h1 h2
    rw [midL_len hk (by omega)] at h1
    rw [List.getElem_set, List.getElem_set]
    have key : ∀ (j' : Nat) (hj' : j' ≤ k) (h : i < (midL l k j').length), (midL l k j')[i] = if i < j' then (sortN l k).getD i 0 else if i = j' then l.getD k 0 else if i ≤ k then (sortN l k).getD (i - 1) 0 else l.getD i 0 := fun j' hj' h => by
      rw [← getD_get (d := 0) h]
      simp only [midL, insAt, List.getD_eq_getElem?_getD]
      rcases Nat.lt_or_ge i j' with c | c
      · rw [if_pos c, List.getElem?_append_left (by simp; omega), List.getElem?_append_left (by simp; omega), List.getElem?_take, if_pos c]
      · rw [if_neg (by omega)]
        by_cases c2 : i = j'
        · subst c2
          rw [if_pos rfl, List.getElem?_append_left (by simp; omega), List.getElem?_append_right (by simp; omega)]
          simp [show i - min i (sortN l k).length = 0 by omega]
        · rw [if_neg c2]
          by_cases c3 : i ≤ k
          · rw [if_pos c3, List.getElem?_append_left (by simp; omega), List.getElem?_append_right (by simp; omega)]
            obtain ⟨m, hm⟩ : ∃ m, i - min j' (sortN l k).length = m + 1 := ⟨i - j' - 1, by omega⟩
            simp only [List.length_take, hm, List.getElem?_cons_succ, List.getElem?_drop]
            rw [show j' + m = i - 1 by omega]
          · rw [if_neg c3, List.getElem?_append_right (by simp; omega)]
            simp only [List.length_append, List.length_take, List.length_cons, List.length_drop, List.getElem?_drop]
            rw [show k + 1 + (i - (min j' (sortN l k).length + ((sortN l k).length - j' + 1))) = i by omega]
    rw [key (j - 1) (by omega)]
    by_cases c1 : j - 1 = i
    · rw [if_pos c1, if_neg (by omega), if_pos (by omega)]
    · rw [if_neg c1]
      by_cases c2 : j = i
      · rw [if_pos c2, if_neg (by omega), if_neg (by omega), if_pos (by omega), c2]
      · rw [if_neg c2, key j hj]
        by_cases c3 : i < j - 1
        · rw [if_pos c3, if_pos (by omega)]
        · rw [if_neg c3, if_neg (show ¬ i = j - 1 by omega), if_neg (show ¬ i < j by omega), if_neg (show ¬ i = j by omega)]
theorem midL_end {l : List Int} {k j : Nat} (hk : k < l.length) (hj : j ≤ k) (h1 : ∀ y ∈ (sortN l k).drop j, l.getD k 0 < y) (h2 : j = 0 ∨ (sortN l k).getD (j - 1) 0 ≤ l.getD k 0) : midL l k j = sortN l (k + 1) ++ l.drop (k + 1) := by
  have hs := sortN_len (l := l) k (by omega)
  rw [midL, insAt_ins (sortN_up l k) h1 h2 (by omega), sortN_succ hk]
theorem drop_more {s : List Int} {j : Nat} {x : Int} (h0 : 0 < j) (hj : j ≤ s.length) (h1 : ∀ y ∈ s.drop j, x < y) (h2 : x < s.getD (j - 1) 0) : ∀ y ∈ s.drop (j - 1), x < y := fun y hy => by
  rw [List.drop_eq_getElem_cons (by omega), show j - 1 + 1 = j by omega] at hy
  rcases List.mem_cons.1 hy with rfl | hy
  · rw [getD_get (by omega)] at h2; exact h2
  · exact h1 y hy
theorem sort_start (l : List Int) : sortN l 1 ++ l.drop 1 = l := by
  cases l with
  | nil => rfl
  | cons x r => rfl
theorem sort_done {l : List Int} {k : Nat} (h : l.length ≤ k) : sortN l k ++ l.drop k = sortI l := by
  rw [List.drop_of_length_le h, List.append_nil]
  have : ∀ d, sortN l (l.length + d) = sortI l := fun d => by
    induction d with
    | zero => rfl
    | succ d ih => rw [← Nat.add_assoc, sortN_stop (by omega), ih]
  have := this (k - l.length)
  rwa [show l.length + (k - l.length) = k by omega] at this
end YtofjbgpaofcpjaaAM
