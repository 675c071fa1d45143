import Derived.Test.YtafalojjbghlhaaAmSortModels
import Derived.Test.YtafalojjbghlhaaAmRowModels
import Derived.Test.YtafalojjbghlhaaAmPutModels
section
/- Sorting by a key, equals in their order, by insertion, in plain Lean. -/
set_option linter.unusedVariables false
set_option linter.unusedSimpArgs false
namespace YtafalojjbghlhaaAM

abbrev UpK (key : Int → Int) (l : List Int) : Prop := l.Pairwise (fun a b => key a ≤ key b)
section
variable {key : Int → Int}
/-- A number laid into a list that rises, behind all that are not greater. -/
def insK (key : Int → Int) (x : Int) (s : List Int) : List Int := s.filter (fun y => decide (key y ≤ key x)) ++ x :: s.filter (fun y => decide (key x < key y))
theorem ins_lengthK (x : Int) (s : List Int) : (insK key x s).length = s.length + 1 := by
  unfold insK
  rw [List.length_append, List.length_cons]
  have : (s.filter fun y => decide (key y ≤ key x)).length + (s.filter fun y => decide (key x < key y)).length = s.length := by
    induction s with
    | nil => rfl
    | cons a s ih =>
      simp only [List.filter_cons]
      by_cases h : key a ≤ key x
      · rw [if_pos (by simpa using h), if_neg (by simp; omega)]
        simp only [List.length_cons]; omega
      · rw [if_neg (by simpa using h), if_pos (by simp; omega)]
        simp only [List.length_cons]; omega
  omega
theorem ins_memK {x y : Int} {s : List Int} : y ∈ insK key x s ↔ y = x ∨ y ∈ s := by
  unfold insK
  simp only [List.mem_append, List.mem_cons, List.mem_filter, decide_eq_true_eq]
  constructor
  · rintro (⟨h, _⟩ | rfl | ⟨h, _⟩)
    · exact .inr h
    · exact .inl rfl
    · exact .inr h
  · rintro (rfl | h)
    · exact .inr (.inl rfl)
    · rcases Int.lt_or_le (key x) (key y) with hc | hc
      · exact .inr (.inr ⟨h, hc⟩)
      · exact .inl ⟨h, hc⟩
theorem ins_upK {x : Int} {s : List Int} (h : UpK key s) : UpK key (insK key x s) := by
  unfold insK
  rw [UpK, List.pairwise_append]
  refine ⟨h.filter _, ?_, fun a ha b hb => ?_⟩
  · rw [List.pairwise_cons]
    refine ⟨fun b hb => ?_, h.filter _⟩
    have := (List.mem_filter.1 hb).2
    simp at this; omega
  · have h1 := (List.mem_filter.1 ha).2
    simp at h1
    rcases List.mem_cons.1 hb with rfl | hb
    · exact h1
    · have h2 := (List.mem_filter.1 hb).2
      simp at h2; omega
/-- Where it comes to lie. -/
theorem insAt_insK {x : Int} {s : List Int} {j : Nat} (h : UpK key s) (h1 : ∀ y ∈ s.drop j, key x < key y) (h2 : j = 0 ∨ key (s.getD (j - 1) 0) ≤ key x) (hj : j ≤ s.length) : insAt x s j = insK key x s := by
  have hA : ∀ y ∈ s.take j, key y ≤ key x := fun y hy => by
    rcases h2 with rfl | h2
    · simp at hy
    · obtain ⟨i, hi, rfl⟩ := List.getElem_of_mem hy
      simp only [List.length_take] at hi
      rw [List.getElem_take]
      have hj1 : j - 1 < s.length := by omega
      rw [getD_get hj1] at h2
      rcases Nat.lt_or_ge i (j - 1) with hlt | hge
      · have := (List.pairwise_iff_getElem.1 h) i (j - 1) (by omega) hj1 hlt
        omega
      · have : i = j - 1 := by omega
        subst this; exact h2
  have e : s.take j ++ s.drop j = s := List.take_append_drop j s
  unfold insAt insK
  have f1 : s.filter (fun y => decide (key y ≤ key x)) = s.take j := by
    conv => lhs; rw [← e]
    rw [List.filter_append, List.filter_eq_self.2 (fun y hy => by simpa using hA y hy), List.filter_eq_nil_iff.2 (fun y hy => by have := h1 y hy; simp; omega), List.append_nil]
  have f2 : s.filter (fun y => decide (key x < key y)) = s.drop j := by
    conv => lhs; rw [← e]
    rw [List.filter_append, List.filter_eq_nil_iff.2 (fun y hy => by have := hA y hy; simp; omega), List.filter_eq_self.2 (fun y hy => by simpa using h1 y hy), List.nil_append]
  rw [f1, f2]
/-- The first k numbers, sorted. -/
def sortNK (key : Int → Int) (l : List Int) (k : Nat) : List Int := foldN (fun s i => match l[i]? with | some x => insK key x s | none => s) [] k
def sortIK (key : Int → Int) (l : List Int) : List Int := sortNK key l l.length
theorem sortN_zeroK (l : List Int) : sortNK key l 0 = [] := rfl
theorem sortN_succK {l : List Int} {k : Nat} (h : k < l.length) : sortNK key l (k + 1) = insK key (l.getD k 0) (sortNK key l k) := by
  show (match l[k]? with | some x => insK key x (sortNK key l k) | none => sortNK key l k) = _
  rw [List.getElem?_eq_getElem h, getD_get h]
theorem sortN_stopK {l : List Int} {k : Nat} (h : l.length ≤ k) : sortNK key l (k + 1) = sortNK key l k := by
  show (match l[k]? with | some x => insK key x (sortNK key l k) | none => sortNK key l k) = _
  rw [List.getElem?_eq_none h]
theorem sortN_lenK {l : List Int} : ∀ k, k ≤ l.length → (sortNK key l k).length = k
  | 0, _ => rfl
  | k + 1, h => by rw [sortN_succK h, ins_lengthK, sortN_lenK k (by omega)]
theorem sortN_upK (l : List Int) : ∀ k, UpK key (sortNK key l k)
  | 0 => List.Pairwise.nil
  | k + 1 => by
    rcases Nat.lt_or_ge k l.length with h | h
    · rw [sortN_succK h]; exact ins_upK (sortN_upK l k)
    · rw [sortN_stopK h]; exact sortN_upK l k
theorem sortN_memK {l : List Int} {y : Int} : ∀ k, k ≤ l.length → (y ∈ sortNK key l k ↔ y ∈ l.take k)
  | 0, _ => by simp [sortN_zeroK]
  | k + 1, h => by
    rw [sortN_succK h, ins_memK, sortN_memK k (by omega), List.take_add_one, List.getElem?_eq_getElem h, getD_get h]
    simp only [Option.toList_some, List.mem_append, List.mem_singleton]
    exact or_comm
theorem sortI_lenK (l : List Int) : (sortIK key l).length = l.length := sortN_lenK _ (Nat.le_refl _)
theorem sortI_upK (l : List Int) : UpK key (sortIK key l) := sortN_upK l _
theorem sortI_memK {l : List Int} {y : Int} : y ∈ sortIK key l ↔ y ∈ l := by
  have := sortN_memK (key := key) (y := y) l.length (Nat.le_refl _)
  rw [List.take_of_length_le (Nat.le_refl _)] at this
  exact this
theorem ins_nodupK {x : Int} {s : List Int} (h : s.Nodup) (hx : x ∉ s) : (insK key x s).Nodup := by
  unfold insK
  rw [List.nodup_append]
  refine ⟨h.filter _, ?_, fun a ha b hb => ?_⟩
  · rw [List.nodup_cons]
    exact ⟨fun hm => hx (List.mem_filter.1 hm).1, h.filter _⟩
  · have h1 := (List.mem_filter.1 ha)
    rcases List.mem_cons.1 hb with rfl | hb
    · intro e; subst e; exact hx h1.1
    · have h2 := (List.mem_filter.1 hb).2
      have h3 := h1.2
      simp only [decide_eq_true_eq] at h2 h3
      intro e
      subst e
      omega
theorem sortN_nodupK {l : List Int} (h : l.Nodup) : ∀ k, k ≤ l.length → (sortNK key l k).Nodup
  | 0, _ => by simp [sortN_zeroK]
  | k + 1, hk => by
    rw [sortN_succK hk]
    refine ins_nodupK (sortN_nodupK h k (by omega)) fun hm => ?_
    rw [sortN_memK k (by omega), getD_get hk] at hm
    obtain ⟨i, hi, e⟩ := List.getElem_of_mem hm
    simp only [List.length_take] at hi
    rw [List.getElem_take] at e
    have := (List.pairwise_iff_getElem.1 h) i k (by omega) hk (by omega)
    exact this e
/-! ### The steps of the loop -/
/-- The list while number k is on its way, at place j. -/
def midLK (key : Int → Int) (l : List Int) (k j : Nat) : List Int := insAt (l.getD k 0) (sortNK key l k) j ++ l.drop (k + 1)
theorem midL_lenK {l : List Int} {k j : Nat} (hk : k < l.length) (hj : j ≤ k) : (midLK key l k j).length = l.length := by
  have := sortN_lenK (key := key) (l := l) k (by omega)
  simp only [midLK, insAt, List.length_append, List.length_take, List.length_cons, List.length_drop]
  omega
theorem midL_startK {l : List Int} {k : Nat} (hk : k < l.length) : midLK key l k k = sortNK key l k ++ l.drop k := by
  have := sortN_lenK (key := key) (l := l) k (by omega)
  rw [midLK, insAt, List.take_of_length_le (by omega), List.drop_of_length_le (by omega), List.drop_eq_getElem_cons hk, getD_get hk]
  simp
theorem midL_atK {l : List Int} {k j : Nat} (hk : k < l.length) (hj : j ≤ k) : (midLK key l k j).getD j 0 = l.getD k 0 := by
  have := sortN_lenK (key := key) (l := l) k (by omega)
  simp only [midLK, insAt, List.getD_eq_getElem?_getD]
  rw [List.getElem?_append_left (by simp; omega), List.getElem?_append_right (by simp; omega)]
  simp [show j - min j (sortNK key l k).length = 0 by omega]
theorem midL_belowK {l : List Int} {k j : Nat} (hk : k < l.length) (hj : j ≤ k) (h0 : 0 < j) : (midLK key l k j).getD (j - 1) 0 = (sortNK key l k).getD (j - 1) 0 := by
  have := sortN_lenK (key := key) (l := l) k (by omega)
  simp only [midLK, insAt, List.getD_eq_getElem?_getD]
  rw [List.getElem?_append_left (by simp; omega), List.getElem?_append_left (by simp; omega), List.getElem?_take, if_pos (by omega)]
theorem midL_swapK {l : List Int} {k j : Nat} (hk : k < l.length) (hj : j ≤ k) (h0 : 0 < j) : midLK key l k (j - 1) = ((midLK key l k j).set j ((midLK key l k j).getD (j - 1) 0)).set (j - 1) ((midLK key l k j).getD j 0) := by
  have hs := sortN_lenK (key := key) (l := l) k (by omega)
  rw [midL_atK hk hj, midL_belowK hk hj h0]
  apply List.ext_getElem
  · rw [List.length_set, List.length_set, midL_lenK hk (by omega), midL_lenK hk hj]
  · intro i h1 h2
    rw [midL_lenK hk (by omega)] at h1
    rw [List.getElem_set, List.getElem_set]
    have key : ∀ (j' : Nat) (hj' : j' ≤ k) (h : i < (midLK key l k j').length), (midLK key l k j')[i] = if i < j' then (sortNK key l k).getD i 0 else if i = j' then l.getD k 0 else if i ≤ k then (sortNK key l k).getD (i - 1) 0 else l.getD i 0 := fun j' hj' h => by
      rw [← getD_get (d := 0) h]
      simp only [midLK, insAt, List.getD_eq_getElem?_getD]
      rcases Nat.lt_or_ge i j' with c | c
      · rw [if_pos c, List.getElem?_append_left (by simp; omega), List.getElem?_append_left (by simp; omega), List.getElem?_take, if_pos c]
      · rw [if_neg (by omega)]
        by_cases c2 : i = j'
        · subst c2
          rw [if_pos rfl, List.getElem?_append_left (by simp; omega), List.getElem?_append_right (by simp; omega)]
          simp [show i - min i (sortNK key l k).length = 0 by omega]
        · rw [if_neg c2]
          by_cases c3 : i ≤ k
          · rw [if_pos c3, List.getElem?_append_left (by simp; omega), List.getElem?_append_right (by simp; omega)]
            obtain ⟨m, hm⟩ : ∃ m, i - min j' (sortNK key l k).length = m + 1 := ⟨i - j' - 1, by omega⟩
            simp only [List.length_take, hm, List.getElem?_cons_succ, List.getElem?_drop]
            rw [show j' + m = i - 1 by omega]
          · rw [if_neg c3, List.getElem?_append_right (by simp; omega)]
            simp only [List.length_append, List.length_take, List.length_cons, List.length_drop, List.getElem?_drop]
            rw [show k + 1 + (i - (min j' (sortNK key l k).length + ((sortNK key l k).length - j' + 1))) = i by omega]
    rw [key (j - 1) (by omega)]
    by_cases c1 : j - 1 = i
    · rw [if_pos c1, if_neg (by omega), if_pos (by omega)]
    · rw [if_neg c1]
      by_cases c2 : j = i
      · rw [if_pos c2, if_neg (by omega), if_neg (by omega), if_pos (by omega), c2]
      · rw [if_neg c2, key j hj]
        by_cases c3 : i < j - 1
        · rw [if_pos c3, if_pos (by omega)]
        · rw [if_neg c3, if_neg (show ¬ i = j - 1 by omega), if_neg (show ¬ i < j by omega), if_neg (show ¬ i = j by omega)]
theorem midL_endK {l : List Int} {k j : Nat} (hk : k < l.length) (hj : j ≤ k) (h1 : ∀ y ∈ (sortNK key l k).drop j, key (l.getD k 0) < key y) (h2 : j = 0 ∨ key ((sortNK key l k).getD (j - 1) 0) ≤ key (l.getD k 0)) : midLK key l k j = sortNK key l (k + 1) ++ l.drop (k + 1) := by
  have hs := sortN_lenK (key := key) (l := l) k (by omega)
  rw [midLK, insAt_insK (sortN_upK l k) h1 h2 (by omega), sortN_succK hk]
theorem drop_moreK {s : List Int} {j : Nat} {x : Int} (h0 : 0 < j) (hj : j ≤ s.length) (h1 : ∀ y ∈ s.drop j, key x < key y) (h2 : key x < key (s.getD (j - 1) 0)) : ∀ y ∈ s.drop (j - 1), key x < key y := fun y hy => by
  rw [List.drop_eq_getElem_cons (by omega), show j - 1 + 1 = j by omega] at hy
  rcases List.mem_cons.1 hy with rfl | hy
  · rw [getD_get (by omega)] at h2; exact h2
  · exact h1 y hy
theorem sort_startK (l : List Int) : sortNK key l 1 ++ l.drop 1 = l := by
  cases l with
  | nil => rfl
  | cons x r => rfl
theorem sort_doneK {l : List Int} {k : Nat} (h : l.length ≤ k) : sortNK key l k ++ l.drop k = sortIK key l := by
  rw [List.drop_of_length_le h, List.append_nil]
  have : ∀ d, sortNK key l (l.length + d) = sortIK key l := fun d => by
    induction d with
    | zero => rfl
    | succ d ih => rw [← Nat.add_assoc, sortN_stopK (by omega), ih]
  have := this (k - l.length)
  rwa [show l.length + (k - l.length) = k by omega] at this
theorem sort_oneK (s : List Int) : sortNK key s 1 ++ s.drop 1 = s := sort_startK s
/-- A number put behind all whose key is not greater. -/
theorem put_behind {x : Int} {s : List Int} {i : Nat} (h : UpK key s) (hi : i ≤ s.length) (h1 : ∀ j, j < i → key (s.getD j 0) ≤ key x) (h2 : i = s.length ∨ key x < key (s.getD i 0)) : s.take i ++ [x] ++ s.drop i = insK key x s := by
  rw [← insAt_insK (j := i) h (fun y hy => ?_) (by
    rcases Nat.eq_zero_or_pos i with rfl | h0
    · exact .inl rfl
    · exact .inr (h1 (i - 1) (by omega))) hi]
  · simp [insAt]
  · obtain ⟨j, hj, rfl⟩ := List.getElem_of_mem hy
    rw [List.length_drop] at hj
    rw [List.getElem_drop]
    rcases h2 with h2 | h2
    · omega
    · rw [getD_get (by omega)] at h2
      rcases Nat.eq_zero_or_pos j with rfl | h0
      · exact h2
      · have := (List.pairwise_iff_getElem.1 h) i (i + j) (by omega) (by omega) (by omega)
        omega
end
theorem app_at {p m q : List Int} {j : Nat} (hj : j < m.length) : (p ++ m ++ q).getD (p.length + j) 0 = m.getD j 0 := by
  simp only [List.getD_eq_getElem?_getD]
  rw [List.getElem?_append_left (by simp; omega), List.getElem?_append_right (by omega), Nat.add_sub_cancel_left]
theorem app_set {p m q : List Int} {j : Nat} {x : Int} (hj : j < m.length) : (p ++ m ++ q).set (p.length + j) x = p ++ m.set j x ++ q := by
  rw [List.set_append_left _ _ (by simp; omega), List.set_append_right _ _ (by omega), Nat.add_sub_cancel_left]
end YtafalojjbghlhaaAM
end
section
/- Who would be paired with whom, in plain Lean. -/
set_option linter.unusedVariables false
set_option linter.unusedSimpArgs false
namespace YtafalojjbghlhaaAM

abbrev pV (id : Nat) (n m : Int) (ll : List (List Int)) : AV := .agg [.int .i64 n, .int .i64 m, .slice ⟨id, 0, 0, 1, 0⟩ ll.length]
def goodP (n m : Int) (ll : List (List Int)) : Bool := btw 1 8 n && btw 1 8 m && decide ((ll.length : Int) = n) && !ll.any (fun w => !someB w m)
theorem goodP_iff {n m : Int} {ll : List (List Int)} : goodP n m ll = true ↔ (1 ≤ n ∧ n ≤ 8) ∧ (1 ≤ m ∧ m ≤ 8) ∧ (ll.length : Int) = n ∧ ∀ w ∈ ll, someB w m = true := by
  simp [goodP, btw, and_assoc]
theorem goodP_row {n m : Int} {ll : List (List Int)} (h : goodP n m ll = true) {k : Nat} (hk : k < ll.length) : someB (ll.getD k []) m = true := by
  rw [getD_get hk]; exact (goodP_iff.1 h).2.2.2 _ (List.getElem_mem hk)
theorem leftSS_neg {ll : List (List Int)} {n : Int} (hn : n ≤ 1048576) (h : leftSS ll n < 0) : leftSS ll n = -1 := by
  have := (leftN_range (ll := ll) hn ll.length).1
  have e : leftSS ll n = leftN ll n ll.length := rfl
  omega
/-! ### Covers and matches -/
def coverAt (ll : List (List Int)) (lf rt : List Int) (k : Nat) : Bool := hasB lf (k : Int) || !(ll.getD k []).any (fun x => !hasB rt x)
def coverB (ll : List (List Int)) (lf rt : List Int) : Bool := (List.range ll.length).all (coverAt ll lf rt)
def coverOk (n m : Int) (ll : List (List Int)) (lf rt : List Int) : Bool := goodP n m ll && someB lf n && someB rt m
def isCover (n m : Int) (ll : List (List Int)) (lf rt : List Int) : Bool := coverOk n m ll lf rt && coverB ll lf rt
def matchAt (ll : List (List Int)) (mt : List Int) (k : Nat) : Bool := decide (mt.getD k 0 = -1) || (hasB (ll.getD k []) (mt.getD k 0) && !hasB (mt.take k) (mt.getD k 0))
def matchB (ll : List (List Int)) (mt : List Int) : Bool := (List.range mt.length).all (matchAt ll mt)
def matchOk (n m : Int) (ll : List (List Int)) (mt : List Int) : Bool := goodP n m ll && decide ((mt.length : Int) = n)
def isMatch (n m : Int) (ll : List (List Int)) (mt : List Int) : Bool := matchOk n m ll mt && matchB ll mt
theorem goodP_len {n m : Int} {ll : List (List Int)} (h : goodP n m ll = true) : (ll.length : Int) = n ∧ 1 ≤ n ∧ n ≤ 8 ∧ 1 ≤ m ∧ m ≤ 8 := by
  have := goodP_iff.1 h
  omega
end YtafalojjbghlhaaAM
end
section
/- Matches made greater by alternating ways, and what is reached from those without one, in plain Lean. -/
set_option linter.unusedVariables false
set_option linter.unusedSimpArgs false
namespace YtafalojjbghlhaaAM

/-! ### What was asked -/
abbrev ownI (mt : List Int) (r : Int) : Int := idxF (fun x => decide (x = r)) mt
def maskL (n : Nat) (aa : List Int) : List Bool := (List.range n).map fun (i : Nat) => hasB aa (i : Int)
@[simp] theorem maskL_length (n : Nat) (aa : List Int) : (maskL n aa).length = n := by simp [maskL]
theorem maskL_get {n i : Nat} (h : i < n) (aa : List Int) : (maskL n aa).getD i false = hasB aa (i : Int) := by simp [maskL, h]
theorem maskL_nil (n : Nat) : maskL n [] = List.replicate n false := by
  apply List.ext_getElem
  · simp
  · intro i h1 h2
    simp [maskL, hasB]
theorem maskL_set {n : Nat} {r : Int} (h0 : 0 ≤ r) (hr : r < n) (aa : List Int) : maskL n (r :: aa) = (maskL n aa).set r.toNat true := by
  apply List.ext_getElem
  · simp
  · intro i h1 h2
    simp only [maskL, List.getElem_map, List.getElem_range, List.getElem_set]
    by_cases e : r.toNat = i
    · rw [if_pos e]
      exact hasB_iff.2 (List.mem_cons.2 (.inl (by omega)))
    · rw [if_neg e, Bool.eq_iff_iff, hasB_iff, hasB_iff, List.mem_cons]
      exact ⟨fun h => h.resolve_left (by omega), .inr⟩

structure AsOk (m : Int) (aa : List Int) : Prop where
  nodup : aa.Nodup
  range : ∀ x ∈ aa, 0 ≤ x ∧ x < m
theorem AsOk.nil (m : Int) : AsOk m [] := ⟨List.nodup_nil, fun x hx => by cases hx⟩
theorem AsOk.cons {m r : Int} {aa : List Int} (h : AsOk m aa) (h0 : 0 ≤ r ∧ r < m) (hn : r ∉ aa) : AsOk m (r :: aa) :=
  ⟨List.nodup_cons.2 ⟨hn, h.nodup⟩, fun x hx => by rcases List.mem_cons.1 hx with rfl | hx; exact h0; exact h.range x hx⟩
theorem AsOk.len {m : Int} {aa : List Int} (h : AsOk m aa) (hm : m ≤ 8) : aa.length ≤ 8 :=
  nod_len 8 aa h.nodup fun x hx => by have := h.range x hx; omega

/-! ### Asking -/
abbrev TS := Bool × List Int × List Int
def stepW (rec : Nat → List Int → List Int → TS) (i : Nat) (w : List Int) (s : TS) (k : Nat) : TS :=
  if s.1 = true then s else
  if hasB s.2.2 (w.getD k 0) = true then s else
  if ownI s.2.1 (w.getD k 0) < 0 then (true, s.2.1.set i (w.getD k 0), w.getD k 0 :: s.2.2) else
  if (rec (ownI s.2.1 (w.getD k 0)).toNat s.2.1 (w.getD k 0 :: s.2.2)).1 = true then
    (true, (rec (ownI s.2.1 (w.getD k 0)).toNat s.2.1 (w.getD k 0 :: s.2.2)).2.1.set i (w.getD k 0), (rec (ownI s.2.1 (w.getD k 0)).toNat s.2.1 (w.getD k 0 :: s.2.2)).2.2)
  else rec (ownI s.2.1 (w.getD k 0)).toNat s.2.1 (w.getD k 0 :: s.2.2)
def askR (ll : List (List Int)) : Nat → Nat → List Int → List Int → TS
  | 0, _, mt, aa => (false, mt, aa)
  | f + 1, i, mt, aa => foldN (stepW (askR ll f) i (ll.getD i [])) (false, mt, aa) (ll.getD i []).length
/-- After k of what is wanted. -/
def askN (ll : List (List Int)) (f i : Nat) (mt aa : List Int) (k : Nat) : TS := foldN (stepW (askR ll f) i (ll.getD i [])) (false, mt, aa) k
theorem askN_zero (ll : List (List Int)) (f i : Nat) (mt aa : List Int) : askN ll f i mt aa 0 = (false, mt, aa) := rfl
theorem askN_succ (ll : List (List Int)) (f i : Nat) (mt aa : List Int) (k : Nat) : askN ll f i mt aa (k + 1) = stepW (askR ll f) i (ll.getD i []) (askN ll f i mt aa k) k := rfl
theorem askR_eq (ll : List (List Int)) (f i : Nat) (mt aa : List Int) : askR ll (f + 1) i mt aa = askN ll f i mt aa (ll.getD i []).length := rfl
theorem askN_stop {ll : List (List Int)} {f i : Nat} {mt aa : List Int} {k : Nat} (h : (askN ll f i mt aa k).1 = true) : ∀ d, askN ll f i mt aa (k + d) = askN ll f i mt aa k
  | 0 => rfl
  | d + 1 => by
    have ih := askN_stop h d
    rw [← Nat.add_assoc, askN_succ, ih, stepW, if_pos h]
theorem askN_end {ll : List (List Int)} {f i : Nat} {mt aa : List Int} {k : Nat} (hk : k ≤ (ll.getD i []).length) (h : (askN ll f i mt aa k).1 = true) : askR ll (f + 1) i mt aa = askN ll f i mt aa k := by
  rw [askR_eq]
  have := askN_stop h ((ll.getD i []).length - k)
  rwa [show k + ((ll.getD i []).length - k) = (ll.getD i []).length by omega] at this
section
variable {ll : List (List Int)} {f i : Nat} {mt aa : List Int} {k : Nat}
theorem askN_skip (h : (askN ll f i mt aa k).1 = false) (ha : hasB (askN ll f i mt aa k).2.2 ((ll.getD i []).getD k 0) = true) : askN ll f i mt aa (k + 1) = askN ll f i mt aa k := by
  rw [askN_succ, stepW, if_neg (by rw [h]; simp), if_pos ha]
theorem askN_free (h : (askN ll f i mt aa k).1 = false) (ha : hasB (askN ll f i mt aa k).2.2 ((ll.getD i []).getD k 0) = false) (ho : ownI (askN ll f i mt aa k).2.1 ((ll.getD i []).getD k 0) < 0) :
    askN ll f i mt aa (k + 1) = (true, (askN ll f i mt aa k).2.1.set i ((ll.getD i []).getD k 0), (ll.getD i []).getD k 0 :: (askN ll f i mt aa k).2.2) := by
  rw [askN_succ, stepW, if_neg (by rw [h]; simp), if_neg (by rw [ha]; simp), if_pos ho]
/-- What the owner of the next one answers. -/
def recT (ll : List (List Int)) (f i : Nat) (mt aa : List Int) (k : Nat) : TS := askR ll f (ownI (askN ll f i mt aa k).2.1 ((ll.getD i []).getD k 0)).toNat (askN ll f i mt aa k).2.1 ((ll.getD i []).getD k 0 :: (askN ll f i mt aa k).2.2)
theorem askN_yes (h : (askN ll f i mt aa k).1 = false) (ha : hasB (askN ll f i mt aa k).2.2 ((ll.getD i []).getD k 0) = false) (ho : ¬ ownI (askN ll f i mt aa k).2.1 ((ll.getD i []).getD k 0) < 0) (ht : (recT ll f i mt aa k).1 = true) :
    askN ll f i mt aa (k + 1) = (true, (recT ll f i mt aa k).2.1.set i ((ll.getD i []).getD k 0), (recT ll f i mt aa k).2.2) := by
  rw [askN_succ, stepW, if_neg (by rw [h]; simp), if_neg (by rw [ha]; simp), if_neg ho]
  exact if_pos ht
theorem askN_no (h : (askN ll f i mt aa k).1 = false) (ha : hasB (askN ll f i mt aa k).2.2 ((ll.getD i []).getD k 0) = false) (ho : ¬ ownI (askN ll f i mt aa k).2.1 ((ll.getD i []).getD k 0) < 0) (ht : (recT ll f i mt aa k).1 = false) :
    askN ll f i mt aa (k + 1) = recT ll f i mt aa k := by
  rw [askN_succ, stepW, if_neg (by rw [h]; simp), if_neg (by rw [ha]; simp), if_neg ho]
  exact if_neg (show ¬ (recT ll f i mt aa k).1 = true by rw [ht]; simp)
end
theorem idxF_lt {α : Type} (p : α → Bool) (l : List α) : -1 ≤ idxF p l ∧ idxF p l < l.length := by
  unfold idxF
  cases h : l.findIdx? p with
  | none => simp only []; omega
  | some k =>
    obtain ⟨hk, _⟩ := List.findIdx?_eq_some_iff_getElem.1 h
    simp only []; omega

theorem maskL_at {n : Nat} {r : Int} (h0 : 0 ≤ r) (hr : r < n) (aa : List Int) : (maskL n aa).getD r.toNat false = hasB aa r := by
  rw [maskL_get (by omega), show ((r.toNat : Nat) : Int) = r by omega]

structure AskInv (m : Int) (i : Nat) (mt aa : List Int) (t : TS) : Prop where
  ok : AsOk m t.2.2
  len : t.2.1.length = mt.length
  grow : aa.length ≤ t.2.2.length
  sub : ∀ x ∈ aa, x ∈ t.2.2
  same : t.1 = false → t.2.1 = mt
  keep : ∀ j, mt.getD j 0 ≠ -1 → t.2.1.getD j 0 ≠ -1
  got : t.1 = true → i < mt.length → t.2.1.getD i 0 ≠ -1
/-- Wishes within bounds. -/
def Wish (m : Int) (ll : List (List Int)) : Prop := ∀ i k, k < (ll.getD i []).length → 0 ≤ (ll.getD i []).getD k 0 ∧ (ll.getD i []).getD k 0 < m
theorem set_keep {l : List Int} {i j : Nat} {r : Int} (hr : 0 ≤ r) (h : l.getD j 0 ≠ -1) : (l.set i r).getD j 0 ≠ -1 := by
  rcases Nat.lt_or_ge i l.length with c | c
  · rw [getD_setI c]; split <;> omega
  · rw [List.set_eq_of_length_le c]; exact h
theorem set_got {l : List Int} {i : Nat} {r : Int} (hr : 0 ≤ r) (h : i < l.length) : (l.set i r).getD i 0 ≠ -1 := by
  rw [getD_set_self h]; omega
theorem askR_inv {m : Int} {ll : List (List Int)} (hw : Wish m ll) : ∀ (f i : Nat) (mt aa : List Int), AsOk m aa → AskInv m i mt aa (askR ll f i mt aa)
  | 0, i, mt, aa, h => ⟨h, rfl, Nat.le_refl _, fun _ h => h, fun _ => rfl, fun _ h => h, fun h => by cases h⟩
  | f + 1, i, mt, aa, h => by
    have key : ∀ k, k ≤ (ll.getD i []).length → AskInv m i mt aa (askN ll f i mt aa k) := by
      intro k
      induction k with
      | zero => intro _; exact ⟨h, rfl, Nat.le_refl _, fun _ h => h, fun _ => rfl, fun _ h => h, fun h => by cases h⟩
      | succ k ih =>
        intro hk
        have s := ih (by omega)
        have hr := hw i k (by omega)
        cases h1 : (askN ll f i mt aa k).1 with
        | true => rw [askN_succ, stepW, if_pos h1]; exact s
        | false =>
          cases h2 : hasB (askN ll f i mt aa k).2.2 ((ll.getD i []).getD k 0) with
          | true => rw [askN_skip h1 h2]; exact s
          | false =>
            have ok2 := s.ok.cons hr (hasB_false.1 h2)
            by_cases h3 : ownI (askN ll f i mt aa k).2.1 ((ll.getD i []).getD k 0) < 0
            · rw [askN_free h1 h2 h3]
              refine ⟨ok2, by simp [s.len], by have := s.grow; simp; omega, fun x hx => List.mem_cons_of_mem _ (s.sub x hx), (fun h => by cases h), fun j hj => set_keep hr.1 (s.keep j hj), fun _ hi => set_got hr.1 (by rw [s.len]; exact hi)⟩
            · have t := askR_inv hw f (ownI (askN ll f i mt aa k).2.1 ((ll.getD i []).getD k 0)).toNat (askN ll f i mt aa k).2.1 ((ll.getD i []).getD k 0 :: (askN ll f i mt aa k).2.2) ok2
              have hs := s.same h1
              have hg := t.grow
              have hsg := s.grow
              rw [List.length_cons] at hg
              have e : askR ll f (ownI (askN ll f i mt aa k).2.1 ((ll.getD i []).getD k 0)).toNat (askN ll f i mt aa k).2.1 ((ll.getD i []).getD k 0 :: (askN ll f i mt aa k).2.2) = recT ll f i mt aa k := rfl
              rw [e] at t hg
              cases h4 : (recT ll f i mt aa k).1 with
              | true =>
                rw [askN_yes h1 h2 h3 h4]
                refine ⟨t.ok, by rw [List.length_set, t.len, s.len], by show aa.length ≤ (recT ll f i mt aa k).2.2.length; omega, fun x hx => t.sub x (List.mem_cons_of_mem _ (s.sub x hx)), (fun h => by cases h), fun j hj => set_keep hr.1 (t.keep j (s.keep j hj)), fun _ hi => set_got hr.1 (by rw [t.len, s.len]; exact hi)⟩
              | false =>
                rw [askN_no h1 h2 h3 h4]
                refine ⟨t.ok, by rw [t.len, s.len], by omega, fun x hx => t.sub x (List.mem_cons_of_mem _ (s.sub x hx)), fun _ => by rw [t.same h4, hs], fun j hj => t.keep j (s.keep j hj), fun h => by rw [h4] at h; cases h⟩
    rw [askR_eq]
    exact key _ (Nat.le_refl _)
theorem askN_inv {m : Int} {ll : List (List Int)} (hw : Wish m ll) (f i : Nat) (mt aa : List Int) (h : AsOk m aa) (k : Nat) (hk : k ≤ (ll.getD i []).length) : AskInv m i mt aa (askN ll f i mt aa k) := by
  induction k with
  | zero => exact ⟨h, rfl, Nat.le_refl _, fun _ h => h, fun _ => rfl, fun _ h => h, fun h => by cases h⟩
  | succ k ih =>
    have s := ih (by omega)
    have hr := hw i k (by omega)
    cases h1 : (askN ll f i mt aa k).1 with
    | true => rw [askN_succ, stepW, if_pos h1]; exact s
    | false =>
      cases h2 : hasB (askN ll f i mt aa k).2.2 ((ll.getD i []).getD k 0) with
      | true => rw [askN_skip h1 h2]; exact s
      | false =>
        have ok2 := s.ok.cons hr (hasB_false.1 h2)
        by_cases h3 : ownI (askN ll f i mt aa k).2.1 ((ll.getD i []).getD k 0) < 0
        · rw [askN_free h1 h2 h3]
          exact ⟨ok2, by simp [s.len], by have := s.grow; simp; omega, fun x hx => List.mem_cons_of_mem _ (s.sub x hx), (fun h => by cases h), fun j hj => set_keep hr.1 (s.keep j hj), fun _ hi => set_got hr.1 (by rw [s.len]; exact hi)⟩
        · have t : AskInv m _ (askN ll f i mt aa k).2.1 ((ll.getD i []).getD k 0 :: (askN ll f i mt aa k).2.2) (recT ll f i mt aa k) := askR_inv hw f (ownI (askN ll f i mt aa k).2.1 ((ll.getD i []).getD k 0)).toNat (askN ll f i mt aa k).2.1 ((ll.getD i []).getD k 0 :: (askN ll f i mt aa k).2.2) ok2
          have hs := s.same h1
          have hg := t.grow
          have hsg := s.grow
          rw [List.length_cons] at hg
          cases h4 : (recT ll f i mt aa k).1 with
          | true =>
            rw [askN_yes h1 h2 h3 h4]
            exact ⟨t.ok, by rw [List.length_set, t.len, s.len], by show aa.length ≤ (recT ll f i mt aa k).2.2.length; omega, fun x hx => t.sub x (List.mem_cons_of_mem _ (s.sub x hx)), (fun h => by cases h), fun j hj => set_keep hr.1 (t.keep j (s.keep j hj)), fun _ hi => set_got hr.1 (by rw [t.len, s.len]; exact hi)⟩
          | false =>
            rw [askN_no h1 h2 h3 h4]
            exact ⟨t.ok, by rw [t.len, s.len], by omega, fun x hx => t.sub x (List.mem_cons_of_mem _ (s.sub x hx)), fun _ => by rw [t.same h4, hs], fun j hj => t.keep j (s.keep j hj), fun h => by rw [h4] at h; cases h⟩
/-- Each good pairing's wishes are within bounds. -/
theorem goodP_wish {n m : Int} {ll : List (List Int)} (h : goodP n m ll = true) : Wish m ll := fun i k hk => by
  rcases Nat.lt_or_ge i ll.length with c | c
  · have h1 := goodP_row h c
    simp only [someB, List.all_eq_true, List.mem_range] at h1
    have := h1 k hk
    simp only [someOk, Bool.and_eq_true, decide_eq_true_eq] at this
    exact ⟨this.1.1, this.1.2⟩
  · rw [List.getD_eq_getElem?_getD, List.getElem?_eq_none c] at hk; simp at hk

/-! ### One pair more -/
def tryA (ll : List (List Int)) (mt : List Int) (i : Nat) : TS := askR ll 9 i mt []
def impAt (ll : List (List Int)) (mt : List Int) (i : Nat) : Bool := decide (mt.getD i 0 = -1) && (tryA ll mt i).1
def impB (ll : List (List Int)) (mt : List Int) : Bool := (List.range mt.length).any (impAt ll mt)
def impO (ll : List (List Int)) (mt : List Int) : List Int := match (List.range mt.length).find? (impAt ll mt) with | some i => (tryA ll mt i).2.1 | none => mt
theorem imp_here {ll : List (List Int)} {mt : List Int} {k : Nat} (hk : k < mt.length) (hb : ∀ j, j < k → impAt ll mt j = false) (hp : impAt ll mt k = true) : impB ll mt = true ∧ impO ll mt = (tryA ll mt k).2.1 := by
  have e : (List.range mt.length).find? (impAt ll mt) = some k := by
    rw [List.find?_range_eq_some]
    exact ⟨hp, List.mem_range.2 hk, fun j hj => by rw [hb j hj]; rfl⟩
  refine ⟨List.any_eq_true.2 ⟨k, List.mem_range.2 hk, hp⟩, ?_⟩
  rw [impO, e]
theorem imp_none {ll : List (List Int)} {mt : List Int} (hb : ∀ j, j < mt.length → impAt ll mt j = false) : impB ll mt = false ∧ impO ll mt = mt := by
  have e : (List.range mt.length).find? (impAt ll mt) = none := by
    rw [List.find?_range_eq_none]
    exact fun j hj => by rw [hb j hj]; rfl
  refine ⟨List.any_eq_false.2 fun x hx => by rw [hb x (List.mem_range.1 hx)]; simp, ?_⟩
  rw [impO, e]
theorem imp_cases (ll : List (List Int)) (mt : List Int) : (impB ll mt = false ∧ impO ll mt = mt ∧ ∀ j, j < mt.length → impAt ll mt j = false) ∨
    ∃ k, k < mt.length ∧ (∀ j, j < k → impAt ll mt j = false) ∧ impAt ll mt k = true ∧ impB ll mt = true ∧ impO ll mt = (tryA ll mt k).2.1 := by
  cases h : (List.range mt.length).find? (impAt ll mt) with
  | none =>
    rw [List.find?_range_eq_none] at h
    have hb : ∀ j, j < mt.length → impAt ll mt j = false := fun j hj => by simpa using h j hj
    exact .inl ⟨(imp_none hb).1, (imp_none hb).2, hb⟩
  | some k =>
    rw [List.find?_range_eq_some] at h
    have hk := List.mem_range.1 h.2.1
    have hb : ∀ j, j < k → impAt ll mt j = false := fun j hj => by simpa using h.2.2 j hj
    exact .inr ⟨k, hk, hb, h.1, (imp_here hk hb h.1).1, (imp_here hk hb h.1).2⟩
theorem imp_stay {ll : List (List Int)} {mt : List Int} (h : impB ll mt = false) : impO ll mt = mt := by
  rcases imp_cases ll mt with ⟨_, h2, _⟩ | ⟨k, _, _, _, h2, _⟩
  · exact h2
  · rw [h] at h2; cases h2
def frees (mt : List Int) : Nat := mt.countP fun x => decide (x = -1)
theorem frees_lt : ∀ (a b : List Int), a.length = b.length → (∀ j, a.getD j 0 ≠ -1 → b.getD j 0 ≠ -1) → frees b ≤ frees a ∧ ((∃ i, i < a.length ∧ a.getD i 0 = -1 ∧ b.getD i 0 ≠ -1) → frees b < frees a)
  | [], [], _, _ => ⟨Nat.le_refl _, fun ⟨i, hi, _⟩ => by simp at hi⟩
  | [], _ :: _, h, _ => by simp at h
  | _ :: _, [], h, _ => by simp at h
  | x :: a, y :: b, h, hk => by
    have ih := frees_lt a b (by simpa using h) fun j hj => by simpa using hk (j + 1) (by simpa using hj)
    have h0 := hk 0
    simp only [List.getD_cons_zero] at h0
    unfold frees at *
    simp only [List.countP_cons, decide_eq_true_eq]
    refine ⟨by split <;> split <;> omega, fun ⟨i, hi, h1, h2⟩ => ?_⟩
    cases i with
    | zero =>
      simp only [List.getD_cons_zero] at h1 h2
      rw [if_neg h2, if_pos h1]; omega
    | succ i =>
      have := ih.2 ⟨i, by simpa using hi, by simpa using h1, by simpa using h2⟩
      split <;> split <;> omega
theorem impO_len {m : Int} {ll : List (List Int)} (hw : Wish m ll) (mt : List Int) : (impO ll mt).length = mt.length := by
  rcases imp_cases ll mt with ⟨_, h, _⟩ | ⟨k, _, _, _, _, h⟩
  · rw [h]
  · rw [h]; exact (askR_inv hw 9 k mt [] (.nil m)).len
theorem imp_less {m : Int} {ll : List (List Int)} (hw : Wish m ll) {mt : List Int} (h : impB ll mt = true) : frees (impO ll mt) < frees mt := by
  rcases imp_cases ll mt with ⟨h2, _, _⟩ | ⟨k, hk, _, h3, _, h2⟩
  · rw [h2] at h; cases h
  · rw [h2]
    have I := askR_inv hw 9 k mt [] (.nil m)
    simp only [impAt, Bool.and_eq_true, decide_eq_true_eq] at h3
    exact (frees_lt mt _ I.len.symm I.keep).2 ⟨k, hk, h3.1, I.got h3.2 hk⟩

/-! ### As many pairs aa can be -/
def bestN (ll : List (List Int)) (n : Nat) (j : Nat) : List Int := foldN (fun mt _ => impO ll mt) (List.replicate n (-1)) j
def bestM' (ll : List (List Int)) (n : Nat) : List Int := bestN ll n 8
theorem bestN_zero' (ll : List (List Int)) (n : Nat) : bestN ll n 0 = List.replicate n (-1) := rfl
theorem bestN_succ' (ll : List (List Int)) (n j : Nat) : bestN ll n (j + 1) = impO ll (bestN ll n j) := rfl
theorem bestN_len' {m : Int} {ll : List (List Int)} (hw : Wish m ll) (n : Nat) : ∀ j, (bestN ll n j).length = n
  | 0 => by simp [bestN_zero']
  | j + 1 => by rw [bestN_succ', impO_len hw, bestN_len' hw n j]
theorem bestM_len {m : Int} {ll : List (List Int)} (hw : Wish m ll) (n : Nat) : (bestM' ll n).length = n := bestN_len' hw n 8
theorem best_bound {m : Int} {ll : List (List Int)} (hw : Wish m ll) {n : Nat} : ∀ j, (∀ d, d < j → impB ll (bestN ll n d) = true) → frees (bestN ll n j) + j ≤ n
  | 0, _ => by
    have := List.countP_le_length (p := fun x : Int => decide (x = -1)) (l := bestN ll n 0)
    rw [bestN_zero', List.length_replicate] at this
    exact this
  | j + 1, h => by
    have ih := best_bound hw (n := n) j fun d hd => h d (by omega)
    have := imp_less hw (h j (by omega))
    rw [bestN_succ']; omega
theorem best_still {ll : List (List Int)} {n j : Nat} (h : impB ll (bestN ll n j) = false) : ∀ d, bestN ll n (j + d) = bestN ll n j
  | 0 => rfl
  | d + 1 => by
    rw [← Nat.add_assoc, bestN_succ', best_still h d]
    rcases imp_cases ll (bestN ll n j) with ⟨_, h, _⟩ | ⟨k, _, _, _, h2, _⟩
    · exact h
    · rw [h] at h2; cases h2
theorem best_end {m : Int} {ll : List (List Int)} (hw : Wish m ll) {n j : Nat} (hn : n ≤ 8) (hb : ∀ d, d < j → impB ll (bestN ll n d) = true) (h : impB ll (bestN ll n j) = false) : bestN ll n j = bestM' ll n := by
  have := best_bound hw (n := n) j hb
  have e := best_still h (8 - j)
  rw [show j + (8 - j) = 8 by omega] at e
  exact e.symm
theorem best_max {m : Int} {ll : List (List Int)} (hw : Wish m ll) {n : Nat} (hn : n ≤ 8) : impB ll (bestM' ll n) = false := by
  -- were all of the first nine steps a pair more, there were too few without one
  cases h : impB ll (bestM' ll n) with
  | false => rfl
  | true =>
    exfalso
    have hall : ∀ d, d < 9 → impB ll (bestN ll n d) = true := fun d hd => by
      cases h2 : impB ll (bestN ll n d) with
      | true => rfl
      | false =>
        have e := best_still h2 (8 - d)
        rw [show d + (8 - d) = 8 by omega] at e
        have : bestM' ll n = bestN ll n d := e
        rw [this, h2] at h; cases h
    have := best_bound hw (n := n) 9 hall
    omega

/-! ### What is reached from those without one -/
def freeN (mt : List Int) (k : Nat) : List Int := foldN (fun s i => if mt.getD i 0 = -1 then s ++ [(i : Int)] else s) [] k
theorem freeN_zero (mt : List Int) : freeN mt 0 = [] := rfl
theorem freeN_succ (mt : List Int) (k : Nat) : freeN mt (k + 1) = if mt.getD k 0 = -1 then freeN mt k ++ [(k : Int)] else freeN mt k := rfl
abbrev QS := List Int × List Int
def stQ (mt w : List Int) (s : QS) (j : Nat) : QS :=
  if hasB s.2 (w.getD j 0) = true then s else
  (if 0 ≤ ownI mt (w.getD j 0) ∧ hasB s.1 (ownI mt (w.getD j 0)) = false then s.1 ++ [ownI mt (w.getD j 0)] else s.1, s.2 ++ [w.getD j 0])
def rowQ (ll : List (List Int)) (mt : List Int) (s : QS) (k : Nat) : QS := if k < s.1.length then foldN (stQ mt (ll.getD (s.1.getD k 0).toNat [])) s (ll.getD (s.1.getD k 0).toNat []).length else s
def qN (ll : List (List Int)) (mt : List Int) (k : Nat) : QS := foldN (rowQ ll mt) (freeN mt mt.length, []) k
def inQ (ll : List (List Int)) (mt : List Int) (k j : Nat) : QS := foldN (stQ mt (ll.getD ((qN ll mt k).1.getD k 0).toNat [])) (qN ll mt k) j
def reachQ (ll : List (List Int)) (mt : List Int) : QS := qN ll mt 8
structure QInv (n : Nat) (m : Int) (s : QS) : Prop where
  n1 : s.1.Nodup
  r1 : ∀ x ∈ s.1, 0 ≤ x ∧ x < n
  n2 : s.2.Nodup
  r2 : ∀ x ∈ s.2, 0 ≤ x ∧ x < m
theorem QInv.len {n : Nat} {m : Int} {s : QS} (h : QInv n m s) (hn : n ≤ 8) (hm : m ≤ 8) : s.1.length ≤ 8 ∧ s.2.length ≤ 8 :=
  ⟨nod_len 8 _ h.n1 fun x hx => by have := h.r1 x hx; omega, nod_len 8 _ h.n2 fun x hx => by have := h.r2 x hx; omega⟩
theorem nodup_snoc {l : List Int} {x : Int} (h : l.Nodup) (hx : x ∉ l) : (l ++ [x]).Nodup := by
  rw [List.nodup_append]
  refine ⟨h, by simp, fun a ha b hb => ?_⟩
  simp at hb
  subst hb
  exact fun e => hx (e ▸ ha)
section
variable {ll : List (List Int)} {mt : List Int} {n : Nat} {m : Int}
theorem qN_zero : qN ll mt 0 = (freeN mt mt.length, []) := rfl
theorem qN_succ (k : Nat) : qN ll mt (k + 1) = rowQ ll mt (qN ll mt k) k := rfl
theorem inQ_zero (k : Nat) : inQ ll mt k 0 = qN ll mt k := rfl
theorem inQ_succ (k j : Nat) : inQ ll mt k (j + 1) = stQ mt (ll.getD ((qN ll mt k).1.getD k 0).toNat []) (inQ ll mt k j) j := rfl
theorem inQ_all {k : Nat} (h : k < (qN ll mt k).1.length) : inQ ll mt k (ll.getD ((qN ll mt k).1.getD k 0).toNat []).length = qN ll mt (k + 1) := by
  rw [qN_succ, rowQ, if_pos h]; rfl
theorem inQ_skip {k j : Nat} (h : hasB (inQ ll mt k j).2 ((ll.getD ((qN ll mt k).1.getD k 0).toNat []).getD j 0) = true) : inQ ll mt k (j + 1) = inQ ll mt k j := by
  rw [inQ_succ, stQ, if_pos h]
theorem inQ_both {k j : Nat} (h : hasB (inQ ll mt k j).2 ((ll.getD ((qN ll mt k).1.getD k 0).toNat []).getD j 0) = false) (h0 : 0 ≤ ownI mt ((ll.getD ((qN ll mt k).1.getD k 0).toNat []).getD j 0))
    (h1 : hasB (inQ ll mt k j).1 (ownI mt ((ll.getD ((qN ll mt k).1.getD k 0).toNat []).getD j 0)) = false) :
    inQ ll mt k (j + 1) = ((inQ ll mt k j).1 ++ [ownI mt ((ll.getD ((qN ll mt k).1.getD k 0).toNat []).getD j 0)], (inQ ll mt k j).2 ++ [(ll.getD ((qN ll mt k).1.getD k 0).toNat []).getD j 0]) := by
  rw [inQ_succ, stQ, if_neg (by rw [h]; simp), if_pos ⟨h0, h1⟩]
theorem inQ_right {k j : Nat} (h : hasB (inQ ll mt k j).2 ((ll.getD ((qN ll mt k).1.getD k 0).toNat []).getD j 0) = false)
    (h1 : ¬ 0 ≤ ownI mt ((ll.getD ((qN ll mt k).1.getD k 0).toNat []).getD j 0) ∨ hasB (inQ ll mt k j).1 (ownI mt ((ll.getD ((qN ll mt k).1.getD k 0).toNat []).getD j 0)) = true) :
    inQ ll mt k (j + 1) = ((inQ ll mt k j).1, (inQ ll mt k j).2 ++ [(ll.getD ((qN ll mt k).1.getD k 0).toNat []).getD j 0]) := by
  rw [inQ_succ, stQ, if_neg (by rw [h]; simp), if_neg]
  rintro ⟨a, b⟩
  rcases h1 with h1 | h1
  · exact h1 a
  · rw [b] at h1; cases h1
theorem qN_stop {k : Nat} (h : (qN ll mt k).1.length ≤ k) : ∀ d, qN ll mt (k + d) = qN ll mt k
  | 0 => rfl
  | d + 1 => by
    have ih := qN_stop h d
    rw [← Nat.add_assoc, qN_succ, ih, rowQ, if_neg (by omega)]
theorem q_end {k : Nat} (hk : k ≤ 8) (h : (qN ll mt k).1.length ≤ k) : qN ll mt k = reachQ ll mt := by
  have := qN_stop h (8 - k)
  rw [show k + (8 - k) = 8 by omega] at this
  exact this.symm
theorem freeN_inv : ∀ k, (freeN mt k).Nodup ∧ (∀ x ∈ freeN mt k, 0 ≤ x ∧ x < k) ∧ ∀ i, i < k → (mt.getD i 0 = -1 ↔ (i : Int) ∈ freeN mt k)
  | 0 => ⟨by simp [freeN_zero], by simp [freeN_zero], fun i h => by omega⟩
  | k + 1 => by
    obtain ⟨h1, h2, h3⟩ := freeN_inv k
    rw [freeN_succ]
    split
    · rename_i hc
      refine ⟨nodup_snoc h1 fun h => by have := h2 _ h; omega, fun x hx => ?_, fun i hi => ?_⟩
      · rcases List.mem_append.1 hx with h | h
        · have := h2 x h; omega
        · simp at h; omega
      · rcases Nat.lt_or_ge i k with c | c
        · rw [h3 i c, List.mem_append]
          exact ⟨.inl, fun h => h.resolve_right (by simp; omega)⟩
        · obtain rfl : i = k := by omega
          exact ⟨fun _ => List.mem_append.2 (.inr (by simp)), fun _ => hc⟩
    · rename_i hc
      refine ⟨h1, fun x hx => by have := h2 x hx; omega, fun i hi => ?_⟩
      rcases Nat.lt_or_ge i k with c | c
      · exact h3 i c
      · obtain rfl : i = k := by omega
        exact ⟨fun h => absurd h hc, fun h => by have := h2 _ h; omega⟩
theorem stQ_inv (hmt : mt.length = n) {w : List Int} (hw : ∀ j, j < w.length → 0 ≤ w.getD j 0 ∧ w.getD j 0 < m) {s : QS} (h : QInv n m s) {j : Nat} (hj : j < w.length) : QInv n m (stQ mt w s j) := by
  unfold stQ
  split
  · exact h
  · rename_i hc
    have hr : w.getD j 0 ∉ s.2 := fun e => hc (hasB_iff.2 e)
    have h2 : ∀ x ∈ s.2 ++ [w.getD j 0], 0 ≤ x ∧ x < m := fun x hx => by
      rcases List.mem_append.1 hx with h3 | h3
      · exact h.r2 x h3
      · simp only [List.mem_cons, List.not_mem_nil, or_false] at h3
        rw [h3]; exact hw j hj
    refine ⟨?_, ?_, nodup_snoc h.n2 hr, h2⟩
    · simp only []
      split
      · rename_i hc2; exact nodup_snoc h.n1 (hasB_false.1 hc2.2)
      · exact h.n1
    · simp only []
      split
      · rename_i hc2
        intro x hx
        rcases List.mem_append.1 hx with h3 | h3
        · exact h.r1 x h3
        · simp only [List.mem_cons, List.not_mem_nil, or_false] at h3
          have := idxF_lt (fun x => decide (x = w.getD j 0)) mt
          rw [h3]
          exact ⟨hc2.1, by rw [← hmt]; exact this.2⟩
      · exact h.r1
theorem foldQ_inv (hmt : mt.length = n) {w : List Int} (hw : ∀ j, j < w.length → 0 ≤ w.getD j 0 ∧ w.getD j 0 < m) {s : QS} (h : QInv n m s) : ∀ j, j ≤ w.length → QInv n m (foldN (stQ mt w) s j)
  | 0, _ => h
  | j + 1, hj => stQ_inv hmt hw (foldQ_inv hmt hw h j (by omega)) (by omega)
theorem qN_inv (hmt : mt.length = n) (hw : Wish m ll) : ∀ k, QInv n m (qN ll mt k)
  | 0 => ⟨(freeN_inv mt.length).1, fun x hx => by have := (freeN_inv mt.length).2.1 x hx; omega, by simp [qN_zero], by simp [qN_zero]⟩
  | k + 1 => by
    have ih := qN_inv hmt hw k
    rw [qN_succ, rowQ]
    split
    · exact foldQ_inv hmt (hw _) ih _ (Nat.le_refl _)
    · exact ih
theorem inQ_inv (hmt : mt.length = n) (hw : Wish m ll) {k j : Nat} (hj : j ≤ (ll.getD ((qN ll mt k).1.getD k 0).toNat []).length) : QInv n m (inQ ll mt k j) :=
  foldQ_inv hmt (hw _) (qN_inv hmt hw k) j hj
/-- What is there stays where it is. -/
theorem stQ_pre {w : List Int} {s : QS} {j : Nat} : s.1 <+: (stQ mt w s j).1 ∧ s.2 <+: (stQ mt w s j).2 := by
  unfold stQ
  split
  · exact ⟨List.prefix_refl _, List.prefix_refl _⟩
  · refine ⟨?_, List.prefix_append _ _⟩
    simp only []
    split
    · exact List.prefix_append _ _
    · exact List.prefix_refl _
theorem foldQ_pre {w : List Int} {s : QS} : ∀ j, s.1 <+: (foldN (stQ mt w) s j).1 ∧ s.2 <+: (foldN (stQ mt w) s j).2
  | 0 => ⟨List.prefix_refl _, List.prefix_refl _⟩
  | j + 1 => ⟨(foldQ_pre j).1.trans stQ_pre.1, (foldQ_pre j).2.trans stQ_pre.2⟩
theorem pre_getD {a b : List Int} (h : a <+: b) {k : Nat} (hk : k < a.length) : b.getD k 0 = a.getD k 0 := by
  obtain ⟨c, rfl⟩ := h
  simp only [List.getD_eq_getElem?_getD]
  rw [List.getElem?_append_left hk]
/-- Row k of the queue, inside its own round. -/
theorem inQ_at {k j : Nat} (hk : k < (qN ll mt k).1.length) : (inQ ll mt k j).1.getD k 0 = (qN ll mt k).1.getD k 0 ∧ k < (inQ ll mt k j).1.length := by
  have h := (foldQ_pre (mt := mt) (w := ll.getD ((qN ll mt k).1.getD k 0).toNat []) (s := qN ll mt k) j).1
  exact ⟨pre_getD h hk, Nat.lt_of_lt_of_le hk h.length_le⟩
end
/-! ### The answers -/
def rangeI (n : Nat) : List Int := (List.range n).map fun (i : Nat) => (i : Int)
@[simp] theorem rangeI_length (n : Nat) : (rangeI n).length = n := by simp [rangeI]
theorem rangeI_zero : rangeI 0 = [] := rfl
theorem rangeI_mem {n : Nat} {x : Int} : x ∈ rangeI n ↔ 0 ≤ x ∧ x < n := by
  simp only [rangeI, List.mem_map, List.mem_range]
  exact ⟨fun ⟨i, h, e⟩ => by omega, fun h => ⟨x.toNat, by omega, by omega⟩⟩
theorem rangeI_rise (n : Nat) : (rangeI n).Pairwise (· < ·) := by
  unfold rangeI
  rw [List.pairwise_map]
  exact List.pairwise_lt_range.imp fun h => by omega
theorem rangeI_succ (n : Nat) : rangeI (n + 1) = rangeI n ++ [(n : Int)] := by simp [rangeI, List.range_succ]
theorem rangeI_getD {n i : Nat} (h : i < n) (d : Int) : (rangeI n).getD i d = i := by simp [rangeI, h]
theorem sort_filter {s : List Int} {n : Nat} (h : s.Nodup) (hr : ∀ x ∈ s, 0 ≤ x ∧ x < n) : sortI s = (rangeI n).filter (hasB s) := by
  refine rise_eq (sortI_rise h) ((rangeI_rise n).filter _) fun x => ?_
  rw [sortI_mem, List.mem_filter, rangeI_mem, hasB_iff]
  exact ⟨fun hx => ⟨hr x hx, hx⟩, fun hx => hx.2⟩
theorem hasB_sortI (s : List Int) (x : Int) : hasB (sortI s) x = hasB s x := by
  rw [Bool.eq_iff_iff, hasB_iff, hasB_iff, sortI_mem]
/-- What is reached from those without one, of the greatest match. -/
def rcQ (n m : Int) (ll : List (List Int)) : QS := reachQ ll (bestM' ll n.toNat)
theorem rcQ_inv {n m : Int} {ll : List (List Int)} (h : goodP n m ll = true) : QInv n.toNat m (rcQ n m ll) := qN_inv (bestN_len' (goodP_wish h) _ 8) (goodP_wish h) 8
theorem rcQ_len {n m : Int} {ll : List (List Int)} (h : goodP n m ll = true) : (rcQ n m ll).1.length ≤ 8 ∧ (rcQ n m ll).2.length ≤ 8 := by
  have := goodP_len h
  exact (rcQ_inv h).len (by omega) (by omega)
def shL (n m : Int) (ll : List (List Int)) : List Int := if goodP n m ll = true then sortI (rcQ n m ll).1 else []
def shB (n m : Int) (ll : List (List Int)) : Bool := goodP n m ll && decide (0 < (rcQ n m ll).1.length)
def coA (n m : Int) (ll : List (List Int)) : List Int := if goodP n m ll = true then (rangeI n.toNat).filter (fun x => !hasB (rcQ n m ll).1 x) else []
def coR (n m : Int) (ll : List (List Int)) : List Int := if goodP n m ll = true then sortI (rcQ n m ll).2 else []
theorem freeN_none {ll : List (List Int)} {mt : List Int} (h : freeN mt mt.length = []) : ∀ k, qN ll mt k = ([], [])
  | 0 => by rw [qN_zero, h]
  | k + 1 => by rw [qN_succ, freeN_none h k, rowQ, if_neg (by simp)]
theorem qN_free {ll : List (List Int)} {mt : List Int} : ∀ k, freeN mt mt.length <+: (qN ll mt k).1
  | 0 => by rw [qN_zero]; exact List.prefix_refl _
  | k + 1 => by
    rw [qN_succ, rowQ]
    split
    · exact (qN_free k).trans (foldQ_pre _).1
    · exact qN_free k
theorem short_any {ll : List (List Int)} {mt : List Int} : (0 < (freeN mt mt.length).length ↔ 0 < (reachQ ll mt).1.length) := by
  constructor
  · intro h
    have := (qN_free (ll := ll) (mt := mt) 8).length_le
    exact Nat.lt_of_lt_of_le h this
  · intro h
    rcases Nat.eq_zero_or_pos (freeN mt mt.length).length with h2 | h2
    · have e : qN ll mt 8 = ([], []) := freeN_none (List.eq_nil_of_length_eq_zero h2) 8
      rw [reachQ, e] at h; simp at h
    · exact h2
theorem short_iff {n m : Int} {ll : List (List Int)} : (0 < (freeN (bestM' ll n.toNat) (bestM' ll n.toNat).length).length ↔ 0 < (rcQ n m ll).1.length) := short_any
theorem shB_of {n m : Int} {ll : List (List Int)} (hg : goodP n m ll = true) (k : Nat) (hk : k = n.toNat) : decide ((0 : Int) < ((freeN (bestM' ll n.toNat) k).length : Int)) = shB n m ll := by
  have e : (bestM' ll n.toNat).length = n.toNat := bestN_len' (goodP_wish hg) _ 8
  have h := short_iff (n := n) (m := m) (ll := ll)
  subst hk
  rw [e] at h
  rw [shB, hg, Bool.true_and, decide_eq_decide, ← h]
  omega
theorem coR_eq {n m : Int} {ll : List (List Int)} (hg : goodP n m ll = true) : sortI (rcQ n m ll).2 = (rangeI m.toNat).filter (fun x => hasB (rcQ n m ll).2 x) := by
  refine sort_filter (rcQ_inv hg).n2 fun x hx => ?_
  have := (rcQ_inv hg).r2 x hx
  have := goodP_len hg
  omega
theorem shL_le (n m : Int) (ll : List (List Int)) : (shL n m ll).length ≤ 8 := by
  unfold shL
  split
  · rename_i h; rw [sortI_len]; exact (rcQ_len h).1
  · simp
theorem coA_le (n m : Int) (ll : List (List Int)) : (coA n m ll).length ≤ 8 := by
  unfold coA
  split
  · rename_i h
    have h1 := List.length_filter_le (fun x => !hasB (rcQ n m ll).1 x) (rangeI n.toNat)
    have := goodP_len h
    rw [rangeI_length] at h1
    omega
  · simp
theorem coR_le (n m : Int) (ll : List (List Int)) : (coR n m ll).length ≤ 8 := by
  unfold coR
  split
  · rename_i h; rw [sortI_len]; exact (rcQ_len h).2
  · simp
theorem sort_put' {s : List Int} {b : Int} (hn : s.Nodup) (hb : b ∉ s) : putL b (sortI s) = sortI (s ++ [b]) := by
  refine rise_eq (putL_rise (sortI_rise hn)) (sortI_rise (nodup_snoc hn hb)) fun x => ?_
  rw [putL_mem, sortI_mem, sortI_mem, List.mem_append, List.mem_singleton, or_comm]
theorem sort_take {s : List Int} (h : s.Nodup) {k : Nat} (hk : k < s.length) : putL (s.getD k 0) (sortI (s.take k)) = sortI (s.take (k + 1)) ∧ Rise (sortI (s.take k)) := by
  have h1 : (s.take k).Nodup := h.sublist (List.take_sublist _ _)
  have h2 : s.getD k 0 ∉ s.take k := fun hm => by
    obtain ⟨i, hi, e⟩ := List.getElem_of_mem hm
    rw [List.length_take] at hi
    rw [List.getElem_take, getD_get hk] at e
    have := (List.pairwise_iff_getElem.1 h) i k (by omega) hk (by omega)
    exact this e
  rw [sort_put' h1 h2, List.take_add_one, List.getElem?_eq_getElem hk, getD_get hk]
  exact ⟨rfl, sortI_rise h1⟩
theorem sortI_nil' : sortI [] = [] := rfl
/-- Those of the first k numbers. -/
def selN (q : Int → Bool) (k : Nat) : List Int := (rangeI k).filter q
theorem selN_zero (q : Int → Bool) : selN q 0 = [] := rfl
theorem selN_yes {q : Int → Bool} {k : Nat} (h : q (k : Int) = true) : selN q (k + 1) = selN q k ++ [(k : Int)] := by
  rw [selN, rangeI_succ, List.filter_append, List.filter_cons, h]; rfl
theorem selN_no {q : Int → Bool} {k : Nat} (h : q (k : Int) = false) : selN q (k + 1) = selN q k := by
  rw [selN, rangeI_succ, List.filter_append, List.filter_cons, h]; simp [selN]
theorem selN_le (q : Int → Bool) (k : Nat) : (selN q k).length ≤ k := by
  have := List.length_filter_le q (rangeI k)
  rwa [rangeI_length] at this
/-- The answers. -/
def imOk (n m : Int) (ll : List (List Int)) (mt : List Int) : Bool := isMatch n m ll mt && impB ll mt
def imL (n m : Int) (ll : List (List Int)) (mt : List Int) : List Int := if imOk n m ll mt = true then impO ll mt else []
def impR (ll : List (List Int)) (mt : List Int) : List Int := if impB ll mt = true then impO ll mt else []
def maL (n m : Int) (ll : List (List Int)) : List Int := if goodP n m ll = true then bestM' ll n.toNat else []
theorem imL_le (n m : Int) (ll : List (List Int)) (mt : List Int) : (imL n m ll mt).length ≤ 8 := by
  unfold imL
  split
  · rename_i h
    simp only [imOk, isMatch, matchOk, Bool.and_eq_true, decide_eq_true_eq] at h
    rw [impO_len (goodP_wish h.1.1.1)]
    have := goodP_len h.1.1.1
    omega
  · simp
theorem maL_le (n m : Int) (ll : List (List Int)) : (maL n m ll).length ≤ 8 := by
  unfold maL
  split
  · rename_i h
    unfold bestM'
    rw [bestN_len' (goodP_wish h)]
    have := goodP_len h
    omega
  · simp
end YtafalojjbghlhaaAM
end
section
/- Orders of jobs: no order has a lesser greatest lateness than that by due times (Jackson), in plain Lean. -/
set_option linter.unusedVariables false
set_option linter.unusedSimpArgs false
namespace YtafalojjbghlhaaAM

section
variable (L D : Int → Int)
def sumL (o : List Int) : Int := o.foldr (fun k s => L k + s) 0
/-- The time and the greatest lateness after some jobs. -/
def lateSt (o : List Int) (s : Int × Int) : Int × Int := o.foldl (fun s k => (s.1 + L k, max s.2 (s.1 + L k - D k))) s
def lateM (o : List Int) : Int := (lateSt L D o (0, 0)).2
variable {L D}
theorem sumL_nil : sumL L [] = 0 := rfl
theorem sumL_cons (k : Int) (o : List Int) : sumL L (k :: o) = L k + sumL L o := rfl
theorem sumL_append (a b : List Int) : sumL L (a ++ b) = sumL L a + sumL L b := by
  induction a with
  | nil => simp [sumL_nil]
  | cons k a ih => rw [List.cons_append, sumL_cons, sumL_cons, ih]; omega
theorem sumL_nonneg {o : List Int} (h : ∀ k ∈ o, 0 ≤ L k) : 0 ≤ sumL L o := by
  induction o with
  | nil => exact Int.le_refl _
  | cons k o ih =>
    rw [sumL_cons]
    have := h k (by simp)
    have := ih fun x hx => h x (by simp [hx])
    omega
theorem lateSt_cons (k : Int) (o : List Int) (s : Int × Int) : lateSt L D (k :: o) s = lateSt L D o (s.1 + L k, max s.2 (s.1 + L k - D k)) := rfl
theorem lateSt_mono (o : List Int) : ∀ s : Int × Int, s.2 ≤ (lateSt L D o s).2 := by
  induction o with
  | nil => intro s; exact Int.le_refl _
  | cons k o ih =>
    intro s
    rw [lateSt_cons]
    have := ih (s.1 + L k, max s.2 (s.1 + L k - D k))
    simp only [] at this
    omega
theorem late_ge (a : List Int) (k : Int) (b : List Int) : ∀ s : Int × Int, s.1 + sumL L a + L k - D k ≤ (lateSt L D (a ++ k :: b) s).2 := by
  induction a with
  | nil =>
    intro s
    rw [List.nil_append, lateSt_cons, sumL_nil]
    have := lateSt_mono (L := L) (D := D) b (s.1 + L k, max s.2 (s.1 + L k - D k))
    simp only [] at this
    omega
  | cons x a ih =>
    intro s
    rw [List.cons_append, lateSt_cons, sumL_cons]
    have := ih (s.1 + L x, max s.2 (s.1 + L x - D x))
    simp only [] at this
    omega
theorem late_le (o : List Int) : ∀ (s : Int × Int) (M : Int), s.2 ≤ M → (∀ a k b, o = a ++ k :: b → s.1 + sumL L a + L k - D k ≤ M) → (lateSt L D o s).2 ≤ M := by
  induction o with
  | nil => intro s M h _; exact h
  | cons k o ih =>
    intro s M h h2
    rw [lateSt_cons]
    refine ih _ M ?_ fun a x b e => ?_
    · have := h2 [] k o rfl
      rw [sumL_nil] at this
      simp only []
      omega
    · have := h2 (k :: a) x b (by rw [e]; rfl)
      rw [sumL_cons] at this
      simp only []
      omega
theorem late_at {o a b : List Int} {k : Int} (h : o = a ++ k :: b) : sumL L a + L k - D k ≤ lateM L D o := by
  have := late_ge (L := L) (D := D) a k b (0, 0)
  rw [← h] at this
  simp only [] at this
  unfold lateM; omega
theorem late_max {o : List Int} {M : Int} (h0 : 0 ≤ M) (h : ∀ a k b, o = a ++ k :: b → sumL L a + L k - D k ≤ M) : lateM L D o ≤ M :=
  late_le o (0, 0) M h0 fun a k b e => by have := h a k b e; simp only []; omega
theorem late_nonneg (o : List Int) : 0 ≤ lateM L D o := lateSt_mono (L := L) (D := D) o (0, 0)
theorem sumL_erase {T : List Int} {x : Int} (h : x ∈ T) : sumL L T = L x + sumL L (T.erase x) := by
  induction T with
  | nil => cases h
  | cons y T ih =>
    by_cases e : y = x
    · subst e; simp [sumL_cons]
    · rw [List.erase_cons_tail (by simpa using e), sumL_cons, sumL_cons, ih ((List.mem_cons.1 h).resolve_left fun e2 => e e2.symm)]
      omega
theorem sumL_sub : ∀ (S T : List Int), S.Nodup → (∀ x ∈ S, x ∈ T) → (∀ k ∈ T, 0 ≤ L k) → sumL L S ≤ sumL L T
  | [], T, _, _, h => by rw [sumL_nil]; exact sumL_nonneg h
  | x :: S, T, hn, hs, h => by
    have hx : x ∈ T := hs x (by simp)
    have hn' := List.nodup_cons.1 hn
    rw [sumL_cons, sumL_erase hx]
    have := sumL_sub S (T.erase x) hn'.2 (fun y hy => by
      have hyT := hs y (by simp [hy])
      exact (List.mem_erase_of_ne (fun e : y = x => hn'.1 (by rw [← e]; exact hy))).2 hyT) (fun k hk => h k (List.mem_of_mem_erase hk))
    omega
/-- The last of some in a list. -/
theorem last_of (p : Int → Prop) [DecidablePred p] : ∀ (o : List Int), (∃ x ∈ o, p x) → ∃ a k b, o = a ++ k :: b ∧ p k ∧ ∀ x ∈ b, ¬ p x
  | [], h => by obtain ⟨x, hx, _⟩ := h; cases hx
  | y :: o, h => by
    by_cases h2 : ∃ x ∈ o, p x
    · obtain ⟨a, k, b, e, h3, h4⟩ := last_of p o h2
      exact ⟨y :: a, k, b, by rw [e]; rfl, h3, h4⟩
    · obtain ⟨x, hx, hp⟩ := h
      rcases List.mem_cons.1 hx with rfl | hx
      · exact ⟨[], x, o, rfl, hp, fun z hz hpz => h2 ⟨z, hz, hpz⟩⟩
      · exact absurd ⟨x, hx, hp⟩ h2
/-- By due times the greatest lateness is the least. -/
theorem jackson {E o : List Int} (hE : E.Nodup) (hs : E.Pairwise (fun a b => D a ≤ D b)) (hsub : ∀ x ∈ E, x ∈ o) (hL : ∀ k ∈ o, 0 ≤ L k) : lateM L D E ≤ lateM L D o := by
  refine late_max (late_nonneg o) fun a k b e => ?_
  have hin : ∀ x, x ∈ a ++ [k] → x ∈ E := fun x hx => by
    rw [e]
    rcases List.mem_append.1 hx with h | h
    · exact List.mem_append.2 (.inl h)
    · exact List.mem_append.2 (.inr (by simp at h; simp [h]))
  obtain ⟨a', k', b', e', h1, h2⟩ := last_of (fun x => x ∈ a ++ [k]) o ⟨k, hsub k (hin k (by simp)), by simp⟩
  have hn : (a ++ [k]).Nodup := by
    rw [e, show a ++ k :: b = (a ++ [k]) ++ b by simp] at hE
    exact (List.nodup_append.1 hE).1
  have hsum : sumL L (a ++ [k]) ≤ sumL L (a' ++ [k']) := by
    refine sumL_sub _ _ hn (fun x hx => ?_) fun x hx => hL x ?_
    · have hxo := hsub x (hin x hx)
      rw [e', show a' ++ k' :: b' = (a' ++ [k']) ++ b' by simp] at hxo
      rcases List.mem_append.1 hxo with h | h
      · exact h
      · exact absurd hx (h2 x h)
    · rw [e', show a' ++ k' :: b' = (a' ++ [k']) ++ b' by simp]
      exact List.mem_append.2 (.inl hx)
  have hdue : D k' ≤ D k := by
    rw [e] at hs
    rcases List.mem_append.1 h1 with h | h
    · exact (List.pairwise_append.1 hs).2.2 k' h k (by simp)
    · simp at h; rw [h]; exact Int.le_refl _
  have := late_at (L := L) (D := D) e'
  rw [sumL_append, sumL_append, sumL_cons, sumL_cons, sumL_nil] at hsum
  omega
end
end YtafalojjbghlhaaAM
end
section
/- The fewest late jobs (Moore and Hodgson), in plain Lean. -/
set_option linter.unusedVariables false
set_option linter.unusedSimpArgs false
namespace YtafalojjbghlhaaAM

section
variable (L D : Int → Int)
/-- Each job of the list is in time, one behind the other. -/
def InTime (F : List Int) : Prop := ∀ a k b, F = a ++ k :: b → sumL L a + L k ≤ D k
/-- The last one of those that are the longest. -/
def longN (T : List Int) (j : Nat) : Nat := foldN (fun i j => if L (T.getD i 0) ≤ L (T.getD j 0) then j else i) 0 j
def longI (T : List Int) : Nat := longN L T T.length
/-- One job more: where it is late the longest goes. -/
def mooS (T : List Int) (x : Int) : List Int := if sumL L T + L x ≤ D x then T ++ [x] else (T ++ [x]).eraseIdx (longI L (T ++ [x]))
def mooN (E : List Int) (k : Nat) : List Int := foldN (fun T i => mooS L D T (E.getD i 0)) [] k
variable {L D}
theorem longN_zero (T : List Int) : longN L T 0 = 0 := rfl
theorem longN_succ (T : List Int) (j : Nat) : longN L T (j + 1) = if L (T.getD (longN L T j) 0) ≤ L (T.getD j 0) then j else longN L T j := rfl
theorem longN_lt (T : List Int) : ∀ j, 0 < j → longN L T j < j
  | 0, h => by omega
  | j + 1, _ => by
    rw [longN_succ]
    split
    · omega
    · rcases Nat.eq_zero_or_pos j with rfl | h
      · rw [longN_zero]; omega
      · have := longN_lt T j h; omega
theorem longN_max (T : List Int) : ∀ j i, i < j → L (T.getD i 0) ≤ L (T.getD (longN L T j) 0)
  | 0, i, h => by omega
  | j + 1, i, h => by
    rw [longN_succ]
    split
    · rename_i h2
      rcases Nat.lt_or_ge i j with c | c
      · have := longN_max T j i c; omega
      · obtain rfl : i = j := by omega
        exact Int.le_refl _
    · rename_i h2
      rcases Nat.lt_or_ge i j with c | c
      · exact longN_max T j i c
      · obtain rfl : i = j := by omega
        omega
theorem mooN_zero (E : List Int) : mooN L D E 0 = [] := rfl
theorem mooN_succ (E : List Int) (k : Nat) : mooN L D E (k + 1) = mooS L D (mooN L D E k) (E.getD k 0) := rfl
/-- A list without its place i. -/
theorem erase_split {T : List Int} {i : Nat} (h : i < T.length) : T = T.take i ++ T.getD i 0 :: T.drop (i + 1) ∧ T.eraseIdx i = T.take i ++ T.drop (i + 1) := by
  refine ⟨?_, List.eraseIdx_eq_take_drop_succ _ _⟩
  rw [getD_get h, ← List.drop_eq_getElem_cons h, List.take_append_drop]
theorem nod_sub_len : ∀ {S T : List Int}, S.Nodup → (∀ x ∈ S, x ∈ T) → S.length ≤ T.length
  | [], T, _, _ => by simp
  | x :: S, T, hn, hs => by
    have hx : x ∈ T := hs x (by simp)
    have hn' := List.nodup_cons.1 hn
    have := nod_sub_len (S := S) (T := T.erase x) hn'.2 fun y hy => (List.mem_erase_of_ne (fun e : y = x => hn'.1 (by rw [← e]; exact hy))).2 (hs y (by simp [hy]))
    have h2 := List.length_erase_of_mem hx
    have h3 := List.length_pos_of_mem hx
    rw [List.length_cons]; omega
theorem more_than {S U : List Int} (hU : U.Nodup) (h : S.length < U.length) : ∃ z ∈ U, z ∉ S := by
  by_cases hc : ∃ z ∈ U, z ∉ S
  · exact hc
  · have : ∀ x ∈ U, x ∈ S := fun x hx => by
      by_cases h2 : x ∈ S
      · exact h2
      · exact absurd ⟨x, hx, h2⟩ hc
    have := nod_sub_len hU this
    omega
theorem InTime.sub {F G : List Int} (h : InTime L D G) (hs : F.Sublist G) (hL : ∀ k ∈ G, 0 ≤ L k) : InTime L D F := by
  intro a k b e
  subst e
  -- the same job in the greater list has no less ahead of it
  have key : ∀ (G : List Int) (a : List Int) (k : Int) (b : List Int), (a ++ k :: b).Sublist G → (∀ k ∈ G, 0 ≤ L k) → ∃ a' b', G = a' ++ k :: b' ∧ sumL L a ≤ sumL L a' := by
    intro G
    induction G with
    | nil => intro a k b hs _; have := hs.length_le; simp at this
    | cons y G ih =>
      intro a k b hs hL
      have hy := hL y (by simp)
      cases a with
      | nil =>
        rw [List.nil_append] at hs
        cases hs with
        | cons _ h2 =>
          obtain ⟨a', b', e, h3⟩ := ih [] k b h2 fun k hk => hL k (by simp [hk])
          exact ⟨y :: a', b', by rw [e]; rfl, by rw [sumL_cons]; omega⟩
        | cons_cons _ h2 => exact ⟨[], G, rfl, Int.le_refl _⟩
      | cons z a =>
        rw [List.cons_append] at hs
        cases hs with
        | cons _ h2 =>
          obtain ⟨a', b', e, h3⟩ := ih (z :: a) k b h2 fun k hk => hL k (by simp [hk])
          exact ⟨y :: a', b', by rw [e]; rfl, by rw [sumL_cons (L := L) y]; omega⟩
        | cons_cons _ h2 =>
          obtain ⟨a', b', e, h3⟩ := ih a k b h2 fun k hk => hL k (by simp [hk])
          exact ⟨y :: a', b', by rw [e]; rfl, by rw [sumL_cons, sumL_cons]; omega⟩
  obtain ⟨a', b', e, h2⟩ := key G a k b hs hL
  have := h a' k b' e
  omega
/-- What is known after some jobs in their order. -/
structure Moo (L D : Int → Int) (E : List Int) (T : List Int) : Prop where
  inT : InTime L D T
  sub : T.Sublist E
  best : ∀ F, F.Sublist E → InTime L D F → ∃ S : List Int, S.Nodup ∧ (∀ x ∈ S, x ∈ T) ∧ S.length = F.length ∧ sumL L S ≤ sumL L F
theorem InTime.snoc {T : List Int} {x : Int} (h : InTime L D T) (hx : sumL L T + L x ≤ D x) : InTime L D (T ++ [x]) := by
  intro a k b e
  rcases List.append_eq_append_iff.1 e with ⟨c, h1, h2⟩ | ⟨c, h1, h2⟩
  · cases c with
    | nil =>
      simp at h1 h2
      subst h1
      obtain ⟨rfl, _⟩ := h2
      exact hx
    | cons y c =>
      exfalso
      have := congrArg List.length h2
      simp at this
  · cases c with
    | nil =>
      simp at h1 h2
      subst h1
      obtain ⟨rfl, _⟩ := h2
      exact hx
    | cons y c =>
      rw [List.cons_append] at h2
      injection h2 with h3 h4
      subst h3
      exact h a k c h1
theorem InTime.last {T : List Int} {x : Int} (h : InTime L D (T ++ [x])) : sumL L T + L x ≤ D x := h T x [] rfl
/-- The last one of a list in time. -/
theorem InTime.total {T : List Int} (h : InTime L D T) (hne : T ≠ []) {d : Int} (hd : ∀ y ∈ T, D y ≤ d) : sumL L T ≤ d := by
  rcases List.eq_nil_or_concat T with rfl | ⟨a, y, rfl⟩
  · exact absurd rfl hne
  · rw [List.concat_eq_append] at *
    have := h.last
    have := hd y (by simp)
    rw [sumL_append, sumL_cons, sumL_nil]; omega
/-- A sublist of a list and one more. -/
theorem sub_snoc_cases {F E : List Int} {x : Int} (h : F.Sublist (E ++ [x])) : F.Sublist E ∨ ∃ G, F = G ++ [x] ∧ G.Sublist E := by
  obtain ⟨a, b, e, h1, h2⟩ := List.sublist_append_iff.1 h
  cases b with
  | nil => rw [List.append_nil] at e; subst e; exact .inl h1
  | cons y b =>
    cases h2 with
    | cons _ h3 => cases h3
    | cons_cons _ h3 =>
      cases h3
      exact .inr ⟨a, e, h1⟩
theorem Moo.step {E T : List Int} {x : Int} (h : Moo L D E T) (hn : (E ++ [x]).Nodup) (hL : ∀ y ∈ E ++ [x], 0 ≤ L y) (hD : ∀ y ∈ E, D y ≤ D x) : Moo L D (E ++ [x]) (mooS L D T x) := by
  have hTE : ∀ y ∈ T, y ∈ E := fun y hy => h.sub.subset hy
  have hxE : x ∉ E := fun hx => by
    have := (List.nodup_append.1 hn).2.2 x hx x (by simp)
    exact this rfl
  have hEn := (List.nodup_append.1 hn).1
  have hTn : T.Nodup := hEn.sublist h.sub
  have hUn : (T ++ [x]).Nodup := nodup_snoc hTn fun hx => hxE (hTE x hx)
  have hUsub : (T ++ [x]).Sublist (E ++ [x]) := h.sub.append (List.Sublist.refl _)
  -- what would be chosen of T and x together
  have big : ∀ F, F.Sublist (E ++ [x]) → InTime L D F → ∃ S : List Int, S.Nodup ∧ (∀ y ∈ S, y ∈ T ++ [x]) ∧ S.length = F.length ∧ sumL L S ≤ sumL L F ∧ (x ∉ F → S.length ≤ T.length) ∧ (x ∈ F → sumL L F ≤ D x) := fun F hF hFt => by
    rcases sub_snoc_cases hF with h1 | ⟨G, rfl, h1⟩
    · obtain ⟨S, s1, s2, s3, s4⟩ := h.best F h1 hFt
      exact ⟨S, s1, fun y hy => List.mem_append.2 (.inl (s2 y hy)), s3, s4, fun _ => nod_sub_len s1 s2, fun hx => absurd (h1.subset hx) hxE⟩
    · have hGt := hFt.sub (List.sublist_append_left G [x]) (fun k hk => hL k (hF.subset hk))
      obtain ⟨S, s1, s2, s3, s4⟩ := h.best G h1 hGt
      refine ⟨S ++ [x], nodup_snoc s1 fun hx => hxE (hTE x (s2 x hx)), fun y hy => ?_, by simp [s3], by rw [sumL_append, sumL_append]; omega, fun hx => absurd (by simp) hx, fun _ => ?_⟩
      · rcases List.mem_append.1 hy with h2 | h2
        · exact List.mem_append.2 (.inl (s2 y h2))
        · exact List.mem_append.2 (.inr h2)
      · have := hFt.last
        rw [sumL_append, sumL_cons, sumL_nil]; omega
  unfold mooS
  split
  · rename_i hc
    exact ⟨h.inT.snoc hc, hUsub, fun F hF hFt => by
      obtain ⟨S, s1, s2, s3, s4, _⟩ := big F hF hFt
      exact ⟨S, s1, s2, s3, s4⟩⟩
  · rename_i hc
    have hlen : 0 < (T ++ [x]).length := by simp
    have hi := longN_lt (L := L) (T ++ [x]) (T ++ [x]).length hlen
    have hmax := longN_max (L := L) (T ++ [x]) (T ++ [x]).length
    have hiE : longI L (T ++ [x]) < (T ++ [x]).length := hi
    obtain ⟨e1, e2⟩ := erase_split hiE
    have hy : (T ++ [x]).getD (longI L (T ++ [x])) 0 ∈ T ++ [x] := by rw [getD_get hiE]; exact List.getElem_mem _
    have hmx : ∀ z ∈ T ++ [x], L z ≤ L ((T ++ [x]).getD (longI L (T ++ [x])) 0) := fun z hz => by
      obtain ⟨j, hj, rfl⟩ := List.getElem_of_mem hz
      have := hmax j hj
      rwa [getD_get hj] at this
    -- who is left
    have hsubU : ((T ++ [x]).eraseIdx (longI L (T ++ [x]))).Sublist (T ++ [x]) := List.eraseIdx_sublist _ _
    have hleft : ∀ z ∈ T ++ [x], z ≠ (T ++ [x]).getD (longI L (T ++ [x])) 0 → z ∈ (T ++ [x]).eraseIdx (longI L (T ++ [x])) := fun z hz hne => by
      rw [e2]
      rw [e1] at hz
      rcases List.mem_append.1 hz with h1 | h1
      · exact List.mem_append.2 (.inl h1)
      · rcases List.mem_cons.1 h1 with h2 | h2
        · exact absurd h2 hne
        · exact List.mem_append.2 (.inr h2)
    refine ⟨?_, hsubU.trans hUsub, fun F hF hFt => ?_⟩
    · -- in time
      rcases Nat.lt_or_ge (longI L (T ++ [x])) T.length with c | c
      · have hne : T ≠ [] := by intro e; rw [e] at c; simp at c
        have f1 : (T ++ [x]).eraseIdx (longI L (T ++ [x])) = T.eraseIdx (longI L (T ++ [x])) ++ [x] := List.eraseIdx_append_of_lt_length c _
        rw [f1]
        refine (h.inT.sub (List.eraseIdx_sublist _ _) fun k hk => hL k (List.mem_append.2 (.inl (hTE k hk)))).snoc ?_
        have f2 : (T ++ [x]).getD (longI L (T ++ [x])) 0 = T.getD (longI L (T ++ [x])) 0 := by
          simp only [List.getD_eq_getElem?_getD]; rw [List.getElem?_append_left c]
        obtain ⟨g1, g2⟩ := erase_split c
        have f3 : sumL L T = sumL L (T.eraseIdx (longI L (T ++ [x]))) + L (T.getD (longI L (T ++ [x])) 0) := by
          conv => lhs; rw [g1]
          rw [g2, sumL_append, sumL_append, sumL_cons]; omega
        have f4 := hmx x (by simp)
        rw [f2] at f4
        have f5 := h.inT.total hne (d := D x) fun y hy => hD y (hTE y hy)
        omega
      · have c2 : longI L (T ++ [x]) = T.length := by simp at hiE; omega
        have f1 : (T ++ [x]).eraseIdx (longI L (T ++ [x])) = T := by
          rw [c2, List.eraseIdx_append_of_length_le (Nat.le_refl _), Nat.sub_self]; simp
        rw [f1]; exact h.inT
    · obtain ⟨S, s1, s2, s3, s4, s5, s6⟩ := big F hF hFt
      by_cases hyS : (T ++ [x]).getD (longI L (T ++ [x])) 0 ∈ S
      · -- another one in its place
        have hlt : S.length < (T ++ [x]).length := by
          rcases Nat.lt_or_ge S.length (T ++ [x]).length with hlt | hge
          · exact hlt
          · exfalso
            have hUS : ∀ z ∈ T ++ [x], z ∈ S := fun z hz => by
              by_cases h2 : z ∈ S
              · exact h2
              · exfalso
                have := nod_sub_len (S := S ++ [z]) (nodup_snoc s1 h2) (T := T ++ [x]) fun y hy => by
                  rcases List.mem_append.1 hy with h3 | h3
                  · exact s2 y h3
                  · simp at h3; rw [h3]; exact hz
                simp at this hge; omega
            have hsum := sumL_sub (L := L) _ S hUn hUS fun k hk => hL k (hUsub.subset (s2 k hk))
            rw [sumL_append, sumL_cons, sumL_nil] at hsum
            by_cases hxF : x ∈ F
            · have := s6 hxF; omega
            · have := s5 hxF; simp at hge; omega
        obtain ⟨z, hz, hzS⟩ := more_than hUn hlt
        refine ⟨S.erase ((T ++ [x]).getD (longI L (T ++ [x])) 0) ++ [z], nodup_snoc (s1.erase _) fun hm => hzS (List.mem_of_mem_erase hm), fun y hy => ?_, ?_, ?_⟩
        · rcases List.mem_append.1 hy with h3 | h3
          · refine hleft y (s2 y (List.mem_of_mem_erase h3)) fun e => ?_
            rw [e] at h3
            exact (List.Nodup.not_mem_erase s1) h3
          · simp at h3
            rw [h3]
            exact hleft z hz fun e => hzS (by rw [e]; exact hyS)
        · have g1 := List.length_erase_of_mem hyS
          have g2 := List.length_pos_of_mem hyS
          rw [List.length_append, g1, List.length_singleton, ← s3]; omega
        · have g1 := sumL_erase (L := L) hyS
          have g2 := hmx z hz
          rw [sumL_append, sumL_cons, sumL_nil]
          omega
      · exact ⟨S, s1, fun y hy => hleft y (s2 y hy) fun e => hyS (by rw [← e]; exact hy), s3, s4⟩
theorem mooN_moo {E : List Int} (hn : E.Nodup) (hL : ∀ y ∈ E, 0 ≤ L y) (hs : E.Pairwise (fun a b => D a ≤ D b)) : ∀ k, k ≤ E.length → Moo L D (E.take k) (mooN L D E k)
  | 0, _ => by
    rw [List.take_zero, mooN_zero]
    refine ⟨fun a k b e => by simp at e, List.Sublist.refl _, fun F hF _ => ?_⟩
    obtain rfl := List.sublist_nil.1 hF
    exact ⟨[], List.nodup_nil, (fun x hx => nomatch hx), rfl, Int.le_refl _⟩
  | k + 1, hk => by
    have ih := mooN_moo hn hL hs k (by omega)
    have e : E.take (k + 1) = E.take k ++ [E.getD k 0] := by
      rw [List.take_add_one, List.getElem?_eq_getElem (by omega), getD_get (by omega)]; rfl
    rw [mooN_succ, e]
    refine ih.step (by rw [← e]; exact hn.sublist (List.take_sublist _ _)) (fun y hy => hL y (by rw [← e] at hy; exact List.mem_of_mem_take hy)) fun y hy => ?_
    obtain ⟨j, hj, rfl⟩ := List.getElem_of_mem hy
    rw [List.length_take] at hj
    rw [List.getElem_take, getD_get (by omega)]
    exact (List.pairwise_iff_getElem.1 hs) j k (by omega) (by omega) (by omega)
/-- Whoever is in time, one behind the other in the order by due times, is no more than these. -/
theorem moore_best {E : List Int} (hn : E.Nodup) (hL : ∀ y ∈ E, 0 ≤ L y) (hs : E.Pairwise (fun a b => D a ≤ D b)) : InTime L D (mooN L D E E.length) ∧ (mooN L D E E.length).Sublist E ∧ ∀ F, F.Sublist E → InTime L D F → F.length ≤ (mooN L D E E.length).length := by
  have h := mooN_moo hn hL hs E.length (Nat.le_refl _)
  rw [List.take_of_length_le (Nat.le_refl _)] at h
  refine ⟨h.inT, h.sub, fun F hF hFt => ?_⟩
  obtain ⟨S, s1, s2, s3, _⟩ := h.best F hF hFt
  rw [← s3]
  exact nod_sub_len s1 s2
/-- The jobs of an order that are in time, and how many are not. -/
def onT (L D : Int → Int) : List Int → Int → List Int
  | [], _ => []
  | k :: o, t => if t + L k ≤ D k then k :: onT L D o (t + L k) else onT L D o (t + L k)
def lateN (L D : Int → Int) : List Int → Int → Nat
  | [], _ => 0
  | k :: o, t => (if t + L k ≤ D k then 0 else 1) + lateN L D o (t + L k)
theorem late_on (o : List Int) : ∀ t, lateN L D o t + (onT L D o t).length = o.length := by
  induction o with
  | nil => intro t; rfl
  | cons k o ih =>
    intro t
    have := ih (t + L k)
    simp only [lateN, onT]
    split <;> simp only [List.length_cons] <;> omega
theorem onT_sub (o : List Int) : ∀ t, (onT L D o t).Sublist o := by
  induction o with
  | nil => intro t; exact List.Sublist.refl _
  | cons k o ih =>
    intro t
    simp only [onT]
    split
    · exact (ih _).cons_cons _
    · exact (ih _).cons _
theorem onT_at {o : List Int} (hn : o.Nodup) : ∀ t a k b, o = a ++ k :: b → (k ∈ onT L D o t ↔ t + sumL L a + L k ≤ D k) := by
  induction o with
  | nil => intro t a k b e; simp at e
  | cons y o ih =>
    intro t a k b e
    have hn' := List.nodup_cons.1 hn
    cases a with
    | nil =>
      rw [List.nil_append] at e
      injection e with e1 e2
      subst e1 e2
      rw [sumL_nil, Int.add_zero]
      simp only [onT]
      have hno : ∀ t', y ∉ onT L D o t' := fun t' hm => hn'.1 ((onT_sub o t').subset hm)
      split
      · rename_i h; exact ⟨fun _ => h, fun _ => by simp⟩
      · rename_i h; exact ⟨fun hm => absurd hm (hno _), fun h2 => absurd h2 h⟩
    | cons z a =>
      rw [List.cons_append] at e
      injection e with e1 e2
      subst e1
      have hk : k ≠ y := fun e3 => hn'.1 (by rw [e2, ← e3]; simp)
      have := ih hn'.2 (t + L y) a k b e2
      rw [sumL_cons, show t + (L y + sumL L a) + L k = t + L y + sumL L a + L k by omega, ← this]
      simp only [onT]
      split
      · rw [List.mem_cons]; exact ⟨fun h => h.resolve_left hk, .inr⟩
      · exact Iff.rfl
/-- No order has more in time. -/
theorem moore {E o : List Int} (hE : E.Nodup) (hs : E.Pairwise (fun a b => D a ≤ D b)) (ho : o.Nodup) (hm : ∀ x, x ∈ o ↔ x ∈ E) (hL : ∀ k ∈ E, 0 ≤ L k) : (onT L D o 0).length ≤ (mooN L D E E.length).length := by
  have hF : (E.filter fun x => decide (x ∈ onT L D o 0)).Sublist E := List.filter_sublist
  have hlen : (onT L D o 0).length ≤ (E.filter fun x => decide (x ∈ onT L D o 0)).length := by
    refine nod_sub_len (ho.sublist (onT_sub o 0)) fun x hx => ?_
    rw [List.mem_filter]
    exact ⟨(hm x).1 ((onT_sub o 0).subset hx), by simpa using hx⟩
  refine Nat.le_trans hlen ((moore_best hE hL hs).2.2 _ hF ?_)
  intro a k b e
  have hmem : ∀ x ∈ a ++ [k], x ∈ E ∧ x ∈ onT L D o 0 := fun x hx => by
    have : x ∈ E.filter fun x => decide (x ∈ onT L D o 0) := by
      rw [e]
      rcases List.mem_append.1 hx with h | h
      · exact List.mem_append.2 (.inl h)
      · exact List.mem_append.2 (.inr (by simp at h; simp [h]))
    have := List.mem_filter.1 this
    exact ⟨this.1, by simpa using this.2⟩
  obtain ⟨a', k', b', e', h1, h2⟩ := last_of (fun x => x ∈ a ++ [k]) o ⟨k, (hm k).2 (hmem k (by simp)).1, by simp⟩
  have hFn := hE.sublist hF
  have hn : (a ++ [k]).Nodup := by
    rw [e, show a ++ k :: b = (a ++ [k]) ++ b by simp] at hFn
    exact (List.nodup_append.1 hFn).1
  have hsum : sumL L (a ++ [k]) ≤ sumL L (a' ++ [k']) := by
    refine sumL_sub _ _ hn (fun x hx => ?_) fun x hx => hL x ((hm x).1 ?_)
    · have hxo := (hm x).2 (hmem x hx).1
      rw [e', show a' ++ k' :: b' = (a' ++ [k']) ++ b' by simp] at hxo
      rcases List.mem_append.1 hxo with h | h
      · exact h
      · exact absurd hx (h2 x h)
    · rw [e', show a' ++ k' :: b' = (a' ++ [k']) ++ b' by simp]
      exact List.mem_append.2 (.inl hx)
  have hin := (onT_at ho 0 a' k' b' e').1 (hmem k' h1).2
  have hFs := hs.sublist hF
  have hdue : D k' ≤ D k := by
    rw [e] at hFs
    rcases List.mem_append.1 h1 with h | h
    · exact (List.pairwise_append.1 hFs).2.2 k' h k (by simp)
    · simp at h; rw [h]; exact Int.le_refl _
  rw [sumL_append, sumL_append, sumL_cons, sumL_cons, sumL_nil] at hsum
  omega
end
end YtafalojjbghlhaaAM
end
