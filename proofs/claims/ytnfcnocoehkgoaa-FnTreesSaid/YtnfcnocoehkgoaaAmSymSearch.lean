/- The searches and the moves of merging in place, in plain Lean. -/
import Derived.Test.YtnfcnocoehkgoaaAmSymMerge
set_option linter.unusedVariables false
set_option linter.unusedSimpArgs false
namespace YtnfcnocoehkgoaaAM

section
variable {key : Int → Int} {d : List Int} {a m b i j k : Nat}
/-- The middle between two places. -/
def mid2 (i j : Nat) : Nat := (i + j) / 2
theorem mid2_lt (h : i < j) : i ≤ mid2 i j ∧ mid2 i j < j := by unfold mid2; omega
theorem mid2_two (i j : Nat) : 2 * mid2 i j ≤ i + j ∧ i + j ≤ 2 * mid2 i j + 1 := by unfold mid2; omega
theorem val_at {d : List Int} {lo hi : Int} (h : ∀ y ∈ d, lo ≤ y ∧ y < hi) {x : Nat} (hx : x < d.length) : lo ≤ d.getD x 0 ∧ d.getD x 0 < hi := h _ (by rw [getD_get hx]; exact List.getElem_mem _)
/-- Where the first number comes to lie. -/
def AI (key : Int → Int) (d : List Int) (a m b i j : Nat) : Prop := (m ≤ i ∧ i ≤ j ∧ j ≤ b) ∧ (i = m ∨ key (d.getD (i - 1) 0) < key (d.getD a 0)) ∧ (j = b ∨ ¬ key (d.getD j 0) < key (d.getD a 0))
theorem AI.start (h : m ≤ b) : AI key d a m b m b := ⟨⟨Nat.le_refl _, h, Nat.le_refl _⟩, .inl rfl, .inl rfl⟩
theorem AI.up (h : AI key d a m b i j) (hij : i < j) (hc : key (d.getD (mid2 i j) 0) - key (d.getD a 0) < 0) : AI key d a m b (mid2 i j + 1) j := by
  have := mid2_lt hij
  exact ⟨⟨by have := h.1; omega, by omega, h.1.2.2⟩, .inr (by rw [Nat.add_sub_cancel]; omega), h.2.2⟩
theorem AI.down (h : AI key d a m b i j) (hij : i < j) (hc : ¬ key (d.getD (mid2 i j) 0) - key (d.getD a 0) < 0) : AI key d a m b i (mid2 i j) := by
  have := mid2_lt hij
  exact ⟨⟨h.1.1, by omega, by have := h.1; omega⟩, h.2.1, .inr (by omega)⟩
theorem AI.all (h : AI key d a m b i j) (hij : ¬ i < j) (hm : MG key d a m b) (h1 : m = a + 1) : rotL d a m i = segS key d a b := by
  obtain ⟨hr, h2, h3⟩ := h
  have : i = j := by omega
  subst this
  exact hm.one h1 ⟨hr.1, hr.2.2⟩ h2 h3
/-- Where the last number comes to lie. -/
def CI (key : Int → Int) (d : List Int) (a m i j : Nat) : Prop := (a ≤ i ∧ i ≤ j ∧ j ≤ m) ∧ (i = a ∨ ¬ key (d.getD m 0) < key (d.getD (i - 1) 0)) ∧ (j = m ∨ key (d.getD m 0) < key (d.getD j 0))
theorem CI.start (h : a ≤ m) : CI key d a m a m := ⟨⟨Nat.le_refl _, h, Nat.le_refl _⟩, .inl rfl, .inl rfl⟩
theorem CI.up (h : CI key d a m i j) (hij : i < j) (hc : ¬ key (d.getD m 0) - key (d.getD (mid2 i j) 0) < 0) : CI key d a m (mid2 i j + 1) j := by
  have := mid2_lt hij
  exact ⟨⟨by have := h.1; omega, by omega, h.1.2.2⟩, .inr (by rw [Nat.add_sub_cancel]; omega), h.2.2⟩
theorem CI.down (h : CI key d a m i j) (hij : i < j) (hc : key (d.getD m 0) - key (d.getD (mid2 i j) 0) < 0) : CI key d a m i (mid2 i j) := by
  have := mid2_lt hij
  exact ⟨⟨h.1.1, by omega, by have := h.1; omega⟩, h.2.1, .inr (by omega)⟩
theorem CI.all (h : CI key d a m i j) (hij : ¬ i < j) (hm : MG key d a m b) (h1 : b = m + 1) : rotL d i m (m + 1) = segS key d a b := by
  obtain ⟨hr, h2, h3⟩ := h
  have : i = j := by omega
  subst this
  exact hm.oneR h1 ⟨hr.1, hr.2.2⟩ h2 h3
/-- Where the halves meet. -/
def EI (key : Int → Int) (d : List Int) (a m b i j : Nat) : Prop := ((a ≤ i ∧ mid2 a b + m ≤ i + b) ∧ i ≤ j ∧ (j ≤ m ∧ j ≤ mid2 a b)) ∧
  (i = a ∨ i + b = mid2 a b + m ∨ key (d.getD (i - 1) 0) ≤ key (d.getD (mid2 a b + m - i) 0)) ∧ (j = m ∨ j = mid2 a b ∨ key (d.getD (mid2 a b + m - 1 - j) 0) < key (d.getD j 0))
theorem EI.start (h : a ≤ m) (h2 : m ≤ b) : EI key d a m b (max a (mid2 a b + m - b)) (min m (mid2 a b)) := by
  unfold EI mid2
  refine ⟨⟨⟨by omega, by omega⟩, by omega, by omega, by omega⟩, ?_, ?_⟩
  · rcases Nat.lt_or_ge a ((a + b) / 2 + m - b) with c | c
    · exact .inr (.inl (by omega))
    · exact .inl (by omega)
  · rcases Nat.le_total m ((a + b) / 2) with c | c
    · exact .inl (by omega)
    · exact .inr (.inl (by omega))
theorem EI.up (h : EI key d a m b i j) (hij : i < j) (hc : ¬ key (d.getD (mid2 a b + m - 1 - mid2 i j) 0) - key (d.getD (mid2 i j) 0) < 0) : EI key d a m b (mid2 i j + 1) j := by
  have hm := mid2_lt hij
  obtain ⟨⟨h1, h2, h3⟩, h4, h5⟩ := h
  refine ⟨⟨⟨by omega, by omega⟩, by omega, h3⟩, .inr (.inr ?_), h5⟩
  rw [Nat.add_sub_cancel, show mid2 a b + m - (mid2 i j + 1) = mid2 a b + m - 1 - mid2 i j by omega]
  omega
theorem EI.down (h : EI key d a m b i j) (hij : i < j) (hc : key (d.getD (mid2 a b + m - 1 - mid2 i j) 0) - key (d.getD (mid2 i j) 0) < 0) : EI key d a m b i (mid2 i j) := by
  have hm := mid2_lt hij
  obtain ⟨⟨h1, h2, h3⟩, h4, h5⟩ := h
  exact ⟨⟨h1, by omega, by omega, by omega⟩, h4, .inr (.inr (by omega))⟩
theorem EI.cut (h : EI key d a m b i j) (hij : ¬ i < j) (hm : MG key d a m b) : Cut key d a m b i (mid2 a b + m - i) (mid2 a b) := by
  obtain ⟨⟨h1, h2, h3⟩, h4, h5⟩ := h
  have e : i = j := by omega
  subst e
  refine ⟨hm, ⟨h1.1, h3.1⟩, ⟨by omega, by omega⟩, by omega, ?_, ?_⟩
  · rcases h4 with c | c | c
    · exact .inl c
    · exact .inr (.inl (by omega))
    · exact .inr (.inr c)
  · rcases h5 with c | c | c
    · exact .inl c
    · exact .inr (.inl (by omega))
    · refine .inr (.inr ?_)
      rw [show mid2 a b + m - i - 1 = mid2 a b + m - 1 - i by omega]
      exact c
/-- One place further. -/
theorem rot_stepR (h1 : m = a + 1) (hk : a ≤ k) (hk2 : k + 1 < d.length) : rotL d a m (k + 1 + 1) = ((rotL d a m (k + 1)).set k ((rotL d a m (k + 1)).getD (k + 1) 0)).set (k + 1) ((rotL d a m (k + 1)).getD k 0) := by
  obtain ⟨p, x, y, q, rfl, e1, e2, e3⟩ := cut4 d (s := a) (m := m) (e := k + 1) (by omega) (by omega) (by omega)
  obtain ⟨x0, v, rfl, hx⟩ := snoc_of (l := x) (n := 0) (by simp only [List.length_append] at e2; omega)
  have : x0 = [] := List.eq_nil_of_length_eq_zero hx
  subst this
  rcases q with _ | ⟨z, q⟩
  · simp only [List.length_append, List.length_nil] at e3 hk2; omega
  rw [List.nil_append] at *
  have hl := e3
  simp only [List.length_append, List.length_singleton] at hl e2
  rw [rotL_app e1 (by simp only [List.length_append, List.length_singleton]; omega) e3]
  have q1 : p ++ [v] ++ y ++ z :: q = p ++ [v] ++ (y ++ [z]) ++ q := by simp only [List.append_assoc, List.cons_append, List.nil_append]
  rw [q1, rotL_app e1 (by simp only [List.length_append, List.length_singleton]; omega) (by simp only [List.length_append, List.length_singleton]; omega)]
  have q2 : p ++ y ++ [v] ++ z :: q = (p ++ y ++ [v]) ++ z :: q := rfl
  have g1 : (p ++ y ++ [v] ++ z :: q).getD (k + 1) 0 = z := at_app (by simp only [List.length_append, List.length_singleton]; omega)
  have q3 : p ++ y ++ [v] ++ z :: q = (p ++ y) ++ v :: z :: q := by simp only [List.append_assoc, List.cons_append, List.nil_append]
  have hk3 : k = (p ++ y).length := by simp only [List.length_append]; omega
  rw [g1, q3, at_app hk3, set_app hk3]
  have q4 : (p ++ y) ++ z :: z :: q = (p ++ y ++ [z]) ++ z :: q := by simp only [List.append_assoc, List.cons_append, List.nil_append]
  rw [q4, set_app (by simp only [List.length_append, List.length_singleton]; omega)]
  simp only [List.append_assoc, List.cons_append, List.nil_append]
theorem rot_stepL (h0 : 0 < k) (hk : k ≤ m) (hk2 : m < d.length) : rotL d (k - 1) m (m + 1) = ((rotL d k m (m + 1)).set k ((rotL d k m (m + 1)).getD (k - 1) 0)).set (k - 1) ((rotL d k m (m + 1)).getD k 0) := by
  obtain ⟨p, x, y, q, rfl, e1, e2, e3⟩ := cut4 d (s := k) (m := m) (e := m + 1) hk (by omega) (by omega)
  obtain ⟨p, z, rfl, hp⟩ := snoc_of (l := p) (n := k - 1) (by omega)
  obtain ⟨y0, v, rfl, hy⟩ := snoc_of (l := y) (n := 0) (by simp only [List.length_append] at e2 e3; omega)
  have : y0 = [] := List.eq_nil_of_length_eq_zero hy
  subst this
  rw [List.nil_append] at *
  rw [rotL_app e1 e2 e3]
  have hl := e1; have hl2 := e2; have hl3 := e3
  simp only [List.length_append, List.length_singleton] at hl hl2 hl3
  have q1 : p ++ [z] ++ x ++ [v] ++ q = p ++ ([z] ++ x) ++ [v] ++ q := by simp only [List.append_assoc]
  rw [q1, rotL_app (by omega) (by simp only [List.length_append, List.length_singleton]; omega) (by simp only [List.length_append, List.length_singleton]; omega)]
  have q2 : p ++ [z] ++ [v] ++ x ++ q = (p ++ [z]) ++ v :: (x ++ q) := by simp only [List.append_assoc, List.cons_append, List.nil_append]
  have q3 : ∀ w, (p ++ [z]) ++ w :: (x ++ q) = p ++ z :: (w :: (x ++ q)) := fun w => by simp only [List.append_assoc, List.cons_append, List.nil_append]
  have hk3 : k = (p ++ [z]).length := by simp only [List.length_append, List.length_singleton]; omega
  have hk4 : k - 1 = p.length := hp.symm
  rw [q2, at_app hk3]
  rw [q3 v, at_app hk4, ← q3 v, set_app hk3, q3 z, set_app hk4]
  simp only [List.append_assoc, List.cons_append, List.nil_append]
end
/-- The blocks ahead, sorted one by one. -/
def blkN (key : Int → Int) (d : List Int) (k : Nat) : List Int := foldN (fun c j => segS key c (20 * j) (20 * j + 20)) d k
def stgN (key : Int → Int) (d : List Int) (N k : Nat) : List Int := foldN (fun c _ => segS key c 0 N) d k
theorem blkN_zero (key : Int → Int) (d : List Int) : blkN key d 0 = d := rfl
theorem blkN_one (key : Int → Int) (d : List Int) : blkN key d 1 = segS key d 0 20 := rfl
theorem blkN_succ (key : Int → Int) (d : List Int) (k : Nat) : blkN key d (k + 1) = segS key (blkN key d k) (20 * k) (20 * k + 20) := rfl
theorem stgN_zero (key : Int → Int) (d : List Int) (N : Nat) : stgN key d N 0 = d := rfl
theorem stgN_one (key : Int → Int) (d : List Int) (N : Nat) : stgN key d N 1 = segS key d 0 N := rfl
theorem stgN_succ (key : Int → Int) (d : List Int) (N k : Nat) : stgN key d N (k + 1) = segS key (stgN key d N k) 0 N := rfl
theorem blkN_fact {key : Int → Int} {d : List Int} {k : Nat} (hk : k ≤ 1) (h : 20 * k ≤ d.length) : (blkN key d k).length = d.length ∧ ∀ y ∈ blkN key d k, y ∈ d := by
  have : k = 0 ∨ k = 1 := by omega
  rcases this with rfl | rfl
  · exact ⟨rfl, fun y h => h⟩
  · rw [blkN_one]; exact ⟨segS_len (by omega) (by omega), fun y h => segS_mem h⟩
abbrev twoS (key : Int → Int) (d : List Int) : List Int := segS key (segS key d 0 20) 20 d.length
theorem twoS_len {key : Int → Int} {d : List Int} (h : 20 ≤ d.length) : (twoS key d).length = d.length := by
  have := segS_len (key := key) (d := d) (a := 0) (b := 20) (by omega) (by omega)
  rw [twoS, segS_len (by omega) (by omega), this]
theorem stg_fact {key : Int → Int} {d : List Int} {k : Nat} (hk : k ≤ 1) (h : 20 ≤ d.length) : (stgN key (twoS key d) d.length k).length = d.length ∧ ∀ y ∈ stgN key (twoS key d) d.length k, y ∈ d := by
  have hl := twoS_len (key := key) h
  have hm : ∀ y ∈ twoS key d, y ∈ d := fun y hy => segS_mem (segS_mem hy)
  have : k = 0 ∨ k = 1 := by omega
  rcases this with rfl | rfl
  · exact ⟨hl, hm⟩
  · rw [stgN_one]; exact ⟨by rw [segS_len (by omega) (by omega), hl], fun y h => hm y (segS_mem h)⟩
theorem stg_mg {key : Int → Int} {d : List Int} {k : Nat} (hk : k = 0) (h : 20 ≤ d.length) (hr : d.Pairwise (· < ·)) : MG key (stgN key (twoS key d) d.length k) 0 20 d.length := by
  subst hk; exact (blocks hr h).1
theorem stg_end {key : Int → Int} {d : List Int} {k : Nat} (hk : k ≤ 1) (h : 20 ≤ d.length) (hr : d.Pairwise (· < ·)) (he : ¬ 20 + 20 * k < d.length) : stgN key (twoS key d) d.length k = sortIK key d := by
  have hb := blocks (key := key) hr h
  have : k = 0 ∨ k = 1 := by omega
  rcases this with rfl | rfl
  · rw [stgN_zero, ← hb.2, hb.1.done (by omega)]
  · exact hb.2
end YtnfcnocoehkgoaaAM
