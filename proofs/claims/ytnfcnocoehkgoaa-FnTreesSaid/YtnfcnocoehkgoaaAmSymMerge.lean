/- Merging in place: what the parts come to, in plain Lean. -/
import Derived.Test.YtnfcnocoehkgoaaAmSymMath
set_option linter.unusedVariables false
set_option linter.unusedSimpArgs false
namespace YtnfcnocoehkgoaaAM

section
variable {key : Int → Int}
theorem key_last {w A B : List Int} {k : Nat} {y : Int} (h : LtS key w) (hk : k = (A ++ w).length) (hy : y ∈ w) : key y ≤ key ((A ++ w ++ B).getD (k - 1) 0) := by
  have h0 : 0 < w.length := List.length_pos_of_mem hy
  obtain ⟨w, v, rfl, hl⟩ := snoc_of (l := w) (n := w.length - 1) (by omega)
  have e : A ++ (w ++ [v]) ++ B = (A ++ w) ++ v :: B := by simp only [List.append_assoc, List.cons_append, List.nil_append]
  rw [e, at_app (by simp only [List.length_append, List.length_cons, List.length_nil] at hk ⊢; omega)]
  rcases List.mem_append.1 hy with hy | hy
  · have := (List.pairwise_append.1 h).2.2 y hy v (by simp)
    unfold LtK at this; omega
  · rw [List.mem_singleton] at hy; subst hy; exact Int.le_refl _
theorem key_first {w A B : List Int} {k : Nat} {y : Int} (h : LtS key w) (hk : k = A.length) (hy : y ∈ w) : key ((A ++ w ++ B).getD k 0) ≤ key y := by
  rcases w with _ | ⟨v, w⟩
  · cases hy
  have e : A ++ (v :: w) ++ B = A ++ v :: (w ++ B) := by simp only [List.append_assoc, List.cons_append, List.nil_append]
  rw [e, at_app hk]
  rcases List.mem_cons.1 hy with rfl | hy
  · exact Int.le_refl _
  · have := (List.pairwise_cons.1 h).1 y hy
    unfold LtK at this; omega
theorem Two.fst_fst {u1 u2 v1 v2 : List Int} (h : Two key (u1 ++ u2) (v1 ++ v2)) : Two key u1 v1 :=
  ⟨(List.pairwise_append.1 h.fst).1, (List.pairwise_append.1 h.snd).1, fun x hx y hy => h.lt x (List.mem_append_left _ hx) y (List.mem_append_left _ hy)⟩
theorem Two.snd_snd {u1 u2 v1 v2 : List Int} (h : Two key (u1 ++ u2) (v1 ++ v2)) : Two key u2 v2 :=
  ⟨(List.pairwise_append.1 h.fst).2.1, (List.pairwise_append.1 h.snd).2.1, fun x hx y hy => h.lt x (List.mem_append_right _ hx) y (List.mem_append_right _ hy)⟩
theorem Two.join {u v : List Int} (h : Two key u v) (hk : ∀ x ∈ u, ∀ y ∈ v, key x ≤ key y) : LtS key (u ++ v) := by
  rw [LtS, List.pairwise_append]
  refine ⟨h.fst, h.snd, fun x hx y hy => ?_⟩
  have := h.lt x hx y hy
  have := hk x hx y hy
  unfold LtK; omega
theorem split_merge {u1 u2 v1 v2 : List Int} (h : Two key (u1 ++ u2) (v1 ++ v2)) (hA : ∀ x ∈ u1, ∀ y ∈ v2, key x ≤ key y) (hB : ∀ y ∈ v1, ∀ x ∈ u2, key y < key x) :
    sortIK key ((u1 ++ u2) ++ (v1 ++ v2)) = sortIK key (u1 ++ v1) ++ sortIK key (u2 ++ v2) := by
  refine sortI_is h.st ?_ fun x => ?_
  · rw [LtS, List.pairwise_append]
    refine ⟨sortI_lts h.fst_fst.st, sortI_lts h.snd_snd.st, fun x hx y hy => ?_⟩
    rw [sortI_memK, List.mem_append] at hx hy
    rcases hx with hx | hx <;> rcases hy with hy | hy
    · exact (List.pairwise_append.1 h.fst).2.2 x hx y hy
    · have := hA x hx y hy
      have := h.lt x (List.mem_append_left _ hx) y (List.mem_append_right _ hy)
      unfold LtK; omega
    · exact .inl (hB x hx y hy)
    · exact (List.pairwise_append.1 h.snd).2.2 x hx y hy
  · simp only [List.mem_append, sortI_memK]
    constructor
    · rintro ((h | h) | (h | h)) <;> simp [h]
    · rintro ((h | h) | (h | h)) <;> simp [h]

/-- Two neighbours of a row, that are to be merged. -/
def MG (key : Int → Int) (d : List Int) (a m b : Nat) : Prop := ∃ p u v q, d = p ++ u ++ v ++ q ∧ a = p.length ∧ m = (p ++ u).length ∧ b = (p ++ u ++ v).length ∧ Two key u v
theorem MG.le {d : List Int} {a m b : Nat} (h : MG key d a m b) : a ≤ m ∧ m ≤ b ∧ b ≤ d.length := by
  obtain ⟨p, u, v, q, rfl, rfl, rfl, rfl, _⟩ := h
  simp only [List.length_append]; omega
theorem cut2 (l : List Int) {n : Nat} (h : n ≤ l.length) : ∃ x y, l = x ++ y ∧ x.length = n := ⟨l.take n, l.drop n, (List.take_append_drop _ _).symm, by rw [List.length_take]; omega⟩
theorem MG.parts {d : List Int} {a m b s e : Nat} (h : MG key d a m b) (hs : a ≤ s ∧ s ≤ m) (he : m ≤ e ∧ e ≤ b) : ∃ p u1 u2 v1 v2 q, d = p ++ (u1 ++ u2) ++ (v1 ++ v2) ++ q ∧ a = p.length ∧ s = p.length + u1.length ∧
    m = p.length + u1.length + u2.length ∧ e = p.length + u1.length + u2.length + v1.length ∧ b = p.length + u1.length + u2.length + v1.length + v2.length ∧ Two key (u1 ++ u2) (v1 ++ v2) := by
  obtain ⟨p, u, v, q, rfl, h1, h2, h3, h4⟩ := h
  simp only [List.length_append] at h2 h3
  obtain ⟨u1, u2, rfl, hu⟩ := cut2 u (n := s - a) (by omega)
  obtain ⟨v1, v2, rfl, hv⟩ := cut2 v (n := e - m) (by omega)
  simp only [List.length_append] at h2 h3
  exact ⟨p, u1, u2, v1, v2, q, rfl, h1, by omega, by omega, by omega, by omega, h4⟩
/-- Merging what is sorted already. -/
theorem MG.done {d : List Int} {a m b : Nat} (h : MG key d a m b) (hc : a = m ∨ m = b ∨ key (d.getD (m - 1) 0) ≤ key (d.getD m 0)) : segS key d a b = d := by
  obtain ⟨p, u, v, q, rfl, h1, h2, h3, h4⟩ := h
  have hj : LtS key (u ++ v) := h4.join fun x hx y hy => by
    have hx0 := List.length_pos_of_mem hx
    have hy0 := List.length_pos_of_mem hy
    have l2 := h2; have l3 := h3
    simp only [List.length_append] at l2 l3
    rcases hc with hc | hc | hc
    · omega
    · omega
    · have e1 := key_last (B := v ++ q) h4.fst h2 hx
      have e2 := key_first (A := p ++ u) (B := q) h4.snd h2 hy
      rw [← List.append_assoc] at e1
      omega
  have e : p ++ u ++ v ++ q = p ++ (u ++ v) ++ q := by simp only [List.append_assoc]
  rw [e, segS_app h1 (by rw [h3]; simp only [List.append_assoc]), sortI_self hj]
section
variable {d : List Int} {a m b s e : Nat}
theorem hA_of {p u1 u2 v1 v2 q : List Int} (hd : d = p ++ (u1 ++ u2) ++ (v1 ++ v2) ++ q) (hs : s = p.length + u1.length) (he : e = p.length + u1.length + u2.length + v1.length) (ha : a = p.length)
    (hb : b = p.length + u1.length + u2.length + v1.length + v2.length) (h : Two key (u1 ++ u2) (v1 ++ v2)) (hl : s = a ∨ e = b ∨ key (d.getD (s - 1) 0) ≤ key (d.getD e 0)) : ∀ x ∈ u1, ∀ y ∈ v2, key x ≤ key y := by
  intro x hx y hy
  have hx0 := List.length_pos_of_mem hx
  have hy0 := List.length_pos_of_mem hy
  rcases hl with hl | hl | hl
  · omega
  · omega
  · have e1 := key_last (A := p) (B := u2 ++ (v1 ++ v2) ++ q) (List.pairwise_append.1 h.fst).1 (k := s) (by simp only [List.length_append]; omega) hx
    have e2 := key_first (A := p ++ (u1 ++ u2) ++ v1) (B := q) (List.pairwise_append.1 h.snd).2.1 (k := e) (by simp only [List.length_append]; omega) hy
    have q1 : p ++ u1 ++ (u2 ++ (v1 ++ v2) ++ q) = d := by rw [hd]; simp only [List.append_assoc]
    have q2 : p ++ (u1 ++ u2) ++ v1 ++ v2 ++ q = d := by rw [hd]; simp only [List.append_assoc]
    rw [q1] at e1; rw [q2] at e2
    omega
theorem hB_of {p u1 u2 v1 v2 q : List Int} (hd : d = p ++ (u1 ++ u2) ++ (v1 ++ v2) ++ q) (hs : s = p.length + u1.length) (he : e = p.length + u1.length + u2.length + v1.length)
    (hm : m = p.length + u1.length + u2.length) (h : Two key (u1 ++ u2) (v1 ++ v2)) (hr : s = m ∨ e = m ∨ key (d.getD (e - 1) 0) < key (d.getD s 0)) : ∀ y ∈ v1, ∀ x ∈ u2, key y < key x := by
  intro y hy x hx
  have hx0 := List.length_pos_of_mem hx
  have hy0 := List.length_pos_of_mem hy
  rcases hr with hl | hl | hl
  · omega
  · omega
  · have e1 := key_last (A := p ++ (u1 ++ u2)) (B := v2 ++ q) (List.pairwise_append.1 h.snd).1 (k := e) (by simp only [List.length_append]; omega) hy
    have e2 := key_first (A := p ++ u1) (B := (v1 ++ v2) ++ q) (List.pairwise_append.1 h.fst).2.1 (k := s) (by simp only [List.length_append]; omega) hx
    have q1 : p ++ (u1 ++ u2) ++ v1 ++ (v2 ++ q) = d := by rw [hd]; simp only [List.append_assoc]
    have q2 : p ++ u1 ++ u2 ++ (v1 ++ v2 ++ q) = d := by rw [hd]; simp only [List.append_assoc]
    rw [q1] at e1; rw [q2] at e2
    omega
/-- The first number alone. -/
theorem MG.one (h : MG key d a m b) (h1 : m = a + 1) (hi : m ≤ e ∧ e ≤ b) (hl : e = m ∨ key (d.getD (e - 1) 0) < key (d.getD a 0)) (hr : e = b ∨ ¬ key (d.getD e 0) < key (d.getD a 0)) : rotL d a m e = segS key d a b := by
  obtain ⟨p, u1, u2, v1, v2, q, hd, ha, hs, hm, he, hb, h2⟩ := h.parts (s := a) (e := e) ⟨Nat.le_refl _, h.le.1⟩ hi
  have : u1 = [] := List.eq_nil_of_length_eq_zero (by omega)
  subst this
  have hB := hB_of (s := a) hd hs he hm h2 (.inr (hl.imp_right fun h => by simpa using h))
  obtain ⟨u, x, rfl, hu⟩ := snoc_of (l := u2) (n := 0) (by simp only [List.length_nil] at hm; omega)
  have : u = [] := List.eq_nil_of_length_eq_zero hu
  subst this
  simp only [List.nil_append, List.length_nil, List.length_singleton, Nat.add_zero] at *
  have hax : d.getD a 0 = x := by rw [hd]; simp only [List.append_assoc, List.cons_append, List.nil_append]; exact at_app ha
  have hC : LtS key ([x] ++ v2) := (h2.snd_snd (u1 := []) (v1 := v1)).join fun z hz y hy => by
    rw [List.mem_singleton] at hz; subst hz
    have hy0 := List.length_pos_of_mem hy
    have e2 := key_first (A := p ++ [z] ++ v1) (B := q) (List.pairwise_append.1 h2.snd).2.1 (k := e) (by simp only [List.length_append, List.length_singleton]; omega) hy
    have q2 : p ++ [z] ++ v1 ++ v2 ++ q = d := by rw [hd]; simp only [List.append_assoc]
    rw [q2] at e2
    rw [hax] at hr
    omega
  have hv1 : LtS key v1 := (List.pairwise_append.1 h2.snd).1
  have hS := split_merge (u1 := []) (u2 := [x]) (v1 := v1) (v2 := v2) h2 (fun y hy => by cases hy) hB
  have q1 : d = p ++ [x] ++ v1 ++ (v2 ++ q) := by rw [hd]; simp only [List.append_assoc]
  have q2 : d = p ++ ([x] ++ (v1 ++ v2)) ++ q := by rw [hd]; simp only [List.append_assoc]
  have hR : segS key d a b = p ++ sortIK key ([x] ++ (v1 ++ v2)) ++ q := by
    conv => lhs; rw [q2]
    exact segS_app ha (by simp only [List.length_append, List.length_singleton]; omega)
  have hL : rotL d a m e = p ++ v1 ++ [x] ++ (v2 ++ q) := by
    conv => lhs; rw [q1]
    exact rotL_app ha (by simp only [List.length_append, List.length_singleton]; omega) (by simp only [List.length_append, List.length_singleton]; omega)
  simp only [List.nil_append] at hS
  rw [hR, hL, hS, sortI_self hv1, sortI_self hC]
  simp only [List.append_assoc]
/-- The last number alone. -/
theorem MG.oneR (h : MG key d a m b) (h1 : b = m + 1) (hi : a ≤ s ∧ s ≤ m) (hl : s = a ∨ ¬ key (d.getD m 0) < key (d.getD (s - 1) 0)) (hr : s = m ∨ key (d.getD m 0) < key (d.getD s 0)) : rotL d s m (m + 1) = segS key d a b := by
  obtain ⟨p, u1, u2, v1, v2, q, hd, ha, hs, hm, he, hb, h2⟩ := h.parts (s := s) (e := b) hi ⟨h.le.2.1, Nat.le_refl _⟩
  have : v2 = [] := List.eq_nil_of_length_eq_zero (by omega)
  subst this
  have hB := hB_of (s := s) (e := b) hd hs he hm h2 (hr.imp_right fun h => .inr (by rw [show b - 1 = m by omega]; exact h))
  obtain ⟨v, x, rfl, hu⟩ := snoc_of (l := v1) (n := 0) (by rw [List.length_nil] at hb; omega)
  have : v = [] := List.eq_nil_of_length_eq_zero hu
  subst this
  simp only [List.nil_append, List.append_nil, List.length_nil, List.length_singleton, Nat.add_zero] at *
  have hax : d.getD m 0 = x := by
    rw [hd, show p ++ (u1 ++ u2) ++ [x] ++ q = (p ++ (u1 ++ u2)) ++ x :: q by simp only [List.append_assoc, List.cons_append, List.nil_append]]
    exact at_app (by simp only [List.length_append]; omega)
  have hu1 : LtS key u1 := (List.pairwise_append.1 h2.fst).1
  have hu2 : LtS key u2 := (List.pairwise_append.1 h2.fst).2.1
  have hC : LtS key (u1 ++ [x]) := Two.join ⟨hu1, h2.snd, fun y hy z hz => h2.lt y (List.mem_append_left _ hy) z hz⟩ fun y hy z hz => by
    rw [List.mem_singleton] at hz; subst hz
    have hy0 := List.length_pos_of_mem hy
    have e2 := key_last (A := p) (B := u2 ++ [z] ++ q) hu1 (k := s) (by simp only [List.length_append]; omega) hy
    have q2 : p ++ u1 ++ (u2 ++ [z] ++ q) = d := by rw [hd]; simp only [List.append_assoc]
    rw [q2] at e2
    rw [hax] at hl
    omega
  have hS := split_merge (u1 := u1) (u2 := u2) (v1 := [x]) (v2 := []) (by rw [List.append_nil]; exact h2) (fun y hy z hz => by cases hz) hB
  have q1 : d = (p ++ u1) ++ u2 ++ [x] ++ q := by rw [hd]; simp only [List.append_assoc]
  have q2 : d = p ++ (u1 ++ u2 ++ [x]) ++ q := by rw [hd]; simp only [List.append_assoc]
  have hR : segS key d a b = p ++ sortIK key (u1 ++ u2 ++ [x]) ++ q := by
    conv => lhs; rw [q2]
    exact segS_app ha (by simp only [List.length_append, List.length_singleton]; omega)
  have hL : rotL d s m (m + 1) = (p ++ u1) ++ [x] ++ u2 ++ q := by
    conv => lhs; rw [q1]
    exact rotL_app (by simp only [List.length_append]; omega) (by simp only [List.length_append]; omega) (by simp only [List.length_append, List.length_singleton]; omega)
  simp only [List.append_nil] at hS
  rw [hR, hL, hS, sortI_self hC, sortI_self hu2]
  simp only [List.append_assoc]
/-- Cut where the halves meet, turned, and merged by halves. -/
theorem MG.halves {t : Nat} (h : MG key d a m b) (hs : a ≤ s ∧ s ≤ m) (he : m ≤ e ∧ e ≤ b) (ht : t + m = s + e) (hl : s = a ∨ e = b ∨ key (d.getD (s - 1) 0) ≤ key (d.getD e 0)) (hr : s = m ∨ e = m ∨ key (d.getD (e - 1) 0) < key (d.getD s 0)) :
    MG key (rotL d s m e) a s t ∧ MG key (segS key (rotL d s m e) a t) t e b ∧ segS key (segS key (rotL d s m e) a t) t b = segS key d a b := by
  obtain ⟨p, u1, u2, v1, v2, q, hd, ha, hs, hm, he, hb, h2⟩ := h.parts hs he
  have hA := hA_of hd hs he ha hb h2 hl
  have hB := hB_of hd hs he hm h2 hr
  have hR : rotL d s m e = p ++ u1 ++ v1 ++ (u2 ++ v2 ++ q) := by
    rw [show d = (p ++ u1) ++ u2 ++ v1 ++ (v2 ++ q) by rw [hd]; simp only [List.append_assoc],
      rotL_app (by simp only [List.length_append]; omega) (by simp only [List.length_append]; omega) (by simp only [List.length_append]; omega)]
    simp only [List.append_assoc]
  have hX : segS key (rotL d s m e) a t = p ++ sortIK key (u1 ++ v1) ++ (u2 ++ v2 ++ q) := by
    rw [hR, show p ++ u1 ++ v1 ++ (u2 ++ v2 ++ q) = p ++ (u1 ++ v1) ++ (u2 ++ v2 ++ q) by simp only [List.append_assoc], segS_app ha (by simp only [List.length_append]; omega)]
  have hl1 : (sortIK key (u1 ++ v1)).length = u1.length + v1.length := by rw [sortI_lenK, List.length_append]
  refine ⟨⟨p, u1, v1, u2 ++ v2 ++ q, hR, ha, by simp only [List.length_append]; omega, by simp only [List.length_append]; omega, h2.fst_fst⟩,
    ⟨p ++ sortIK key (u1 ++ v1), u2, v2, q, by rw [hX]; simp only [List.append_assoc], by simp only [List.length_append]; omega, by simp only [List.length_append]; omega, by simp only [List.length_append]; omega, h2.snd_snd⟩, ?_⟩
  rw [hX, show p ++ sortIK key (u1 ++ v1) ++ (u2 ++ v2 ++ q) = (p ++ sortIK key (u1 ++ v1)) ++ (u2 ++ v2) ++ q by simp only [List.append_assoc],
    segS_app (by simp only [List.length_append]; omega) (by simp only [List.length_append]; omega)]
  conv => rhs; rw [hd, show p ++ (u1 ++ u2) ++ (v1 ++ v2) ++ q = p ++ ((u1 ++ u2) ++ (v1 ++ v2)) ++ q by simp only [List.append_assoc]]
  rw [segS_app ha (by simp only [List.length_append]; omega), split_merge h2 hA hB]
  simp only [List.append_assoc]
end
theorem rise_st {d : List Int} (h : d.Pairwise (· < ·)) : StS key d := by
  exact List.Pairwise.imp (S := fun x y => key x = key y → x < y) (fun h _ => h) h
/-- Two blocks, sorted one by one, and merged. -/
theorem blocks {d : List Int} {c : Nat} (h : d.Pairwise (· < ·)) (hc : c ≤ d.length) :
    MG key (segS key (segS key d 0 c) c d.length) 0 c d.length ∧ segS key (segS key (segS key d 0 c) c d.length) 0 d.length = sortIK key d := by
  obtain ⟨u, v, rfl, hu⟩ := cut2 d hc
  have hp := List.pairwise_append.1 h
  have e1 : segS key (u ++ v) 0 c = sortIK key u ++ v := by
    have := segS_app (key := key) (p := []) (w := u) (q := v) (a := 0) (b := c) rfl (by simp [hu])
    simpa using this
  have e2 : segS key (sortIK key u ++ v) c (u ++ v).length = sortIK key u ++ sortIK key v := by
    have := segS_app (key := key) (p := sortIK key u) (w := v) (q := []) (a := c) (b := (u ++ v).length) (by rw [sortI_lenK, hu]) (by simp only [List.length_append, sortI_lenK])
    simpa using this
  have su : StS key u := rise_st hp.1
  have sv : StS key v := rise_st hp.2.1
  have h2 : Two key (sortIK key u) (sortIK key v) := ⟨sortI_lts su, sortI_lts sv, fun x hx y hy => hp.2.2 x (sortI_memK.1 hx) y (sortI_memK.1 hy)⟩
  rw [e1, e2]
  refine ⟨⟨[], sortIK key u, sortIK key v, [], by simp, rfl, by simp [sortI_lenK, hu], by simp [sortI_lenK], h2⟩, ?_⟩
  have e3 := segS_app (key := key) (p := []) (w := sortIK key u ++ sortIK key v) (q := []) (a := 0) (b := (u ++ v).length) rfl (by simp [sortI_lenK])
  simp only [List.nil_append, List.append_nil] at e3
  rw [e3]
  refine (sortI_is (rise_st h) (sortI_lts h2.st) fun x => ?_).symm
  simp only [List.mem_append, sortI_memK]
theorem segS_mem {d : List Int} {a b : Nat} {x : Int} (h : x ∈ segS key d a b) : x ∈ d := by
  unfold segS at h
  simp only [List.mem_append, sortI_memK] at h
  rcases h with (h | h) | h
  · exact List.mem_of_mem_take h
  · exact List.mem_of_mem_take (List.mem_of_mem_drop h)
  · exact List.mem_of_mem_drop h
theorem rotL_mem {d : List Int} {s m e : Nat} {x : Int} (h : x ∈ rotL d s m e) : x ∈ d := by
  unfold rotL at h
  simp only [List.mem_append] at h
  rcases h with ((h | h) | h) | h
  · exact List.mem_of_mem_take h
  · exact List.mem_of_mem_take (List.mem_of_mem_drop h)
  · exact List.mem_of_mem_take (List.mem_of_mem_drop h)
  · exact List.mem_of_mem_drop h
/-- What the two binary searches leave. -/
def Cut (key : Int → Int) (d : List Int) (a m b s e t : Nat) : Prop := MG key d a m b ∧ (a ≤ s ∧ s ≤ m) ∧ (m ≤ e ∧ e ≤ b) ∧ t + m = s + e ∧ (s = a ∨ e = b ∨ key (d.getD (s - 1) 0) ≤ key (d.getD e 0)) ∧ (s = m ∨ e = m ∨ key (d.getD (e - 1) 0) < key (d.getD s 0))
def IsR (d R : List Int) (s m e : Nat) : Prop := R = rotL d s m e ∨ (R = d ∧ ¬ (s < m ∧ m < e))
def IsS (key : Int → Int) (R X : List Int) (a s t : Nat) : Prop := X = segS key R a t ∨ (X = R ∧ ¬ (a < s ∧ s < t))
section
variable {d R X Y : List Int} {a m b s e t : Nat}
theorem IsR.eq (h : Cut key d a m b s e t) (hR : IsR d R s m e) : R = rotL d s m e := by
  obtain ⟨h0, hs, he, ht, _, _⟩ := h
  have hl := h0.le
  rcases hR with e1 | ⟨e1, h2⟩
  · exact e1
  · rcases Nat.lt_or_ge s m with c | c
    · have : m = e := by omega
      subst this; rw [e1, rotL_last hs.2 (by omega)]
    · have : s = m := by omega
      subst this; rw [e1, rotL_first he.1 (by omega)]
theorem IsR.left (h : Cut key d a m b s e t) (hR : IsR d R s m e) : MG key R a s t := by
  rw [hR.eq h]
  obtain ⟨h0, hs, he, ht, hl, hr⟩ := h
  exact (h0.halves hs he ht hl hr).1
theorem IsS.eq {R X : List Int} {s : Nat} (h : MG key R a s t) (hX : IsS key R X a s t) : X = segS key R a t := by
  rcases hX with e1 | ⟨e1, h2⟩
  · exact e1
  · rw [e1, h.done (by have := h.le; omega)]
theorem IsS.right (h : Cut key d a m b s e t) (hR : IsR d R s m e) (hX : IsS key R X a s t) : MG key X t e b := by
  rw [hX.eq (hR.left h), hR.eq h]
  obtain ⟨h0, hs, he, ht, hl, hr⟩ := h
  exact (h0.halves hs he ht hl hr).2.1
theorem IsS.all (h : Cut key d a m b s e t) (hR : IsR d R s m e) (hX : IsS key R X a s t) (hY : IsS key X Y t e b) : Y = segS key d a b := by
  rw [hY.eq (hX.right h hR), hX.eq (hR.left h), hR.eq h]
  obtain ⟨h0, hs, he, ht, hl, hr⟩ := h
  exact (h0.halves hs he ht hl hr).2.2
theorem Cut.len (h : Cut key d a m b s e t) (hR : IsR d R s m e) : R.length = d.length := by
  rw [hR.eq h]
  obtain ⟨h0, hs, he, ht, hl, hr⟩ := h
  have := h0.le
  exact rotL_len hs.2 he.1 (by omega)
theorem Cut.len2 (h : Cut key d a m b s e t) (hR : IsR d R s m e) (hX : IsS key R X a s t) : X.length = d.length := by
  rw [hX.eq (hR.left h)]
  have := (hR.left h).le
  rw [segS_len (by omega) (by omega), h.len hR]
theorem Cut.mem (h : Cut key d a m b s e t) (hR : IsR d R s m e) {x : Int} (hx : x ∈ R) : x ∈ d := by
  rw [hR.eq h] at hx; exact rotL_mem hx
theorem Cut.mem2 (h : Cut key d a m b s e t) (hR : IsR d R s m e) (hX : IsS key R X a s t) {x : Int} (hx : x ∈ X) : x ∈ d := by
  rw [hX.eq (hR.left h)] at hx; exact h.mem hR (segS_mem hx)
end
end
end YtnfcnocoehkgoaaAM
