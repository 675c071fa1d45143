/- Merging two sorted rows in place by turning (symMerge), in plain Lean. -/
import Derived.Test.YtnfcnocoehkgoaaAmKeyModels
set_option linter.unusedVariables false
set_option linter.unusedSimpArgs false
namespace YtnfcnocoehkgoaaAM

section
variable {key : Int → Int}
/-- By the key, equals by themselves. -/
def LtK (key : Int → Int) (x y : Int) : Prop := key x < key y ∨ (key x = key y ∧ x < y)
theorem LtK.trans {x y z : Int} (h : LtK key x y) (g : LtK key y z) : LtK key x z := by
  unfold LtK at *; omega
theorem LtK.not {x y : Int} (h : LtK key x y) (g : LtK key y x) : False := by
  unfold LtK at *; omega
theorem LtK.irr {x : Int} (h : LtK key x x) : False := h.not h
abbrev LtS (key : Int → Int) (l : List Int) : Prop := l.Pairwise (LtK key)
/-- Equals stand in their own order. -/
abbrev StS (key : Int → Int) (l : List Int) : Prop := l.Pairwise (fun x y => key x = key y → x < y)
theorem lts_eq : ∀ {a b : List Int}, LtS key a → LtS key b → (∀ x, x ∈ a ↔ x ∈ b) → a = b
  | [], [], _, _, _ => rfl
  | [], y :: b, _, _, h => by have := (h y).2 (by simp); simp at this
  | x :: a, [], _, _, h => by have := (h x).1 (by simp); simp at this
  | x :: a, y :: b, ha, hb, h => by
    rw [LtS, List.pairwise_cons] at ha hb
    have e : x = y := by
      rcases List.mem_cons.1 ((h x).1 (by simp)) with e | h1
      · exact e
      · rcases List.mem_cons.1 ((h y).2 (by simp)) with e | h2
        · exact e.symm
        · exact ((ha.1 y h2).not (hb.1 x h1)).elim
    subst e
    congr 1
    refine lts_eq ha.2 hb.2 fun z => ?_
    constructor
    · intro hz
      rcases List.mem_cons.1 ((h z).1 (by simp [hz])) with e | h1
      · subst e; exact ((ha.1 z hz).irr).elim
      · exact h1
    · intro hz
      rcases List.mem_cons.1 ((h z).2 (by simp [hz])) with e | h1
      · subst e; exact ((hb.1 z hz).irr).elim
      · exact h1
theorem ins_lts {x : Int} {s : List Int} (h : LtS key s) (hx : ∀ y ∈ s, key y = key x → y < x) : LtS key (insK key x s) := by
  unfold insK
  rw [LtS, List.pairwise_append]
  refine ⟨h.filter _, ?_, fun a ha b hb => ?_⟩
  · rw [List.pairwise_cons]
    refine ⟨fun b hb => ?_, h.filter _⟩
    have := (List.mem_filter.1 hb).2
    simp at this; exact .inl this
  · have h1 := (List.mem_filter.1 ha).2
    have h0 := hx a (List.mem_filter.1 ha).1
    simp at h1
    rcases List.mem_cons.1 hb with rfl | hb
    · unfold LtK; omega
    · have h2 := (List.mem_filter.1 hb).2
      simp at h2; unfold LtK; omega
theorem sortN_lts {l : List Int} (h : StS key l) : ∀ k, k ≤ l.length → LtS key (sortNK key l k)
  | 0, _ => by rw [sortN_zeroK]; exact List.Pairwise.nil
  | k + 1, hk => by
    rw [sortN_succK (by omega)]
    refine ins_lts (sortN_lts h k (by omega)) fun y hy e => ?_
    rw [sortN_memK k (by omega)] at hy
    obtain ⟨i, hi, rfl⟩ := List.getElem_of_mem hy
    rw [List.length_take] at hi
    rw [List.getElem_take] at e ⊢
    rw [getD_get (by omega)] at e ⊢
    exact (List.pairwise_iff_getElem.1 h) i k (by omega) (by omega) (by omega) e
theorem sortI_lts {l : List Int} (h : StS key l) : LtS key (sortIK key l) := sortN_lts h _ (Nat.le_refl _)
theorem LtS.st {l : List Int} (h : LtS key l) : StS key l := h.imp fun h e => by unfold LtK at h; omega
/-- What is sorted and of the same numbers is what sorting makes. -/
theorem sortI_is {l w : List Int} (h : StS key l) (hw : LtS key w) (hm : ∀ x, x ∈ w ↔ x ∈ l) : sortIK key l = w :=
  lts_eq (sortI_lts h) hw fun x => by rw [sortI_memK, hm]
theorem sortI_self {l : List Int} (h : LtS key l) : sortIK key l = l := sortI_is h.st h fun _ => Iff.rfl
/-- Two rows that are sorted, the first's numbers less than the second's. -/
structure Two (key : Int → Int) (u v : List Int) : Prop where
  fst : LtS key u
  snd : LtS key v
  lt : ∀ x ∈ u, ∀ y ∈ v, x < y
theorem Two.st {u v : List Int} (h : Two key u v) : StS key (u ++ v) := by
  rw [StS, List.pairwise_append]
  exact ⟨h.fst.st, h.snd.st, fun x hx y hy _ => h.lt x hx y hy⟩

/-- A part of a row, sorted. -/
def segS (key : Int → Int) (d : List Int) (a b : Nat) : List Int := d.take a ++ sortIK key ((d.take b).drop a) ++ d.drop b
/-- Two neighbours, changed about. -/
def rotL (d : List Int) (s m e : Nat) : List Int := d.take s ++ (d.take e).drop m ++ (d.take m).drop s ++ d.drop e
theorem take_app {α : Type} {a b : List α} {n : Nat} (h : n = a.length) : (a ++ b).take n = a := by subst h; exact List.take_left
theorem drop_app {α : Type} {a b : List α} {n : Nat} (h : n = a.length) : (a ++ b).drop n = b := by subst h; exact List.drop_left
theorem segS_app {p w q : List Int} {a b : Nat} (ha : a = p.length) (hb : b = (p ++ w).length) : segS key (p ++ w ++ q) a b = p ++ sortIK key w ++ q := by
  unfold segS
  rw [take_app hb, drop_app hb, drop_app ha, List.append_assoc p w q, take_app ha]
theorem rotL_app {p x y q : List Int} {s m e : Nat} (hs : s = p.length) (hm : m = (p ++ x).length) (he : e = (p ++ x ++ y).length) : rotL (p ++ x ++ y ++ q) s m e = p ++ y ++ x ++ q := by
  unfold rotL
  rw [take_app he, drop_app he, drop_app hm]
  have e1 : p ++ x ++ y ++ q = (p ++ x) ++ (y ++ q) := by simp only [List.append_assoc]
  have e2 : p ++ x ++ y ++ q = p ++ (x ++ y ++ q) := by simp only [List.append_assoc]
  rw [e1, take_app hm, ← e1, e2, take_app hs, drop_app hs]
theorem segS_len {d : List Int} {a b : Nat} (h : a ≤ b) (hb : b ≤ d.length) : (segS key d a b).length = d.length := by
  unfold segS
  simp only [List.length_append, List.length_take, List.length_drop, sortI_lenK]
  omega
theorem rotL_len {d : List Int} {s m e : Nat} (h : s ≤ m) (h2 : m ≤ e) (hb : e ≤ d.length) : (rotL d s m e).length = d.length := by
  unfold rotL
  simp only [List.length_append, List.length_take, List.length_drop]
  omega
theorem cut3 (d : List Int) {s m : Nat} (h : s ≤ m) (hm : m ≤ d.length) : ∃ p x q, d = p ++ x ++ q ∧ s = p.length ∧ m = (p ++ x).length := by
  refine ⟨d.take s, (d.take m).drop s, d.drop m, ?_, by rw [List.length_take]; omega, by simp only [List.length_append, List.length_take, List.length_drop]; omega⟩
  rw [show d.take s = (d.take m).take s by rw [List.take_take, Nat.min_eq_left h], List.take_append_drop, List.take_append_drop]
theorem cut4 (d : List Int) {s m e : Nat} (h : s ≤ m) (h2 : m ≤ e) (hb : e ≤ d.length) : ∃ p x y q, d = p ++ x ++ y ++ q ∧ s = p.length ∧ m = (p ++ x).length ∧ e = (p ++ x ++ y).length := by
  obtain ⟨p, x, q, rfl, hs, hm⟩ := cut3 d h (by omega)
  obtain ⟨y, r, rfl, hy⟩ : ∃ y r, q = y ++ r ∧ y.length = e - m := ⟨q.take (e - m), q.drop (e - m), (List.take_append_drop _ _).symm, by
    rw [List.length_take]; simp only [List.length_append] at hb hm; omega⟩
  exact ⟨p, x, y, r, by simp only [List.append_assoc], hs, hm, by simp only [List.length_append] at hm ⊢; omega⟩
theorem rotL_first {d : List Int} {m e : Nat} (h : m ≤ e) (hb : e ≤ d.length) : rotL d m m e = d := by
  obtain ⟨p, x, y, q, rfl, h1, h2, h3⟩ := cut4 d (Nat.le_refl m) h hb
  have : x = [] := List.eq_nil_of_length_eq_zero (by simp only [List.length_append] at h2; omega)
  subst this
  rw [rotL_app h1 h2 h3]; simp
theorem rotL_last {d : List Int} {s m : Nat} (h : s ≤ m) (hb : m ≤ d.length) : rotL d s m m = d := by
  obtain ⟨p, x, y, q, rfl, h1, h2, h3⟩ := cut4 d h (Nat.le_refl m) hb
  have : y = [] := List.eq_nil_of_length_eq_zero (by simp only [List.length_append] at h2 h3; omega)
  subst this
  rw [rotL_app h1 h2 h3]; simp

/-- Two places' numbers, changed about, k of them. -/
def swpN (d : List Int) (x y k : Nat) : List Int := foldN (fun c t => (c.set (x + t) (c.getD (y + t) 0)).set (y + t) (c.getD (x + t) 0)) d k
theorem swpN_zero (d : List Int) (x y : Nat) : swpN d x y 0 = d := rfl
theorem swpN_succ (d : List Int) (x y k : Nat) : swpN d x y (k + 1) = ((swpN d x y k).set (x + k) ((swpN d x y k).getD (y + k) 0)).set (y + k) ((swpN d x y k).getD (x + k) 0) := rfl
theorem swpN_len (d : List Int) (x y : Nat) : ∀ k, (swpN d x y k).length = d.length
  | 0 => rfl
  | k + 1 => by rw [swpN_succ, List.length_set, List.length_set, swpN_len d x y k]
theorem at_app {p q : List Int} {v : Int} {j : Nat} (hj : j = p.length) : (p ++ v :: q).getD j 0 = v := by
  subst hj; simp [List.getD_eq_getElem?_getD]
theorem set_app {p q : List Int} {v w : Int} {j : Nat} (hj : j = p.length) : (p ++ v :: q).set j w = p ++ w :: q := by
  subst hj
  rw [List.set_append_right _ _ (Nat.le_refl _), Nat.sub_self, List.set_cons_zero]
theorem snoc_of {l : List Int} {n : Nat} (h : l.length = n + 1) : ∃ l' v, l = l' ++ [v] ∧ l'.length = n := by
  refine ⟨l.take n, l.getD n 0, ?_, by rw [List.length_take]; omega⟩
  rw [getD_get (by omega)]
  have := List.take_append_drop n l
  rw [List.drop_eq_getElem_cons (by omega), List.drop_of_length_le (by omega)] at this
  exact this.symm
theorem swpN_app : ∀ (n : Nat) (A B C D E : List Int) (x y : Nat), B.length = n → D.length = n → x = A.length → y = (A ++ B ++ C).length → swpN (A ++ B ++ C ++ D ++ E) x y n = A ++ D ++ C ++ B ++ E
  | 0, A, B, C, D, E, x, y, hB, hD, hx, hy => by
    have := List.eq_nil_of_length_eq_zero hB
    have := List.eq_nil_of_length_eq_zero hD
    subst_vars
    simp [swpN_zero]
  | n + 1, A, B, C, D, E, x, y, hB, hD, hx, hy => by
    obtain ⟨B, v, rfl, hB1⟩ := snoc_of hB
    obtain ⟨D, w, rfl, hD1⟩ := snoc_of hD
    clear hB hD
    have hB := hB1
    have hD := hD1
    rw [swpN_succ]
    have e : A ++ (B ++ [v]) ++ C ++ (D ++ [w]) ++ E = A ++ B ++ ([v] ++ C) ++ D ++ ([w] ++ E) := by simp only [List.append_assoc]
    rw [e, swpN_app n A B ([v] ++ C) D ([w] ++ E) x y hB hD hx (by simp only [List.length_append] at hy ⊢; omega)]
    have e1 : A ++ D ++ ([v] ++ C) ++ B ++ ([w] ++ E) = (A ++ D ++ [v] ++ C ++ B) ++ w :: E := by simp only [List.append_assoc, List.cons_append, List.nil_append]
    have e2 : ∀ z : Int, (A ++ D ++ [v] ++ C ++ B) ++ z :: E = (A ++ D) ++ v :: (C ++ B ++ z :: E) := fun z => by simp only [List.append_assoc, List.cons_append, List.nil_append]
    have hyl : y + n = (A ++ D ++ [v] ++ C ++ B).length := by simp only [List.length_append, List.length_cons, List.length_nil] at hy ⊢; omega
    have hxl : x + n = (A ++ D).length := by simp only [List.length_append]; omega
    rw [e1, at_app hyl, e2 w, at_app hxl, set_app hxl]
    have e3 : (A ++ D) ++ w :: (C ++ B ++ w :: E) = (A ++ D ++ [w] ++ C ++ B) ++ w :: E := by simp only [List.append_assoc, List.cons_append, List.nil_append]
    have hyl2 : y + n = (A ++ D ++ [w] ++ C ++ B).length := by simp only [List.length_append, List.length_cons, List.length_nil] at hy ⊢; omega
    rw [e3, set_app hyl2]
    simp only [List.append_assoc, List.cons_append, List.nil_append]

/-- Turning, a swap of ranges at a time: what is left to turn. -/
def RotI (d c : List Int) (a m b i j : Nat) : Prop := c.length = d.length ∧ (0 < i ∧ i ≤ m) ∧ (0 < j ∧ m + j ≤ d.length) ∧ rotL c (m - i) m (m + j) = rotL d a m b
theorem RotI.start {d : List Int} {a m b : Nat} (h : a < m) (h2 : m < b) (hb : b ≤ d.length) : RotI d d a m b (m - a) (b - m) :=
  ⟨rfl, ⟨by omega, by omega⟩, ⟨by omega, by omega⟩, by rw [show m - (m - a) = a by omega, show m + (b - m) = b by omega]⟩
theorem RotI.more {d c : List Int} {a m b i j : Nat} (h : RotI d c a m b i j) (hj : j < i) : RotI d (swpN c (m - i) m j) a m b (i - j) j := by
  obtain ⟨h1, h2, h3, h4⟩ := h
  refine ⟨by rw [swpN_len, h1], ⟨by omega, by omega⟩, h3, ?_⟩
  rw [← h4]
  obtain ⟨A, XY, Z, E, rfl, e1, e2, e3⟩ := cut4 c (s := m - i) (m := m) (e := m + j) (by omega) (by omega) (by omega)
  obtain ⟨X, Y, rfl, hX⟩ : ∃ X Y, XY = X ++ Y ∧ X.length = j := ⟨XY.take j, XY.drop j, (List.take_append_drop _ _).symm, by
    rw [List.length_take]; simp only [List.length_append] at e1 e2; omega⟩
  have hl2 := e2; have hl3 := e3
  simp only [List.length_append] at hl2 hl3
  have q1 : A ++ (X ++ Y) ++ Z ++ E = A ++ X ++ Y ++ Z ++ E := by simp only [List.append_assoc]
  rw [rotL_app e1 e2 e3, q1, swpN_app j A X Y Z E (m - i) m hX (by omega) e1 (by simp only [List.length_append]; omega)]
  have q2 : A ++ Z ++ Y ++ X ++ E = (A ++ Z) ++ Y ++ X ++ E := rfl
  rw [q2, rotL_app (p := A ++ Z) (by simp only [List.length_append]; omega) (by simp only [List.length_append]; omega) (by simp only [List.length_append]; omega)]
  simp only [List.append_assoc]
theorem RotI.less {d c : List Int} {a m b i j : Nat} (h : RotI d c a m b i j) (hj : i < j) : RotI d (swpN c (m - i) (m + j - i) i) a m b i (j - i) := by
  obtain ⟨h1, h2, h3, h4⟩ := h
  refine ⟨by rw [swpN_len, h1], h2, ⟨by omega, by omega⟩, ?_⟩
  rw [← h4]
  obtain ⟨A, X, YZ, E, rfl, e1, e2, e3⟩ := cut4 c (s := m - i) (m := m) (e := m + j) (by omega) (by omega) (by omega)
  obtain ⟨Y, Z, rfl, hX⟩ : ∃ Y Z, YZ = Y ++ Z ∧ Y.length = j - i := ⟨YZ.take (j - i), YZ.drop (j - i), (List.take_append_drop _ _).symm, by
    rw [List.length_take]; simp only [List.length_append] at e2 e3; omega⟩
  have hl2 := e2; have hl3 := e3
  simp only [List.length_append] at hl2 hl3
  have q1 : A ++ X ++ (Y ++ Z) ++ E = A ++ X ++ Y ++ Z ++ E := by simp only [List.append_assoc]
  rw [rotL_app e1 e2 e3, q1, swpN_app i A X Y Z E (m - i) (m + j - i) (by omega) (by omega) e1 (by simp only [List.length_append]; omega)]
  have q2 : A ++ Z ++ Y ++ X ++ E = A ++ Z ++ Y ++ (X ++ E) := by simp only [List.append_assoc]
  rw [q2, rotL_app (p := A) e1 (by simp only [List.length_append]; omega) (by simp only [List.length_append]; omega)]
  simp only [List.append_assoc]
theorem RotI.last {d c : List Int} {a m b i j : Nat} (h : RotI d c a m b i j) (hj : i = j) : swpN c (m - i) m i = rotL d a m b := by
  obtain ⟨h1, h2, h3, h4⟩ := h
  subst hj
  rw [← h4]
  obtain ⟨A, X, Z, E, rfl, e1, e2, e3⟩ := cut4 c (s := m - i) (m := m) (e := m + i) (by omega) (by omega) (by omega)
  have hl2 := e2; have hl3 := e3
  simp only [List.length_append] at hl2 hl3
  have q1 : A ++ X ++ Z ++ E = A ++ X ++ [] ++ Z ++ E := by simp
  rw [rotL_app e1 e2 e3, q1, swpN_app i A X [] Z E (m - i) m (by omega) (by omega) e1 (by simp only [List.length_append, List.length_nil]; omega)]
  simp
end
end YtnfcnocoehkgoaaAM
