/- A tree that grows by the cheapest edge, in plain Lean. -/
import Derived.Test.YtnfcnocoehkgoaaAmEdgeModels
import Derived.Test.YtnfcnocoehkgoaaAmPutModels
set_option linter.unusedVariables false
set_option linter.unusedSimpArgs false
namespace YtnfcnocoehkgoaaAM

section
variable (l : List S3)
def eg (k : Nat) : S3 := l.getD k ⟨0, 0, 0⟩
abbrev atB (r : List Bool) (n : Int) : Bool := r.getD n.toNat false
def crossB (r : List Bool) (k : Nat) : Bool := atB r (eg l k).a != atB r (eg l k).b
def bestS (r : List Bool) (b : Int) (k : Nat) : Int := if crossB l r k = true ∧ (b < 0 ∨ (eg l k).c < (eg l b.toNat).c) then (k : Int) else b
def bestN (r : List Bool) (k : Nat) : Int := foldN (bestS l r) (-1) k
def bestM (r : List Bool) : Int := bestN l r l.length
def mark2 (r : List Bool) (b : Int) : List Bool := (r.set (eg l b.toNat).a.toNat true).set (eg l b.toNat).b.toNat true
/-- One edge more. -/
def growS (st : List Bool × List Int) : List Bool × List Int := if bestM l st.1 < 0 then st else (mark2 l st.1 (bestM l st.1), st.2 ++ [bestM l st.1])
def growN (st : List Bool × List Int) (j : Nat) : List Bool × List Int := foldN (fun s _ => growS l s) st j
def onB (r : List Bool) (i : Nat) : List Bool := r.set i true
def primS (st : List Bool × List Int) (i : Nat) : List Bool × List Int := growN l (onB st.1 i, st.2) 8
def primN (i : Nat) : List Bool × List Int := foldN (primS l) (List.replicate 8 false, []) i
def primJ (i j : Nat) : List Bool × List Int := growN l (onB (primN l i).1 i, (primN l i).2) j
def mineS (m : List Bool) : List Bool := if bestM l m < 0 then m else mark2 l m (bestM l m)
def mineJ (i j : Nat) : List Bool := foldN (fun m _ => mineS l m) (onB (List.replicate 8 false) i) j
def costL (s : List Int) (k : Nat) : Int := foldN (fun c j => c + (eg l (s.getD j 0).toNat).c) 0 k
def primL : List Int := if goodEdges l = true then sortI (primN l 8).2 else []
def primC : Int := if goodEdges l = true then costL l (primL l) (primL l).length else 0
end
section
variable {l : List S3}
theorem eg_at (h : goodEdges l = true) {k : Nat} (hk : k < l.length) : (0 ≤ (eg l k).a ∧ (eg l k).a ≤ 7) ∧ (0 ≤ (eg l k).b ∧ (eg l k).b ≤ 7) ∧ (eg l k).a ≠ (eg l k).b ∧ 0 ≤ (eg l k).c ∧ (eg l k).c ≤ 1000 := goodEdges_at h hk
theorem growN_zero (st : List Bool × List Int) : growN l st 0 = st := rfl
theorem growN_succ (st : List Bool × List Int) (j : Nat) : growN l st (j + 1) = growS l (growN l st j) := rfl
theorem primJ_zero (i : Nat) : primJ l i 0 = (onB (primN l i).1 i, (primN l i).2) := rfl
theorem primJ_succ (i j : Nat) : primJ l i (j + 1) = growS l (primJ l i j) := rfl
theorem primJ_all (i : Nat) : primJ l i 8 = primN l (i + 1) := rfl
theorem primN_zero : primN l 0 = (List.replicate 8 false, []) := rfl
theorem mineJ_zero (i : Nat) : mineJ l i 0 = onB (List.replicate 8 false) i := rfl
theorem mineJ_succ (i j : Nat) : mineJ l i (j + 1) = mineS l (mineJ l i j) := rfl
theorem bestN_zero (r : List Bool) : bestN l r 0 = -1 := rfl
theorem bestN_succ (r : List Bool) (k : Nat) : bestN l r (k + 1) = bestS l r (bestN l r k) k := rfl
theorem costL_zero (s : List Int) : costL l s 0 = 0 := rfl
theorem costL_succ (s : List Int) (k : Nat) : costL l s (k + 1) = costL l s k + (eg l (s.getD k 0).toNat).c := rfl
theorem bestN_lt (r : List Bool) : ∀ k, -1 ≤ bestN l r k ∧ bestN l r k < k
  | 0 => by rw [bestN_zero]; omega
  | k + 1 => by
    have := bestN_lt r k
    rw [bestN_succ, bestS]
    split <;> omega
theorem bestN_cross (r : List Bool) : ∀ k, 0 ≤ bestN l r k → crossB l r (bestN l r k).toNat = true
  | 0, h => by rw [bestN_zero] at h; omega
  | k + 1, h => by
    rw [bestN_succ, bestS] at *
    split
    · rename_i h1
      simpa using h1.1
    · rename_i h1
      rw [if_neg h1] at h
      exact bestN_cross r k h
theorem bestN_none (r : List Bool) : ∀ k, bestN l r k < 0 → ∀ j, j < k → crossB l r j = false
  | 0, _, j, hj => by omega
  | k + 1, h, j, hj => by
    rw [bestN_succ, bestS] at h
    split at h
    · omega
    · rename_i h1
      rcases Nat.lt_or_ge j k with hj1 | hj1
      · exact bestN_none r k h j hj1
      · have e : j = k := by omega
        subst e
        cases hc : crossB l r j
        · rfl
        · exact absurd ⟨hc, .inl h⟩ h1
theorem bestM_cross (r : List Bool) (h : ¬ bestM l r < 0) : crossB l r (bestM l r).toNat = true := bestN_cross r _ (by show 0 ≤ bestM l r; omega)
theorem bestM_lt (r : List Bool) : -1 ≤ bestM l r ∧ bestM l r < l.length := bestN_lt r l.length
theorem bestM_at (r : List Bool) (h : 0 ≤ bestM l r) : (bestM l r).toNat < l.length := by
  have := bestM_lt (l := l) r; omega
theorem bestN_congr {r m : List Bool} (h : ∀ k, k < l.length → crossB l r k = crossB l m k) : ∀ k, k ≤ l.length → bestN l r k = bestN l m k
  | 0, _ => rfl
  | k + 1, hk => by
    rw [bestN_succ, bestN_succ, bestN_congr h k (by omega), bestS, bestS, h k (by omega)]
theorem bestM_congr {r m : List Bool} (h : ∀ k, k < l.length → crossB l r k = crossB l m k) : bestM l r = bestM l m := bestN_congr h _ (Nat.le_refl _)
@[simp] theorem mark2_len (r : List Bool) (b : Int) : (mark2 l r b).length = r.length := by simp [mark2]
@[simp] theorem onB_len (r : List Bool) (i : Nat) : (onB r i).length = r.length := by simp [onB]
theorem growN_len (st : List Bool × List Int) : ∀ j, (growN l st j).1.length = st.1.length
  | 0 => rfl
  | j + 1 => by
    have := growN_len st j
    rw [growN_succ, growS]
    split
    · exact this
    · rw [mark2_len, this]
theorem primN_len : ∀ i, (primN l i).1.length = 8
  | 0 => rfl
  | i + 1 => by
    show (growN l (onB (primN l i).1 i, (primN l i).2) 8).1.length = 8
    rw [growN_len, onB_len, primN_len i]
theorem primJ_len (i j : Nat) : (primJ l i j).1.length = 8 := by
  rw [primJ, growN_len, onB_len, primN_len]
theorem mineJ_len (i : Nat) : ∀ j, (mineJ l i j).length = 8
  | 0 => by rw [mineJ_zero, onB_len]; rfl
  | j + 1 => by
    have := mineJ_len i j
    rw [mineJ_succ, mineS]
    split
    · exact this
    · rw [mark2_len, this]
/-- How many are reached. -/
abbrev cnt (r : List Bool) : Nat := r.count true
theorem cnt_le (r : List Bool) : cnt r ≤ r.length := List.count_le_length
theorem cnt_set {r : List Bool} {i : Nat} (h : i < r.length) : cnt (r.set i true) = cnt r + if r.getD i false = true then 0 else 1 := by
  induction r generalizing i with
  | nil => simp at h
  | cons b r ih =>
    cases i with
    | zero => cases b <;> simp [cnt]
    | succ i =>
      have := ih (i := i) (by simpa using h)
      simp only [cnt, List.set_cons_succ, List.count_cons] at this ⊢
      simp only [List.getD_cons_succ]
      omega
theorem cnt_mark {r : List Bool} {b : Int} (hg : goodEdges l = true) (hr : r.length = 8) (hb : b.toNat < l.length) (hc : crossB l r b.toNat = true) : cnt (mark2 l r b) = cnt r + 1 := by
  have ge := eg_at hg hb
  simp only [crossB, atB, bne_iff_ne, ne_eq] at hc
  have h1 : (eg l b.toNat).a.toNat < r.length := by omega
  have h2 : (eg l b.toNat).b.toNat < (r.set (eg l b.toNat).a.toNat true).length := by rw [List.length_set]; omega
  have h3 : (eg l b.toNat).a.toNat ≠ (eg l b.toNat).b.toNat := by omega
  rw [mark2, cnt_set h2, cnt_set h1, getD_setI h1, if_neg h3]
  revert hc
  cases r.getD (eg l b.toNat).a.toNat false <;> cases r.getD (eg l b.toNat).b.toNat false <;> simp
theorem cnt_on {r : List Bool} {i : Nat} (hi : i < r.length) : cnt r ≤ cnt (onB r i) := by
  rw [onB, cnt_set hi]; omega
theorem onB_at {r : List Bool} {i : Nat} (hi : i < r.length) (h : r.getD i false = true) : onB r i = r := by
  apply List.ext_getElem
  · simp
  · intro j h1 h2
    simp only [onB, List.getElem_set]
    split
    · rename_i e
      subst e
      rw [getD_get hi] at h
      exact h.symm
    · rfl

theorem bestM_eq (r : List Bool) : bestN l r l.length = bestM l r := rfl
theorem best_yes {r : List Bool} {k : Nat} (hc : (r.getD (l.getD k ⟨0, 0, 0⟩).a.toNat false == r.getD (l.getD k ⟨0, 0, 0⟩).b.toNat false) = false) (h : bestN l r k < 0 ∨ (l.getD k ⟨0, 0, 0⟩).c < (l.getD (bestN l r k).toNat ⟨0, 0, 0⟩).c) : (k : Int) = bestN l r (k + 1) := by
  have hx : crossB l r k = true := by simp only [crossB, atB, bne, eg, hc, Bool.not_false]
  rw [bestN_succ, bestS, if_pos ⟨hx, h⟩]
theorem best_no1 {r : List Bool} {k : Nat} (hc : (r.getD (l.getD k ⟨0, 0, 0⟩).a.toNat false == r.getD (l.getD k ⟨0, 0, 0⟩).b.toNat false) = true) : bestN l r k = bestN l r (k + 1) := by
  rw [bestN_succ, bestS, if_neg]
  rintro ⟨h, _⟩
  simp only [crossB, atB, bne, eg, hc, Bool.not_true] at h
  cases h
theorem best_no2 {r : List Bool} {k : Nat} (h1 : ¬ bestN l r k < 0) (h2 : ¬ (l.getD k ⟨0, 0, 0⟩).c < (l.getD (bestN l r k).toNat ⟨0, 0, 0⟩).c) : bestN l r k = bestN l r (k + 1) := by
  rw [bestN_succ, bestS, if_neg]
  rintro ⟨_, h | h⟩
  · exact h1 h
  · exact h2 h
/-! ### While it grows -/
theorem growS_stop {st : List Bool × List Int} (h : bestM l st.1 < 0) : growS l st = st := by rw [growS, if_pos h]
theorem growS_go {st : List Bool × List Int} (h : ¬ bestM l st.1 < 0) : growS l st = (mark2 l st.1 (bestM l st.1), st.2 ++ [bestM l st.1]) := by rw [growS, if_neg h]
theorem growN_stop {st : List Bool × List Int} {j : Nat} (h : bestM l (growN l st j).1 < 0) : ∀ d, growN l st (j + d) = growN l st j
  | 0 => rfl
  | d + 1 => by
    have ih := growN_stop h d
    show growS l (growN l st (j + d)) = _
    rw [ih, growS_stop h]
theorem growN_cnt (hg : goodEdges l = true) {st : List Bool × List Int} (hs : st.1.length = 8) : ∀ j, (∀ d, d < j → ¬ bestM l (growN l st d).1 < 0) → cnt (growN l st j).1 = cnt st.1 + j
  | 0, _ => rfl
  | j + 1, h => by
    have ih := growN_cnt hg hs j (fun d hd => h d (by omega))
    have hj := h j (by omega)
    rw [growN_succ, growS_go hj]
    have := bestM_lt (l := l) (growN l st j).1
    show cnt (mark2 l (growN l st j).1 (bestM l (growN l st j).1)) = _
    rw [cnt_mark hg (by rw [growN_len, hs]) (by omega) (bestM_cross _ (by omega)), ih]
    omega
/-- As long as it goes on, it isn't the eighth time. -/
theorem prim_j {i j : Nat} (hg : goodEdges l = true) (hi : i < 8) (h : ∀ d, d < j → ¬ bestM l (primJ l i d).1 < 0) : j ≤ 8 := by
  have h8 : (onB (primN l i).1 i).length = 8 := by rw [onB_len, primN_len]
  have := growN_cnt hg (st := (onB (primN l i).1 i, (primN l i).2)) h8 j h
  have hl := cnt_le (primJ l i j).1
  rw [primJ_len] at hl
  have e : cnt (primJ l i j).1 = cnt (onB (primN l i).1 i) + j := this
  omega
theorem prim_j2 {i j : Nat} (hg : goodEdges l = true) (hi : i < 8) (h : ∀ d, d < j → ¬ bestM l (primJ l i d).1 < 0) (hj : ¬ bestM l (primJ l i j).1 < 0) : j < 8 := by
  have := prim_j (j := j + 1) hg hi (fun d hd => by
    rcases Nat.lt_or_ge d j with c | c
    · exact h d c
    · have e : d = j := by omega
      subst e; exact hj)
  omega
theorem prim_end {i j : Nat} (hj8 : j ≤ 8) (hj : bestM l (primJ l i j).1 < 0) : primJ l i j = primN l (i + 1) := by
  rw [← primJ_all, show 8 = j + (8 - j) by omega]
  exact (growN_stop (st := (onB (primN l i).1 i, (primN l i).2)) hj (8 - j)).symm
/-- What is so all along: the edges chosen lie within, none twice, and they are fewer than those reached. -/
structure PrimI (l : List S3) (st : List Bool × List Int) : Prop where
  len : st.1.length = 8
  many : st.2.length ≤ cnt st.1
  within : ∀ x ∈ st.2, 0 ≤ x ∧ x < l.length ∧ atB st.1 (eg l x.toNat).a = true ∧ atB st.1 (eg l x.toNat).b = true
  nodup : st.2.Nodup
theorem set_mono {r : List Bool} {i j : Nat} (hi : i < r.length) (h : r.getD j false = true) : (r.set i true).getD j false = true := by
  rw [getD_setI hi]; split
  · rfl
  · exact h
theorem PrimI.zero : PrimI l (List.replicate 8 false, []) := ⟨rfl, by simp, by simp, List.nodup_nil⟩
theorem PrimI.on {st : List Bool × List Int} (h : PrimI l st) {i : Nat} (hi : i < 8) : PrimI l (onB st.1 i, st.2) :=
  ⟨by rw [onB_len, h.len], Nat.le_trans h.many (cnt_on (r := st.1) (i := i) (by rw [h.len]; exact hi)),
    fun x hx => by
      have := h.within x hx
      have hl : i < st.1.length := by rw [h.len]; exact hi
      exact ⟨this.1, this.2.1, set_mono hl this.2.2.1, set_mono hl this.2.2.2⟩, h.nodup⟩
theorem mark2_get {r : List Bool} {b : Int} (hg : goodEdges l = true) (hr : r.length = 8) (hb : b.toNat < l.length) (n : Nat) :
    (mark2 l r b).getD n false = (r.getD n false || decide (n = (eg l b.toNat).a.toNat) || decide (n = (eg l b.toNat).b.toNat)) := by
  have ge := eg_at hg hb
  rw [mark2, getD_setI (by simp; omega), getD_setI (by omega)]
  by_cases h1 : (eg l b.toNat).b.toNat = n
  · rw [if_pos h1]; simp [h1]
  · rw [if_neg h1]
    by_cases h2 : (eg l b.toNat).a.toNat = n
    · rw [if_pos h2]; simp [h2]
    · rw [if_neg h2]; simp [Ne.symm h1, Ne.symm h2]
theorem PrimI.grow {st : List Bool × List Int} (hg : goodEdges l = true) (h : PrimI l st) : PrimI l (growS l st) := by
  by_cases hb : bestM l st.1 < 0
  · rw [growS_stop hb]; exact h
  · have hlt := bestM_lt (l := l) st.1
    have hc : crossB l st.1 (bestM l st.1).toNat = true := bestM_cross _ (by omega)
    have hbl : (bestM l st.1).toNat < l.length := by omega
    rw [growS_go hb]
    refine ⟨by simp [h.len], ?_, fun x hx => ?_, ?_⟩
    · have := h.many
      rw [cnt_mark hg h.len hbl hc]
      simp; omega
    · simp only [atB, mark2_get hg h.len hbl]
      rcases List.mem_append.1 hx with hx | hx
      · have := h.within x hx
        simp only [atB] at this
        refine ⟨this.1, this.2.1, ?_, ?_⟩
        · rw [this.2.2.1]; rfl
        · rw [this.2.2.2]; rfl
      · obtain rfl := List.mem_singleton.1 hx
        refine ⟨by omega, hlt.2, by simp, by simp⟩
    · rw [List.nodup_append]
      refine ⟨h.nodup, by simp, fun a ha b hb2 e => ?_⟩
      obtain rfl := List.mem_singleton.1 hb2
      subst e
      have := h.within _ ha
      simp only [crossB] at hc
      rw [this.2.2.1, this.2.2.2] at hc
      simp at hc
theorem PrimI.growN {st : List Bool × List Int} (hg : goodEdges l = true) (h : PrimI l st) : ∀ j, PrimI l (growN l st j)
  | 0 => h
  | j + 1 => (PrimI.growN hg h j).grow hg
theorem primN_inv (hg : goodEdges l = true) : ∀ i, i ≤ 8 → PrimI l (primN l i)
  | 0, _ => PrimI.zero
  | i + 1, h => ((primN_inv hg i (by omega)).on (by omega)).growN hg 8
theorem primJ_inv (hg : goodEdges l = true) {i : Nat} (hi : i < 8) (j : Nat) : PrimI l (primJ l i j) := ((primN_inv hg i (by omega)).on hi).growN hg j
theorem PrimI.le {st : List Bool × List Int} (h : PrimI l st) : st.2.length ≤ 8 := by
  have := h.many
  have := cnt_le st.1
  have := h.len
  omega
/-- Nothing leads out any more. -/
def Shut (l : List S3) (r : List Bool) : Prop := ∀ k, k < l.length → crossB l r k = false
theorem Shut.best {r : List Bool} (h : Shut l r) : bestM l r < 0 := by
  rcases Int.lt_or_le (bestM l r) 0 with c | c
  · exact c
  · have := bestM_cross (l := l) r (by omega)
    rw [h _ (bestM_at r c)] at this
    simp at this
theorem grow_shut {st : List Bool × List Int} (hg : goodEdges l = true) (hs : st.1.length = 8) : Shut l (growN l st 8).1 := by
  rcases Int.lt_or_le (bestM l (growN l st 8).1) 0 with c | c
  · exact fun k hk => bestN_none _ _ c k hk
  · have hall : ∀ d, d < 9 → ¬ bestM l (growN l st d).1 < 0 := fun d hd hn => by
      have := growN_stop hn (8 - d)
      rw [show d + (8 - d) = 8 by omega] at this
      rw [this] at c
      omega
    have := growN_cnt hg hs 9 hall
    have h1 := cnt_le (growN l st 9).1
    rw [growN_len, hs] at h1
    omega
theorem primN_shut (hg : goodEdges l = true) : ∀ i, Shut l (primN l i).1
  | 0 => fun k hk => by
    have h : ∀ n : Nat, (List.replicate 8 false).getD n false = false := fun n => by
      simp only [List.getD_eq_getElem?_getD, List.getElem?_replicate]
      split <;> rfl
    simp only [crossB, primN_zero, atB, h]; rfl
  | i + 1 => grow_shut hg (st := (onB (primN l i).1 i, (primN l i).2)) (by rw [onB_len, primN_len])
/-- Where the start is reached already, nothing is done. -/
theorem prim_skip {i : Nat} (hg : goodEdges l = true) (hi : i < 8) (h : (primN l i).1.getD i false = true) : primN l (i + 1) = primN l i := by
  have e : onB (primN l i).1 i = (primN l i).1 := onB_at (by rw [primN_len]; exact hi) h
  have := growN_stop (l := l) (st := primN l i) (j := 0) (primN_shut hg i).best 8
  show growN l (onB (primN l i).1 i, (primN l i).2) 8 = _
  rw [e]
  exact (show growN l (primN l i) (0 + 8) = growN l (primN l i) 0 from this)
/-- What grows from one start alone: the same edges. -/
theorem mine_inv (hg : goodEdges l = true) {i : Nat} (hi : i < 8) (h : (primN l i).1.getD i false = false) : ∀ j,
    (∀ n, (primJ l i j).1.getD n false = ((primN l i).1.getD n false || (mineJ l i j).getD n false)) ∧ ∀ n, (primN l i).1.getD n false = true → (mineJ l i j).getD n false = false
  | 0 => by
    have h8 : i < (primN l i).1.length := by rw [primN_len]; exact hi
    have hr : ∀ n : Nat, (List.replicate 8 false).getD n false = false := fun n => by
      simp only [List.getD_eq_getElem?_getD, List.getElem?_replicate]
      split <;> rfl
    refine ⟨fun n => ?_, fun n hn => ?_⟩
    · rw [primJ_zero, mineJ_zero]
      simp only [onB]
      rw [getD_setI h8, getD_setI (by simpa using hi), hr]
      split <;> simp
    · rw [mineJ_zero, onB, getD_setI (by simpa using hi), hr, if_neg]
      intro e; subst e; rw [h] at hn; cases hn
  | j + 1 => by
    obtain ⟨h1, h2⟩ := mine_inv hg hi h j
    have hc : ∀ k, k < l.length → crossB l (primJ l i j).1 k = crossB l (mineJ l i j) k := fun k hk => by
      have hs := primN_shut hg i k hk
      simp only [crossB, atB] at hs ⊢
      rw [h1, h1]
      have a := h2 (eg l k).a.toNat
      have b := h2 (eg l k).b.toNat
      cases ha : (primN l i).1.getD (eg l k).a.toNat false <;> cases hb : (primN l i).1.getD (eg l k).b.toNat false <;> simp_all
    have hbe := bestM_congr hc
    rw [primJ_succ, mineJ_succ, mineS, ← hbe]
    by_cases hb : bestM l (primJ l i j).1 < 0
    · rw [growS_stop hb, if_pos hb]; exact ⟨h1, h2⟩
    · have hlt := bestM_lt (l := l) (primJ l i j).1
      have hbl : (bestM l (primJ l i j).1).toNat < l.length := by omega
      have hcr : crossB l (primJ l i j).1 (bestM l (primJ l i j).1).toNat = true := bestM_cross _ (by omega)
      rw [growS_go hb, if_neg hb]
      have hs := primN_shut hg i _ hbl
      have hcm := hc _ hbl
      rw [hcr] at hcm
      refine ⟨fun n => ?_, fun n hn => ?_⟩
      · simp only
        rw [mark2_get hg (primJ_len i j) hbl, mark2_get hg (mineJ_len i j) hbl, h1]
        cases (primN l i).1.getD n false <;> simp
      · rw [mark2_get hg (mineJ_len i j) hbl, h2 n hn]
        simp only [crossB, atB] at hs hcm
        have a := h2 (eg l (bestM l (primJ l i j).1).toNat).a.toNat
        have b := h2 (eg l (bestM l (primJ l i j).1).toNat).b.toNat
        have na : n ≠ (eg l (bestM l (primJ l i j).1).toNat).a.toNat := fun e => by
          subst e
          rw [hn] at hs
          simp_all
        have nb : n ≠ (eg l (bestM l (primJ l i j).1).toNat).b.toNat := fun e => by
          subst e
          rw [hn] at hs
          simp_all
        simp [na, nb]
theorem mine_best (hg : goodEdges l = true) {i : Nat} (hi : i < 8) (h : (primN l i).1.getD i false = false) (j : Nat) : bestM l (mineJ l i j) = bestM l (primJ l i j).1 := by
  obtain ⟨h1, h2⟩ := mine_inv hg hi h j
  refine (bestM_congr fun k hk => ?_).symm
  have hs := primN_shut hg i k hk
  simp only [crossB, atB] at hs ⊢
  rw [h1, h1]
  have a := h2 (eg l k).a.toNat
  have b := h2 (eg l k).b.toNat
  cases ha : (primN l i).1.getD (eg l k).a.toNat false <;> cases hb : (primN l i).1.getD (eg l k).b.toNat false <;> simp_all
/-- The sorted list takes one more. -/
theorem sort_put {s : List Int} {b : Int} (hn : s.Nodup) (hb : b ∉ s) : putL b (sortI s) = sortI (s ++ [b]) := by
  refine rise_eq (putL_rise (sortI_rise hn)) (sortI_rise ?_) fun x => ?_
  · rw [List.nodup_append]
    exact ⟨hn, by simp, fun a ha c hc e => by obtain rfl := List.mem_singleton.1 hc; subst e; exact hb ha⟩
  · rw [putL_mem, sortI_mem, sortI_mem]; simp; exact or_comm
theorem prim_put (hg : goodEdges l = true) {i : Nat} (hi : i < 8) {j : Nat} (hb : ¬ bestM l (primJ l i j).1 < 0) :
    putL (bestM l (primJ l i j).1) (sortI (primJ l i j).2) = sortI (primJ l i (j + 1)).2 := by
  have hI := primJ_inv hg hi j
  have hI2 := (primJ_inv hg hi (j + 1)).nodup
  rw [primJ_succ, growS_go hb] at hI2 ⊢
  refine sort_put hI.nodup fun hm => ?_
  rw [List.nodup_append] at hI2
  exact hI2.2.2 _ hm _ (by simp) rfl
theorem primJ_sorted (hg : goodEdges l = true) {i : Nat} (hi : i < 8) (j : Nat) : Rise (sortI (primJ l i j).2) := sortI_rise (primJ_inv hg hi j).nodup
theorem sortI_nil : sortI [] = [] := rfl
theorem mineJ_go {i j : Nat} (h : ¬ bestM l (mineJ l i j) < 0) : mineJ l i (j + 1) = mark2 l (mineJ l i j) (bestM l (mineJ l i j)) := by rw [mineJ_succ, mineS, if_neg h]
theorem primN_edge (hg : goodEdges l = true) {k : Nat} (hk : k < (sortI (primN l 8).2).length) : 0 ≤ (sortI (primN l 8).2).getD k 0 ∧ (sortI (primN l 8).2).getD k 0 < l.length := by
  have hI := primN_inv hg 8 (by omega)
  have hm : (sortI (primN l 8).2).getD k 0 ∈ sortI (primN l 8).2 := by rw [getD_get hk]; exact List.getElem_mem hk
  have := hI.within _ (sortI_mem.1 hm)
  exact ⟨this.1, this.2.1⟩
theorem cost_bound (hg : goodEdges l = true) {s : List Int} (hs : ∀ k, k < s.length → 0 ≤ s.getD k 0 ∧ s.getD k 0 < l.length) : ∀ k, k ≤ s.length → 0 ≤ costL l s k ∧ costL l s k ≤ 1000 * (k : Int)
  | 0, _ => by rw [costL_zero]; omega
  | k + 1, h => by
    have ih := cost_bound hg hs k (by omega)
    have h1 := hs k (by omega)
    have ge := eg_at hg (k := (s.getD k 0).toNat) (by omega)
    rw [costL_succ]
    omega
theorem primL_le : (primL l).length ≤ 8 := by
  unfold primL
  split
  · rename_i hg
    rw [sortI_len]
    exact (primN_inv hg 8 (by omega)).le
  · simp
end
end YtnfcnocoehkgoaaAM
