/- Orders of jobs, how late they are, and which jobs are in time, in plain Lean. -/
import Derived.Test.YtockeinpdioahaaAmJobModels
import Derived.Test.YtockeinpdioahaaAmSortModels
import Derived.Test.YtockeinpdioahaaAmPutModels
import Derived.Test.YtockeinpdioahaaAmJobMath
import Derived.Test.YtockeinpdioahaaAmMooreMath
set_option linter.unusedVariables false
set_option linter.unusedSimpArgs false
namespace YtockeinpdioahaaAM

/-! ### Orders -/
theorem ins_perm (x : Int) (s : List Int) : (ins x s).Perm (x :: s) := by
  unfold ins
  refine List.perm_middle.trans (List.Perm.cons x ?_)
  have h : s.filter (fun y => decide (x < y)) = s.filter (fun y => !decide (y ≤ x)) := List.filter_congr fun y _ => by
    by_cases c : y ≤ x
    · simp [c]
    · simp [c]; omega
  rw [h]
  exact List.filter_append_perm _ _
theorem sortN_perm (l : List Int) : ∀ k, k ≤ l.length → (sortN l k).Perm (l.take k)
  | 0, _ => by rw [sortN_zero]; simp
  | k + 1, h => by
    rw [sortN_succ (by omega), List.take_succ_eq_append_getElem (by omega)]
    refine (ins_perm _ _).trans ?_
    rw [getD_get (by omega)]
    exact ((sortN_perm l k (by omega)).cons _).trans (List.perm_append_singleton _ _).symm
theorem sortI_perm (l : List Int) : (sortI l).Perm l := by
  have := sortN_perm l l.length (Nat.le_refl _)
  rwa [List.take_of_length_le (Nat.le_refl _)] at this
theorem rangeI_nodup (n : Nat) : (rangeI n).Nodup := (rangeI_rise n).imp fun h => by omega

def ordB (n : Nat) (o : List Int) : Bool := decide (o.length = n ∧ o.Nodup ∧ ∀ x ∈ o, 0 ≤ x ∧ x < n)
theorem ordB_iff {n : Nat} {o : List Int} : ordB n o = true ↔ o.length = n ∧ o.Nodup ∧ ∀ x ∈ o, 0 ≤ x ∧ x < n := by simp [ordB]
theorem ord_full {n : Nat} {o : List Int} (h : ordB n o = true) {x : Int} (hx : 0 ≤ x ∧ x < n) : x ∈ o := by
  obtain ⟨h1, h2, h3⟩ := ordB_iff.1 h
  refine Classical.byContradiction fun hn => ?_
  have := nod_len n (x :: o) (List.nodup_cons.2 ⟨hn, h2⟩) (fun y hy => by
    rcases List.mem_cons.1 hy with rfl | hy
    · exact hx
    · exact h3 y hy)
  rw [List.length_cons] at this
  omega
theorem ord_mem {n : Nat} {o : List Int} (h : ordB n o = true) (x : Int) : x ∈ o ↔ x ∈ rangeI n := by
  rw [rangeI_mem]
  exact ⟨(ordB_iff.1 h).2.2 x, ord_full h⟩
theorem ord_sort {n : Nat} {o : List Int} (hl : o.length = n) : ordB n o = eqB (sortI o) (rangeI n) := by
  rw [Bool.eq_iff_iff, eqB_true]
  constructor
  · intro h
    refine rise_eq (sortI_rise (ordB_iff.1 h).2.1) (rangeI_rise n) fun x => ?_
    rw [sortI_mem]
    exact ord_mem h x
  · intro h
    refine ordB_iff.2 ⟨hl, ?_, fun x hx => ?_⟩
    · rw [← (sortI_perm o).nodup_iff, h]; exact rangeI_nodup n
    · exact rangeI_mem.1 (by rw [← h]; exact sortI_mem.2 hx)
theorem ord_len {n : Nat} {o : List Int} (h : o.length ≠ n) : ordB n o = false := by
  rw [← Bool.not_eq_true, ordB_iff]; exact fun h' => h h'.1

/-- The first k stand once each, where they may. -/
def OrdTo (n : Nat) (o : List Int) (k : Nat) : Prop := k ≤ o.length ∧ ∀ j, j < k → (0 ≤ o.getD j 0 ∧ o.getD j 0 < n) ∧ hasB (o.take j) (o.getD j 0) = false
theorem OrdTo.zero (n : Nat) (o : List Int) : OrdTo n o 0 := ⟨Nat.zero_le _, fun j hj => by omega⟩
theorem OrdTo.next {n : Nat} {o : List Int} {k : Nat} (h : OrdTo n o k) (hk : k < o.length) (h1 : 0 ≤ o.getD k 0 ∧ o.getD k 0 < n) (h2 : hasB (o.take k) (o.getD k 0) = false) : OrdTo n o (k + 1) :=
  ⟨hk, fun j hj => by
    rcases Nat.lt_or_ge j k with c | c
    · exact h.2 j c
    · obtain rfl : j = k := by omega
      exact ⟨h1, h2⟩⟩
theorem OrdTo.all {n : Nat} {o : List Int} {k : Nat} (h : OrdTo n o k) (hk : o.length ≤ k) (hn : o.length = n) : ordB n o = true := by
  refine ordB_iff.2 ⟨hn, ?_, fun x hx => ?_⟩
  · rw [List.Nodup, List.pairwise_iff_getElem]
    intro i j hi hj hij e
    have := hasB_false.1 (h.2 j (by omega)).2
    refine this ?_
    rw [getD_get hj, ← e]
    refine List.mem_iff_getElem.2 ⟨i, by simp; omega, by simp⟩
  · obtain ⟨i, hi, rfl⟩ := List.mem_iff_getElem.1 hx
    have := (h.2 i (by omega)).1
    rwa [getD_get hi] at this
theorem ord_out {n : Nat} {o : List Int} {k : Nat} (hk : k < o.length) (h : o.getD k 0 < 0 ∨ (n : Int) ≤ o.getD k 0) : ordB n o = false := by
  rw [← Bool.not_eq_true, ordB_iff]
  intro h'
  have := h'.2.2 (o.getD k 0) (by rw [getD_get hk]; exact List.getElem_mem _)
  omega
theorem ord_twice {n : Nat} {o : List Int} {k : Nat} (hk : k < o.length) (h : hasB (o.take k) (o.getD k 0) = true) : ordB n o = false := by
  rw [← Bool.not_eq_true, ordB_iff]
  intro h'
  have hm := hasB_iff.1 h
  obtain ⟨i, hi, e⟩ := List.mem_iff_getElem.1 hm
  rw [List.length_take] at hi
  have hn := List.pairwise_iff_getElem.1 h'.2.1 i k (by omega) hk (by omega)
  rw [getD_get hk, List.getElem_take] at e
  exact hn e

def joB (l : List S2) (o : List Int) : Bool := goodJobs l && ordB l.length o
theorem joB_good {l : List S2} {o : List Int} (h : joB l o = true) : goodJobs l = true := by simp [joB] at h; exact h.1
theorem joB_ord {l : List S2} {o : List Int} (h : joB l o = true) : ordB l.length o = true := by simp [joB] at h; exact h.2
theorem joB_len {l : List S2} {o : List Int} (h : joB l o = true) : o.length = l.length := (ordB_iff.1 (joB_ord h)).1
theorem joB_le {l : List S2} {o : List Int} (h : joB l o = true) : o.length ≤ 10 := by rw [joB_len h]; exact goodJobs_len (joB_good h)
theorem joB_range {l : List S2} {o : List Int} (h : joB l o = true) {k : Nat} (hk : k < o.length) : 0 ≤ o.getD k 0 ∧ o.getD k 0 < l.length :=
  (ordB_iff.1 (joB_ord h)).2.2 _ (by rw [getD_get hk]; exact List.getElem_mem _)
theorem joB_no1 {l : List S2} {o : List Int} (h : goodJobs l = false) : joB l o = false := by simp [joB, h]
theorem joB_no2 {l : List S2} {o : List Int} (h : ordB l.length o = false) : joB l o = false := by simp [joB, h]
theorem joB_yes {l : List S2} {o : List Int} (h : goodJobs l = true) (h2 : ordB l.length o = true) : joB l o = true := by simp [joB, h, h2]
theorem joB_eq {l : List S2} {o : List Int} (h : goodJobs l = true) : joB l o = ordB l.length o := by simp [joB, h]

/-! ### How late -/
def endK (l : List S2) (o : List Int) (k : Nat) : Int := sumL (lng l) (o.take k)
def lateK (l : List S2) (o : List Int) (k : Nat) : Int := lateM (lng l) (due l) (o.take k)
def manyK (l : List S2) (o : List Int) (k : Nat) : Nat := lateN (lng l) (due l) (o.take k) 0
theorem take_next {o : List Int} {k : Nat} (hk : k < o.length) : o.take (k + 1) = o.take k ++ [o.getD k 0] := by
  rw [List.take_succ_eq_append_getElem hk, getD_get hk]
section
variable (L D : Int → Int)
theorem lateSt_fst (o : List Int) : ∀ s : Int × Int, (lateSt L D o s).1 = s.1 + sumL L o := by
  induction o with
  | nil => intro s; rw [sumL_nil]; exact (Int.add_zero _).symm
  | cons k o ih => intro s; rw [lateSt_cons, ih, sumL_cons]; dsimp only; omega
theorem lateM_snoc (o : List Int) (x : Int) : lateM L D (o ++ [x]) = max (lateM L D o) (sumL L o + L x - D x) := by
  have h := lateSt_fst L D o (0, 0)
  rw [Int.zero_add] at h
  simp only [lateM, lateSt, List.foldl_append, List.foldl_cons, List.foldl_nil]
  unfold lateSt at h
  rw [h]
theorem lateN_snoc (o : List Int) (x : Int) : ∀ t, lateN L D (o ++ [x]) t = lateN L D o t + (if t + sumL L o + L x ≤ D x then 0 else 1) := by
  induction o with
  | nil => intro t; simp [lateN, sumL_nil]
  | cons k o ih =>
    intro t
    simp only [List.cons_append, lateN]
    rw [ih, sumL_cons, show t + (L k + sumL L o) + L x = t + L k + sumL L o + L x by omega]
    omega
end
variable {l : List S2} {o : List Int} {k : Nat}
theorem endK_zero : endK l o 0 = 0 := rfl
theorem lateK_zero : lateK l o 0 = 0 := rfl
theorem manyK_zero : manyK l o 0 = 0 := rfl
theorem endK_next (hk : k < o.length) : endK l o (k + 1) = endK l o k + lng l (o.getD k 0) := by
  rw [endK, take_next hk, sumL_append, sumL_cons, sumL_nil, Int.add_zero]; rfl
theorem lateK_next (hk : k < o.length) : lateK l o (k + 1) = max (lateK l o k) (endK l o k + lng l (o.getD k 0) - due l (o.getD k 0)) := by
  rw [lateK, take_next hk, lateM_snoc]; rfl
theorem manyK_next (hk : k < o.length) : manyK l o (k + 1) = manyK l o k + (if endK l o k + lng l (o.getD k 0) ≤ due l (o.getD k 0) then 0 else 1) := by
  rw [manyK, take_next hk, lateN_snoc, Int.zero_add]; rfl
theorem lateK_nonneg : 0 ≤ lateK l o k := late_nonneg _
theorem endK_rng (h : joB l o = true) : ∀ k, k ≤ o.length → 0 ≤ endK l o k ∧ endK l o k ≤ 100 * k
  | 0, _ => by rw [endK_zero]; omega
  | k + 1, hk => by
    have ih := endK_rng h k (by omega)
    have := (job_range (joB_good h) (joB_range h (by omega : k < o.length))).1
    rw [endK_next (by omega)]
    omega
theorem lateK_rng (h : joB l o = true) : ∀ k, k ≤ o.length → 0 ≤ lateK l o k ∧ lateK l o k ≤ 100 * k
  | 0, _ => by rw [lateK_zero]; omega
  | k + 1, hk => by
    have ih := lateK_rng h k (by omega)
    have e := endK_rng h k (by omega)
    have := job_range (joB_good h) (joB_range h (by omega : k < o.length))
    rw [lateK_next (by omega)]
    omega
theorem manyK_le : ∀ k, k ≤ o.length → manyK l o k ≤ k
  | 0, _ => by rw [manyK_zero]; omega
  | k + 1, hk => by
    have ih := manyK_le k (by omega)
    rw [manyK_next (by omega)]
    split <;> omega
theorem lateK_all (hk : o.length ≤ k) : lateK l o k = lateM (lng l) (due l) o := by rw [lateK, List.take_of_length_le hk]
theorem manyK_all (hk : o.length ≤ k) : manyK l o k = lateN (lng l) (due l) o 0 := by rw [manyK, List.take_of_length_le hk]
theorem job_at {x : Int} (h : joB l o = true) (hk : k < o.length) : (1 ≤ lng l (o.getD k 0) ∧ lng l (o.getD k 0) ≤ 100) ∧ (1 ≤ due l (o.getD k 0) ∧ due l (o.getD k 0) ≤ 1000) := job_range (joB_good h) (joB_range h hk)

def loL (l : List S2) (o : List Int) : Int := if joB l o = true then lateM (lng l) (due l) o else 0
def lnL (l : List S2) (o : List Int) : Int := if joB l o = true then (lateN (lng l) (due l) o 0 : Nat) else 0
theorem loL_rng : 0 ≤ loL l o ∧ loL l o ≤ 1000 := by
  unfold loL
  split
  · rename_i h
    have := lateK_rng h o.length (Nat.le_refl _)
    rw [lateK_all (Nat.le_refl _)] at this
    have := joB_le h
    omega
  · omega
theorem lnL_rng : 0 ≤ lnL l o ∧ lnL l o ≤ 10 := by
  unfold lnL
  split
  · rename_i h
    have := manyK_le (l := l) (o := o) o.length (Nat.le_refl _)
    rw [manyK_all (Nat.le_refl _)] at this
    have := joB_le h
    omega
  · omega
theorem loL_yes (h : joB l o = true) : loL l o = lateM (lng l) (due l) o := by rw [loL, if_pos h]
theorem loL_no (h : joB l o = false) : loL l o = 0 := by rw [loL, if_neg (by rw [h]; simp)]
theorem lnL_yes (h : joB l o = true) : lnL l o = (lateN (lng l) (due l) o 0 : Nat) := by rw [lnL, if_pos h]
theorem lnL_no (h : joB l o = false) : lnL l o = 0 := by rw [lnL, if_neg (by rw [h]; simp)]

/-! ### The jobs in time -/
theorem byA_len (l : List S2) : (byA l).length = l.length := by rw [byA, byL_len, rangeI_length]
theorem byA_mem {l : List S2} {x : Int} : x ∈ byA l ↔ 0 ≤ x ∧ x < l.length := by rw [byA, byL_mem, rangeI_mem]
theorem byA_nodup (l : List S2) : (byA l).Nodup := by
  have := sortN_nodupK (key := due l) (rangeI_nodup l.length) (rangeI l.length).length (Nat.le_refl _)
  exact this
theorem byA_at {l : List S2} {k : Nat} (h : goodJobs l = true) (hk : k < (byA l).length) : 0 ≤ (byA l).getD k 0 ∧ (byA l).getD k 0 < l.length :=
  byA_mem.1 (by rw [getD_get hk]; exact List.getElem_mem _)
def mooJ (l : List S2) (k : Nat) : List Int := mooN (lng l) (due l) (byA l) k
theorem mooJ_zero (l : List S2) : mooJ l 0 = [] := rfl
theorem moo_sub (L D : Int → Int) (E : List Int) : ∀ k, k ≤ E.length → (∀ x ∈ mooN L D E k, x ∈ E) ∧ (mooN L D E k).length ≤ k
  | 0, _ => by rw [mooN_zero]; simp
  | k + 1, h => by
    obtain ⟨h1, h2⟩ := moo_sub L D E k (by omega)
    have hx : E.getD k 0 ∈ E := by rw [getD_get (by omega)]; exact List.getElem_mem _
    have ha : ∀ x ∈ mooN L D E k ++ [E.getD k 0], x ∈ E := fun x hx' => by
      rcases List.mem_append.1 hx' with h' | h'
      · exact h1 x h'
      · rw [List.mem_singleton] at h'; subst h'; exact hx
    rw [mooN_succ, mooS]
    split
    · exact ⟨ha, by simp; omega⟩
    · refine ⟨fun x hx' => ha x (List.mem_of_mem_eraseIdx hx'), ?_⟩
      have := List.length_eraseIdx_le (mooN L D E k ++ [E.getD k 0]) (longI L (mooN L D E k ++ [E.getD k 0]))
      simp at this ⊢
      omega
theorem mooJ_mem {l : List S2} {k : Nat} (hk : k ≤ (byA l).length) {x : Int} (hx : x ∈ mooJ l k) : 0 ≤ x ∧ x < l.length := byA_mem.1 ((moo_sub _ _ _ k hk).1 x hx)
theorem mooJ_len {l : List S2} {k : Nat} (hk : k ≤ (byA l).length) : (mooJ l k).length ≤ k := (moo_sub _ _ _ k hk).2
theorem sumL_rng {l : List S2} (h : goodJobs l = true) : ∀ {t : List Int}, (∀ x ∈ t, 0 ≤ x ∧ x < l.length) → 0 ≤ sumL (lng l) t ∧ sumL (lng l) t ≤ 100 * t.length
  | [], _ => by rw [sumL_nil]; simp
  | x :: t, hm => by
    have ih := sumL_rng h (t := t) (fun y hy => hm y (by simp [hy]))
    have := (job_range h (hm x (by simp))).1
    rw [sumL_cons, List.length_cons]
    omega
def ftS (l : List S2) (k : Nat) : Int := sumL (lng l) (mooJ l k)
theorem ftS_zero (l : List S2) : ftS l 0 = 0 := rfl
theorem ftS_rng {l : List S2} {k : Nat} (h : goodJobs l = true) (hk : k ≤ (byA l).length) : 0 ≤ ftS l k ∧ ftS l k ≤ 100 * k := by
  have h1 := sumL_rng h (fun x hx => mooJ_mem hk hx)
  have h2 := mooJ_len hk
  unfold ftS
  omega
/-- The new job among them. -/
def mooT (l : List S2) (k : Nat) : List Int := mooJ l k ++ [(byA l).getD k 0]
theorem mooT_len (l : List S2) (k : Nat) : (mooT l k).length = (mooJ l k).length + 1 := by simp [mooT]
theorem mooT_sum (l : List S2) (k : Nat) : sumL (lng l) (mooT l k) = ftS l k + lng l ((byA l).getD k 0) := by
  rw [mooT, sumL_append, sumL_cons, sumL_nil, Int.add_zero]; rfl
theorem mooT_mem {l : List S2} {k : Nat} (hk : k < (byA l).length) {x : Int} (hx : x ∈ mooT l k) : 0 ≤ x ∧ x < l.length := by
  rcases List.mem_append.1 hx with h | h
  · exact mooJ_mem (by omega) h
  · rw [List.mem_singleton] at h; subst h; exact byA_mem.1 (by rw [getD_get hk]; exact List.getElem_mem _)
theorem mooT_at {l : List S2} {k i : Nat} (hk : k < (byA l).length) (hi : i < (mooT l k).length) : 0 ≤ (mooT l k).getD i 0 ∧ (mooT l k).getD i 0 < l.length := mooT_mem hk (by rw [getD_get hi]; exact List.getElem_mem _)
theorem mooJ_fits {l : List S2} {k : Nat} (h : ftS l k + lng l ((byA l).getD k 0) ≤ due l ((byA l).getD k 0)) : mooJ l (k + 1) = mooT l k := by
  rw [ftS, mooJ] at h
  rw [mooJ, mooN_succ, mooS, if_pos h]; rfl
theorem mooJ_not {l : List S2} {k : Nat} (h : ¬ ftS l k + lng l ((byA l).getD k 0) ≤ due l ((byA l).getD k 0)) : mooJ l (k + 1) = (mooT l k).eraseIdx (longN (lng l) (mooT l k) (mooT l k).length) := by
  rw [ftS, mooJ] at h
  rw [mooJ, mooN_succ, mooS, if_neg h]; rfl
theorem ftS_fits {l : List S2} {k : Nat} (h : ftS l k + lng l ((byA l).getD k 0) ≤ due l ((byA l).getD k 0)) : ftS l (k + 1) = ftS l k + lng l ((byA l).getD k 0) := by
  rw [ftS, mooJ_fits h, mooT_sum]
theorem sumL_eraseIdx (L : Int → Int) : ∀ (t : List Int) (i : Nat), i < t.length → sumL L (t.eraseIdx i) = sumL L t - L (t.getD i 0)
  | [], _, h => by simp at h
  | x :: t, 0, _ => by simp [sumL_cons]; omega
  | x :: t, i + 1, h => by
    have := sumL_eraseIdx L t i (by simpa using h)
    rw [List.eraseIdx_cons_succ, sumL_cons, sumL_cons, this, List.getD_cons_succ]
    omega
theorem long_lt {l : List S2} {k : Nat} (j : Nat) (hj : 0 < j) : longN (lng l) (mooT l k) j < j := longN_lt _ j hj
theorem ftS_not {l : List S2} {k : Nat} (h : ¬ ftS l k + lng l ((byA l).getD k 0) ≤ due l ((byA l).getD k 0)) :
    ftS l (k + 1) = ftS l k + lng l ((byA l).getD k 0) - lng l ((mooT l k).getD (longN (lng l) (mooT l k) (mooT l k).length) 0) := by
  rw [ftS, mooJ_not h, sumL_eraseIdx _ _ _ (longN_lt _ _ (by rw [mooT_len]; omega)), mooT_sum]
theorem moo_erase {l : List S2} {k : Nat} {t : List Int} {i : Nat} (h : i < t.length) : t.eraseIdx i = t.take i ++ t.drop (i + 1) := List.eraseIdx_eq_take_drop_succ _ _
theorem long_step {l : List S2} {t : List Int} {j : Nat} (h : lng l (t.getD (longN (lng l) t j) 0) ≤ lng l (t.getD j 0)) : longN (lng l) t (j + 1) = j := by rw [longN_succ, if_pos h]
theorem long_stay {l : List S2} {t : List Int} {j : Nat} (h : ¬ lng l (t.getD (longN (lng l) t j) 0) ≤ lng l (t.getD j 0)) : longN (lng l) t (j + 1) = longN (lng l) t j := by rw [longN_succ, if_neg h]

def mooA (l : List S2) : List Int := mooJ l (byA l).length
theorem mooA_len (l : List S2) : (mooA l).length ≤ l.length := by
  have h1 := mooJ_len (l := l) (Nat.le_refl (byA l).length)
  have h2 := byA_len l
  unfold mooA
  omega
theorem moo_nodup (L D : Int → Int) {E : List Int} (hE : E.Nodup) : ∀ k, k ≤ E.length → (mooN L D E k).Sublist (E.take k)
  | 0, _ => by rw [mooN_zero]; simp
  | k + 1, h => by
    have ih := moo_nodup L D hE k (by omega)
    rw [mooN_succ, mooS, take_next (by omega)]
    split
    · exact ih.append (List.Sublist.refl _)
    · exact (List.eraseIdx_sublist _ _).trans (ih.append (List.Sublist.refl _))
theorem mooA_nodup (l : List S2) : (mooA l).Nodup := by
  have := moo_nodup (lng l) (due l) (byA_nodup l) _ (Nat.le_refl _)
  exact ((byA_nodup l).sublist (List.take_sublist _ _)).sublist this
def flL (l : List S2) : List Int := if goodJobs l = true then sortI (mooA l) else []
theorem flL_yes {l : List S2} (h : goodJobs l = true) : flL l = sortI (mooA l) := by rw [flL, if_pos h]
theorem flL_no {l : List S2} (h : goodJobs l = false) : flL l = [] := by rw [flL, if_neg (by rw [h]; simp)]
theorem flL_le (l : List S2) : (flL l).length ≤ 10 := by
  unfold flL
  split
  · rename_i h
    rw [sortI_len]
    have := mooA_len l
    have := goodJobs_len h
    omega
  · simp
theorem put_sort {t : List Int} (hn : t.Nodup) {k : Nat} (hk : k < t.length) : putL (t.getD k 0) (sortN t k) = sortN t (k + 1) := by
  rw [putL, if_neg, sortN_succ hk]
  intro h
  have h1 := (sortN_mem k (by omega)).1 (hasB_iff.1 h)
  obtain ⟨i, hi, e⟩ := List.mem_iff_getElem.1 h1
  rw [List.length_take] at hi
  rw [getD_get hk, List.getElem_take] at e
  exact List.pairwise_iff_getElem.1 hn i k (by omega) hk (by omega) e
theorem sortN_rise {t : List Int} (hn : t.Nodup) {k : Nat} (hk : k ≤ t.length) : Rise (sortN t k) := by
  have hu := sortN_up t k
  have hd := sortN_nodup hn k hk
  have := hu.and hd
  exact this.imp fun h => by omega
end YtockeinpdioahaaAM
