/- What the small functions compute, in plain Lean. -/
import Derived.Test.YtofjbgpaofcpjaaAmPlain
set_option linter.unusedVariables false
set_option linter.unusedSimpArgs false
namespace YtofjbgpaofcpjaaAM

abbrev s3V (a : S3) : AV := .agg [.int .i64 a.a, .int .i64 a.b, .int .i64 a.c]
abbrev s2V (a : S2) : AV := .agg [.int .i64 a.a, .int .i64 a.b]

/-- A number between two. -/
def btw (lo hi n : Int) : Bool := decide (lo ≤ n) && decide (n ≤ hi)
theorem btw_iff {lo hi n : Int} : btw lo hi n = true ↔ lo ≤ n ∧ n ≤ hi := by simp [btw]

/-- Whether a number is among them. -/
def hasB (l : List Int) (n : Int) : Bool := l.any fun x => decide (x = n)
theorem hasB_iff {l : List Int} {n : Int} : hasB l n = true ↔ n ∈ l := by
  simp [hasB]
theorem hasB_false {l : List Int} {n : Int} : hasB l n = false ↔ n ∉ l := by
  rw [← hasB_iff]; simp

/-- The marks that a law lays into an answer. -/
def marksI (n : Nat) (k : Int) : List Int := (List.range n).map fun (i : Nat) => k + (i : Int)
def marks3 (n : Nat) (k : Int) : List S3 := (List.range n).map fun (i : Nat) => ⟨k + 3 * (i : Int), k + 3 * (i : Int) + 1, k + 3 * (i : Int) + 2⟩
def marks2 (n : Nat) (k : Int) : List S2 := (List.range n).map fun (i : Nat) => ⟨k + 2 * (i : Int), k + 2 * (i : Int) + 1⟩
@[simp] theorem marksI_length (n : Nat) (k : Int) : (marksI n k).length = n := by simp [marksI]
@[simp] theorem marks3_length (n : Nat) (k : Int) : (marks3 n k).length = n := by simp [marks3]
@[simp] theorem marks2_length (n : Nat) (k : Int) : (marks2 n k).length = n := by simp [marks2]
theorem marksI_getD {n i : Nat} (h : i < n) (k d : Int) : (marksI n k).getD i d = k + (i : Int) := by simp [marksI, h]
theorem marks3_getD {n i : Nat} (h : i < n) (k : Int) (d : S3) : (marks3 n k).getD i d = ⟨k + 3 * (i : Int), k + 3 * (i : Int) + 1, k + 3 * (i : Int) + 2⟩ := by simp [marks3, h]
theorem marks2_getD {n i : Nat} (h : i < n) (k : Int) (d : S2) : (marks2 n k).getD i d = ⟨k + 2 * (i : Int), k + 2 * (i : Int) + 1⟩ := by simp [marks2, h]

/-- The first k elements of one list, then the rest of another of the same length. -/
def mixTo {α : Type} (new old : List α) (k : Nat) : List α := new.take k ++ old.drop k
theorem mixTo_length {α : Type} {new old : List α} (h : new.length = old.length) {k : Nat} (hk : k ≤ old.length) : (mixTo new old k).length = old.length := by
  simp [mixTo]; omega
theorem mixTo_all {α : Type} {new old : List α} (h : new.length = old.length) {k : Nat} (hk : old.length ≤ k) : mixTo new old k = new := by
  simp [mixTo, List.take_of_length_le (show new.length ≤ k by omega), List.drop_of_length_le hk]
theorem mixTo_getD {α : Type} {new old : List α} (h : new.length = old.length) {k : Nat} (hk : k < old.length) (d : α) : (mixTo new old k).getD k d = old.getD k d := by
  simp only [mixTo, List.getD_eq_getElem?_getD]
  rw [List.getElem?_append_right (by simp; omega)]
  simp [show min k new.length = k by omega]
theorem mixTo_set {α : Type} {new old : List α} (h : new.length = old.length) {k : Nat} (hk : k < old.length) {x : α} (hx : x = new[k]'(by omega)) : mixTo new old (k + 1) = (mixTo new old k).set k x := by
  subst hx
  apply List.ext_getElem
  · rw [List.length_set, mixTo_length h (by omega), mixTo_length h (by omega)]
  · intro i h1 h2
    rw [mixTo_length h (by omega)] at h1
    simp only [List.getElem_set, mixTo]
    by_cases e : k = i
    · subst e
      rw [if_pos rfl, List.getElem_append_left (by simp; omega)]
      simp
    · rw [if_neg e]
      rcases Nat.lt_or_ge i k with hi | hi
      · rw [List.getElem_append_left (by simp; omega), List.getElem_append_left (by simp; omega)]
        simp
      · rw [List.getElem_append_right (by simp; omega), List.getElem_append_right (by simp; omega)]
        simp only [List.getElem_drop, List.length_take]
        congr 1; omega
theorem mixTo_zero {α : Type} (new old : List α) : mixTo new old 0 = old := by simp [mixTo]
theorem marksI_get {n i : Nat} (h : i < n) (k : Int) : (marksI n k)[i]'(by simpa using h) = k + (i : Int) := by simp [marksI]
theorem marks3_get {n i : Nat} (h : i < n) (k : Int) : (marks3 n k)[i]'(by simpa using h) = ⟨k + 3 * (i : Int), k + 3 * (i : Int) + 1, k + 3 * (i : Int) + 2⟩ := by simp [marks3]
theorem marks2_get {n i : Nat} (h : i < n) (k : Int) : (marks2 n k)[i]'(by simpa using h) = ⟨k + 2 * (i : Int), k + 2 * (i : Int) + 1⟩ := by simp [marks2]

/-- Numbers that rise, from 0 up to below n. -/
def someOk (l : List Int) (n : Int) (i : Nat) : Bool := decide (0 ≤ l.getD i 0) && decide (l.getD i 0 < n) && (decide (i = 0) || decide (l.getD (i - 1) 0 < l.getD i 0))
def someB (l : List Int) (n : Int) : Bool := (List.range l.length).all (someOk l n)

/-- p holds of each of the first k indices. -/
def AllTo (p : Nat → Bool) (n k : Nat) : Prop := k ≤ n ∧ ∀ j, j < k → p j = true
theorem AllTo.zero (p : Nat → Bool) (n : Nat) : AllTo p n 0 := ⟨Nat.zero_le _, fun j hj => by omega⟩
theorem AllTo.next {p : Nat → Bool} {n k : Nat} (h : AllTo p n k) (hk : k < n) (hp : p k = true) : AllTo p n (k + 1) :=
  ⟨hk, fun j hj => by
    rcases Nat.lt_or_ge j k with hc | hc
    · exact h.2 j hc
    · obtain rfl : j = k := by omega
      exact hp⟩
theorem AllTo.all {p : Nat → Bool} {n k : Nat} (h : AllTo p n k) (hk : n ≤ k) : (List.range n).all p = true := by
  rw [List.all_eq_true]
  intro x hx
  exact h.2 x (by have := List.mem_range.1 hx; omega)
theorem not_all {p : Nat → Bool} {n k : Nat} (hk : k < n) (hp : p k = false) : (List.range n).all p = false := by
  rw [List.all_eq_false]
  exact ⟨k, List.mem_range.2 hk, by rw [hp]; simp⟩

theorem getD_set_self {α : Type} {l : List α} {i : Nat} {x d : α} (h : i < l.length) : (l.set i x).getD i d = x := by
  simp [List.getD_eq_getElem?_getD, h]
/-- A fold over the first k elements. -/
def foldTo {σ α : Type} (f : σ → α → σ) (s : σ) (l : List α) (k : Nat) : σ := (l.take k).foldl f s
theorem foldTo_zero {σ α : Type} (f : σ → α → σ) (s : σ) (l : List α) : foldTo f s l 0 = s := by simp [foldTo]
theorem foldTo_succ {σ α : Type} (f : σ → α → σ) (s : σ) (l : List α) {k : Nat} (h : k < l.length) : foldTo f s l (k + 1) = f (foldTo f s l k) l[k] := by
  unfold foldTo
  rw [List.take_add_one, List.getElem?_eq_getElem h, List.foldl_append]; rfl
theorem foldTo_all {σ α : Type} (f : σ → α → σ) (s : σ) (l : List α) {k : Nat} (h : l.length ≤ k) : foldTo f s l k = l.foldl f s := by
  simp [foldTo, List.take_of_length_le h]

/-- A reckoning over the numbers below k. -/
def foldN {σ : Type} (f : σ → Nat → σ) (s : σ) : Nat → σ
  | 0 => s
  | k + 1 => f (foldN f s k) k
theorem foldN_succ {σ : Type} (f : σ → Nat → σ) (s : σ) (k : Nat) : foldN f s (k + 1) = f (foldN f s k) k := rfl
theorem getD_setI {α : Type} {l : List α} {i j : Nat} {x d : α} (h : i < l.length) : (l.set i x).getD j d = if i = j then x else l.getD j d := by
  simp only [List.getD_eq_getElem?_getD, List.getElem?_set, h, if_true]
  split <;> rfl
end YtofjbgpaofcpjaaAM
