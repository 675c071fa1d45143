/- Small laws of lists and of whole numbers that walks ask for. -/
import Derived.Test.YtofjbgpaofcpjaaAmDrive
set_option linter.unusedVariables false
set_option linter.unusedSimpArgs false
namespace YtofjbgpaofcpjaaAM

@[simp] theorem idxAdd_zero_left (n : Nat) : idxAdd 0 n = n := rfl
theorem sub_all {α : Type} (l : List α) : sub l 0 l.length = l := by simp [sub]
@[simp] theorem sub_zero {α : Type} (l : List α) (n : Nat) : sub l 0 n = l.take n := by simp [sub]

/-- The first k elements, then d. -/
def fillTo {α : Type} (l : List α) (k : Nat) (d : α) : List α := l.take k ++ List.replicate (l.length - k) d
@[simp] theorem fillTo_length {α : Type} (l : List α) (k : Nat) (d : α) : (fillTo l k d).length = l.length := by
  simp [fillTo]; omega
theorem fillTo_all {α : Type} (l : List α) {k : Nat} (d : α) (h : l.length ≤ k) : fillTo l k d = l := by
  simp [fillTo, List.take_of_length_le h, show l.length - k = 0 by omega]
theorem fillTo_set {α : Type} (l : List α) {k : Nat} (d : α) (h : k < l.length) {x : α} (hx : x = l[k]) : fillTo l (k + 1) d = (fillTo l k d).set k x := by
  subst hx
  apply List.ext_getElem
  · simp
  · intro i h1 h2
    simp only [fillTo_length, List.length_set] at h1 h2
    simp only [fillTo, List.getElem_set]
    by_cases e : k = i
    · subst e
      rw [if_pos rfl, List.getElem_append_left (by simp; omega)]
      simp
    · rw [if_neg e]
      rcases Nat.lt_or_ge i k with hi | hi
      · rw [List.getElem_append_left (by simp; omega), List.getElem_append_left (by simp; omega)]
        simp
      · rw [List.getElem_append_right (by simp; omega), List.getElem_append_right (by simp; omega)]
        simp

theorem getD_get {α : Type} {l : List α} {k : Nat} {d : α} (h : k < l.length) : l.getD k d = l[k] := by simp [h]

/-- The first place at which p holds, or -1. -/
def idxF {α : Type} (p : α → Bool) (l : List α) : Int := match l.findIdx? p with | some k => k | none => -1
theorem idxF_here {α : Type} {p : α → Bool} {l : List α} {k : Nat} (h : k < l.length) (hb : ∀ j (hj : j < k), p (l[j]'(by omega)) = false) (hp : p l[k] = true) : (k : Int) = idxF p l := by
  have : l.findIdx? p = some k := by
    rw [List.findIdx?_eq_some_iff_getElem]
    exact ⟨h, hp, fun j hj => by rw [hb j hj]; simp⟩
  simp [idxF, this]
theorem idxF_none {α : Type} {p : α → Bool} {l : List α} (hb : ∀ j (hj : j < l.length), p l[j] = false) : -1 = idxF p l := by
  have : l.findIdx? p = none := by
    rw [List.findIdx?_eq_none_iff]
    intro x hx
    obtain ⟨j, hj, rfl⟩ := List.getElem_of_mem hx
    exact hb j hj
  simp [idxF, this]
theorem idxF_any {α : Type} (p : α → Bool) (l : List α) : decide (0 ≤ idxF p l) = l.any p := by
  unfold idxF
  cases h : l.findIdx? p with
  | none =>
    rw [List.findIdx?_eq_none_iff] at h
    simp only [Int.reduceNeg]
    symm
    simp only [show decide ((0 : Int) ≤ -1) = false from rfl, List.any_eq_false]
    exact fun x hx => by rw [h x hx]; simp
  | some k =>
    obtain ⟨hk, hp, _⟩ := List.findIdx?_eq_some_iff_getElem.1 h
    simp only [show decide ((0 : Int) ≤ k) = true by simp]
    symm
    exact List.any_eq_true.2 ⟨_, List.getElem_mem hk, hp⟩

/-- Two lists that agree so far. -/
def Same {α : Type} (a b : List α) (k : Nat) : Prop := a.length = b.length ∧ k ≤ a.length ∧ ∀ j (h : j < a.length) (h' : j < b.length), j < k → a[j] = b[j]
theorem Same.eq {α : Type} {a b : List α} {k : Nat} (h : Same a b k) (hk : a.length ≤ k) : a = b :=
  List.ext_getElem h.1 fun i h1 h2 => h.2.2 i h1 h2 (by omega)
theorem Same.next {α : Type} {a b : List α} {k : Nat} (h : Same a b k) (h1 : k < a.length) (h2 : k < b.length) (he : a[k] = b[k]) : Same a b (k + 1) :=
  ⟨h.1, h1, fun j hj hj' hlt => by
    rcases Nat.lt_or_ge j k with hc | hc
    · exact h.2.2 j hj hj' hc
    · obtain rfl : j = k := by omega
      exact he⟩
theorem Same.zero {α : Type} {a b : List α} (h : a.length = b.length) : Same a b 0 := ⟨h, Nat.zero_le _, fun j _ _ hj => by omega⟩

/-- p holds of none of the first k. -/
def NoneTo {α : Type} (p : α → Bool) (l : List α) (k : Nat) : Prop := k ≤ l.length ∧ ∀ j (h : j < l.length), j < k → p l[j] = false
theorem NoneTo.zero {α : Type} (p : α → Bool) (l : List α) : NoneTo p l 0 := ⟨Nat.zero_le _, fun j _ hj => by omega⟩
theorem NoneTo.next {α : Type} {p : α → Bool} {l : List α} {k : Nat} (h : NoneTo p l k) (h1 : k < l.length) (he : p l[k] = false) : NoneTo p l (k + 1) :=
  ⟨h1, fun j hj hlt => by
    rcases Nat.lt_or_ge j k with hc | hc
    · exact h.2 j hj hc
    · obtain rfl : j = k := by omega
      exact he⟩
theorem NoneTo.any {α : Type} {p : α → Bool} {l : List α} {k : Nat} (h : NoneTo p l k) (hk : l.length ≤ k) : l.any p = false := by
  rw [List.any_eq_false]
  intro x hx
  obtain ⟨j, hj, rfl⟩ := List.getElem_of_mem hx
  rw [h.2 j hj (by omega)]; simp
theorem any_here {α : Type} {p : α → Bool} {l : List α} {k : Nat} (h : k < l.length) (hp : p l[k] = true) : l.any p = true := List.any_eq_true.2 ⟨_, List.getElem_mem h, hp⟩

/-- Whether two are the same. -/
def eqB {α : Type} [DecidableEq α] (a b : α) : Bool := decide (a = b)
theorem eqB_true {α : Type} [DecidableEq α] {a b : α} : (eqB a b = true) = (a = b) := by simp [eqB]
theorem eqB_false {α : Type} [DecidableEq α] {a b : α} : (eqB a b = false) = ¬ (a = b) := by simp [eqB]

/-- What is left of the room that a law allows. -/
def leftOf (n : Int) (k : Nat) : Int := if n - k < 0 then -1 else n - k
theorem leftOf_range {n : Int} {k : Nat} (h : n ≤ 1048576) : -1 ≤ leftOf n k ∧ leftOf n k ≤ 1048576 := by
  unfold leftOf; split <;> omega
theorem leftOf_ok {n : Int} {k : Nat} (h : ¬ leftOf n k < 0) (hn : n ≤ 1048576) : k ≤ 1048576 := by
  unfold leftOf at h; split at h <;> omega

theorem map_take_app {α β : Type} {f : α → β} {l : List α} {k : Nat} (h : k < l.length) {x : β} (hx : x = f l[k]) : (l.take (k + 1)).map f = sub ((l.take k).map f) 0 k ++ sub [x] 0 1 := by
  subst hx
  have h1 : sub ((l.take k).map f) 0 k = (l.take k).map f := by
    rw [sub_zero, List.take_of_length_le (by simp; omega)]
  rw [h1, List.take_add_one, List.getElem?_eq_getElem h, List.map_append]
  rfl
theorem map_take_length {α β : Type} {f : α → β} {l : List α} {k : Nat} (h : k ≤ l.length) : ((l.take k).map f).length = k := by simp; omega
end YtofjbgpaofcpjaaAM
