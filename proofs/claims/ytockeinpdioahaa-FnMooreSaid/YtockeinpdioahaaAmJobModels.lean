/- Jobs by when they are due, in plain Lean. -/
import Derived.Test.YtockeinpdioahaaAmJobs1
import Derived.Test.YtockeinpdioahaaAmKeyModels
import Derived.Test.YtockeinpdioahaaAmMatchModels
import Derived.Test.YtockeinpdioahaaAmRowClr
set_option linter.unusedVariables false
set_option linter.unusedSimpArgs false
namespace YtockeinpdioahaaAM

theorem goodJobs_len {l : List S2} (h : goodJobs l = true) : l.length ≤ 10 := by
  simp [goodJobs] at h; omega
theorem goodJobs_at {l : List S2} (h : goodJobs l = true) {k : Nat} (hk : k < l.length) : (1 ≤ (l.getD k ⟨0, 0⟩).a ∧ (l.getD k ⟨0, 0⟩).a ≤ 100) ∧ (1 ≤ (l.getD k ⟨0, 0⟩).b ∧ (l.getD k ⟨0, 0⟩).b ≤ 1000) := by
  simp only [goodJobs, Bool.and_eq_true, Bool.not_eq_true', List.any_eq_false] at h
  have h1 := h.2 _ (List.getElem_mem hk)
  have h2 : goodJob l[k] = true := by simpa using h1
  rw [getD_get hk]
  simp [goodJob, btw] at h2
  omega
/-- When a job is due, how long it is. -/
def due (l : List S2) (x : Int) : Int := (l.getD x.toNat ⟨0, 0⟩).b
def lng (l : List S2) (x : Int) : Int := (l.getD x.toNat ⟨0, 0⟩).a
theorem due_eq (l : List S2) (x : Int) : (l.getD x.toNat ⟨0, 0⟩).b = due l x := rfl
theorem lng_eq (l : List S2) (x : Int) : (l.getD x.toNat ⟨0, 0⟩).a = lng l x := rfl
theorem job_range {l : List S2} (h : goodJobs l = true) {x : Int} (hx : 0 ≤ x ∧ x < l.length) : (1 ≤ lng l x ∧ lng l x ≤ 100) ∧ (1 ≤ due l x ∧ due l x ≤ 1000) := goodJobs_at h (by omega)
theorem by_parts {key : Int → Int} {x : Int} {s : List Int} {i : Nat} (h : UpK key s) (hi : i ≤ s.length) (h1 : ∀ j, j < i → key (s.getD j 0) ≤ key x) (h2 : i = s.length ∨ key x < key (s.getD i 0)) :
    insK key x s = sub (sub (sub [] 0 0 ++ sub s 0 i) 0 (0 + i) ++ sub [x] 0 1) 0 (0 + i + 1) ++ sub s i (s.length - i) := by
  rw [← put_behind h hi h1 h2]
  have e1 : sub ([] : List Int) 0 0 ++ sub s 0 i = s.take i := by simp [sub]
  have e2 : sub (s.take i) 0 (0 + i) = s.take i := by rw [sub_zero, List.take_of_length_le (by simp; omega)]
  have e3 : sub [x] 0 1 = [x] := rfl
  have e4 : sub (s.take i ++ [x]) 0 (0 + i + 1) = s.take i ++ [x] := by rw [sub_zero, List.take_of_length_le (by simp; omega)]
  have e5 : sub s i (s.length - i) = s.drop i := by rw [sub, List.take_of_length_le (by simp)]
  rw [e1, e2, e3, e4, e5]
/-- All jobs, or some, by when they are due. -/
def byL (l : List S2) (s : List Int) : List Int := sortIK (due l) s
def byA (l : List S2) : List Int := byL l (rangeI l.length)
theorem byL_len (l : List S2) (s : List Int) : (byL l s).length = s.length := sortI_lenK _
theorem byL_mem {l : List S2} {s : List Int} {x : Int} : x ∈ byL l s ↔ x ∈ s := sortI_memK
def bdL (l : List S2) : List Int := if goodJobs l = true then byA l else []
theorem bdL_le (l : List S2) : (bdL l).length ≤ 10 := by
  unfold bdL
  split
  · rename_i h; rw [byA, byL_len, rangeI_length]; exact goodJobs_len h
  · simp
def ofL (l : List S2) (s : List Int) : List Int := if goodJobs l && someB s l.length then byL l s ++ byL l ((rangeI l.length).filter fun x => !hasB s x) else []
def ofOk (l : List S2) (s : List Int) : Bool := goodJobs l && someB s l.length
theorem someB_range {s : List Int} {n : Int} (h : someB s n = true) {k : Nat} (hk : k < s.length) : 0 ≤ s.getD k 0 ∧ s.getD k 0 < n := by
  simp only [someB, List.all_eq_true, List.mem_range] at h
  have := h k hk
  simp only [someOk, Bool.and_eq_true, decide_eq_true_eq] at this
  exact ⟨this.1.1, this.1.2⟩
theorem someB_mem {s : List Int} {n : Int} (h : someB s n = true) {x : Int} (hx : x ∈ s) : 0 ≤ x ∧ x < n := by
  obtain ⟨k, hk, rfl⟩ := List.getElem_of_mem hx
  have := someB_range h hk
  rwa [getD_get hk] at this
theorem someB_rise {s : List Int} {n : Int} (h : someB s n = true) : s.Pairwise (· < ·) := by
  have hs : ∀ k, 0 < k → k < s.length → s.getD (k - 1) 0 < s.getD k 0 := fun k h0 hk => by
    simp only [someB, List.all_eq_true, List.mem_range] at h
    have := h k hk
    simp only [someOk, Bool.and_eq_true, Bool.or_eq_true, decide_eq_true_eq] at this
    rcases this.2 with h2 | h2
    · omega
    · exact h2
  have key : ∀ d i, i + d + 1 < s.length → s.getD i 0 < s.getD (i + d + 1) 0 := by
    intro d
    induction d with
    | zero => intro i hi; have := hs (i + 1) (by omega) (by omega); simpa using this
    | succ d ih =>
      intro i hi
      have h1 := ih i (by omega)
      have h2 := hs (i + (d + 1) + 1) (by omega) hi
      rw [show i + (d + 1) + 1 - 1 = i + d + 1 by omega] at h2
      omega
  rw [List.pairwise_iff_getElem]
  intro i j hi hj hij
  have := key (j - i - 1) i (by omega)
  rw [show i + (j - i - 1) + 1 = j by omega, getD_get hi, getD_get hj] at this
  exact this
theorem someB_len {s : List Int} {n : Nat} (h : someB s n = true) : s.length ≤ n :=
  nod_len n s ((someB_rise h).imp fun h => by omega) fun x hx => someB_mem h hx
theorem rest_le (l : List S2) (s : List Int) : ((rangeI l.length).filter fun x => !hasB s x).length ≤ l.length := by
  have := List.length_filter_le (fun x => !hasB s x) (rangeI l.length)
  rwa [rangeI_length] at this
theorem ofL_le (l : List S2) (s : List Int) : (ofL l s).length ≤ 20 := by
  unfold ofL
  split
  · rename_i h
    simp only [Bool.and_eq_true] at h
    have h1 := goodJobs_len h.1
    have h2 := someB_len h.2
    have h3 := rest_le l s
    rw [List.length_append, byL_len, byL_len]
    omega
  · simp
end YtockeinpdioahaaAM
