/- What the functions on pipes compute, in plain Lean. -/
import Derived.Test.YtafalojjbghlhaaAmModels
set_option linter.unusedVariables false
set_option linter.unusedSimpArgs false
namespace YtafalojjbghlhaaAM

/-- A pipe that may be. -/
def goodPipe (r : S3) : Bool := btw 0 7 r.a && btw 0 7 r.b && decide (r.a ≠ r.b) && btw 0 100 r.c
def goodPipes (l : List S3) : Bool := decide (l.length ≤ 20) && !l.any (fun r => !goodPipe r)
theorem goodPipe_iff {r : S3} : goodPipe r = true ↔ (0 ≤ r.a ∧ r.a ≤ 7) ∧ (0 ≤ r.b ∧ r.b ≤ 7) ∧ r.a ≠ r.b ∧ (0 ≤ r.c ∧ r.c ≤ 100) := by
  simp [goodPipe, btw, and_assoc]
theorem goodPipes_len {l : List S3} (h : goodPipes l = true) : l.length ≤ 20 := by
  simp [goodPipes] at h; omega
theorem goodPipes_get {l : List S3} (h : goodPipes l = true) {k : Nat} (hk : k < l.length) : goodPipe l[k] = true := by
  simp only [goodPipes, Bool.and_eq_true, Bool.not_eq_true', List.any_eq_false] at h
  have := h.2 _ (List.getElem_mem hk)
  simpa using this

def cutStep (side : List Int) (n : Int) (p : S3) : Int := if hasB side p.a = true ∧ hasB side p.b = false then n + p.c else n
def cutM (l : List S3) (side : List Int) : Int := foldTo (cutStep side) 0 l l.length
theorem cutTo_range {l : List S3} (hg : goodPipes l = true) (side : List Int) : ∀ k, k ≤ l.length → 0 ≤ foldTo (cutStep side) 0 l k ∧ foldTo (cutStep side) 0 l k ≤ 100 * (k : Int)
  | 0, _ => by rw [foldTo_zero]; simp
  | k + 1, hk => by
    have ih := cutTo_range hg side k (by omega)
    have hp := goodPipe_iff.1 (goodPipes_get hg (k := k) (by omega))
    rw [foldTo_succ _ _ _ (by omega), cutStep]
    split <;> push_cast <;> omega
def cutOk (l : List S3) (side : List Int) : Bool := goodPipes l && someB side 8
def cutSz (l : List S3) (side : List Int) : Int := if cutOk l side then cutM l side else 0

/-! ### Flows -/
abbrev z3 : S3 := ⟨0, 0, 0⟩
theorem goodPipes_at {l : List S3} (h : goodPipes l = true) {k : Nat} (hk : k < l.length) :
    (0 ≤ (l.getD k ⟨0, 0, 0⟩).a ∧ (l.getD k ⟨0, 0, 0⟩).a ≤ 7) ∧ (0 ≤ (l.getD k ⟨0, 0, 0⟩).b ∧ (l.getD k ⟨0, 0, 0⟩).b ≤ 7) ∧ (l.getD k ⟨0, 0, 0⟩).a ≠ (l.getD k ⟨0, 0, 0⟩).b ∧ 0 ≤ (l.getD k ⟨0, 0, 0⟩).c ∧ (l.getD k ⟨0, 0, 0⟩).c ≤ 100 := by
  rw [getD_get hk]; exact goodPipe_iff.1 (goodPipes_get h hk)
/-- Number j is within pipe j's cap. -/
def capB (l : List S3) (fl : List Int) (j : Nat) : Bool := btw 0 (l.getD j ⟨0, 0, 0⟩).c (fl.getD j 0)
theorem capB_iff {l : List S3} {fl : List Int} {j : Nat} : capB l fl j = true ↔ 0 ≤ fl.getD j 0 ∧ fl.getD j 0 ≤ (l.getD j ⟨0, 0, 0⟩).c := btw_iff
def outStep (l : List S3) (fl : List Int) (n : Int) (s : Int) (j : Nat) : Int :=
  if (l.getD j ⟨0, 0, 0⟩).b = n then (if (l.getD j ⟨0, 0, 0⟩).a = n then s + fl.getD j 0 else s) - fl.getD j 0 else if (l.getD j ⟨0, 0, 0⟩).a = n then s + fl.getD j 0 else s
/-- How much more goes out of a node than comes in, by the first k pipes. -/
def outN (l : List S3) (fl : List Int) (n : Int) (k : Nat) : Int := foldN (outStep l fl n) 0 k
def outM (l : List S3) (fl : List Int) (n : Int) : Int := outN l fl n l.length
theorem outN_succ (l : List S3) (fl : List Int) (n : Int) (k : Nat) : outN l fl n (k + 1) = outStep l fl n (outN l fl n k) k := rfl
theorem out_range {l : List S3} {fl : List Int} (hg : goodPipes l = true) (n : Int) : ∀ k, AllTo (capB l fl) l.length k → -(100 * (k : Int)) ≤ outN l fl n k ∧ outN l fl n k ≤ 100 * (k : Int)
  | 0, _ => by simp [outN, foldN]
  | k + 1, h => by
    have ih := out_range hg n k ⟨by have := h.1; omega, fun j hj => h.2 j (by omega)⟩
    have hk : k < l.length := h.1
    have hp := goodPipes_at hg hk
    have hc := capB_iff.1 (h.2 k (by omega))
    rw [outN_succ, outStep]
    split <;> split <;> push_cast <;> omega
def moreStep (l : List S3) (fl : List Int) (m : List Int) (j : Nat) : List Int :=
  (m.set (l.getD j ⟨0, 0, 0⟩).a.toNat (m.getD (l.getD j ⟨0, 0, 0⟩).a.toNat 0 - fl.getD j 0)).set (l.getD j ⟨0, 0, 0⟩).b.toNat
    ((m.set (l.getD j ⟨0, 0, 0⟩).a.toNat (m.getD (l.getD j ⟨0, 0, 0⟩).a.toNat 0 - fl.getD j 0)).getD (l.getD j ⟨0, 0, 0⟩).b.toNat 0 + fl.getD j 0)
def moreN (l : List S3) (fl : List Int) (k : Nat) : List Int := foldN (moreStep l fl) (List.replicate 8 0) k
theorem more_len (l : List S3) (fl : List Int) : ∀ k, (moreN l fl k).length = 8
  | 0 => by simp [moreN, foldN]
  | k + 1 => by show (moreStep l fl (moreN l fl k) k).length = 8; simp [moreStep, more_len l fl k]
theorem more_at {l : List S3} {fl : List Int} (hg : goodPipes l = true) : ∀ k, k ≤ l.length → ∀ n, n < 8 → (moreN l fl k).getD n 0 = -outN l fl n k
  | 0, _, n, hn => by
    have : ∀ n, n < 8 → (List.replicate 8 (0 : Int)).getD n 0 = 0 := by decide
    simp only [moreN, foldN, outN, this n hn]; rfl
  | k + 1, hk, n, hn => by
    have ih := more_at (fl := fl) hg k (by omega)
    have hp := goodPipes_at hg (k := k) (by omega)
    have hl := more_len l fl k
    have e1 : ((l.getD k ⟨0, 0, 0⟩).a.toNat = n) ↔ (l.getD k ⟨0, 0, 0⟩).a = n := by omega
    have e2 : ((l.getD k ⟨0, 0, 0⟩).b.toNat = n) ↔ (l.getD k ⟨0, 0, 0⟩).b = n := by omega
    have e3 : ¬ (l.getD k ⟨0, 0, 0⟩).a.toNat = (l.getD k ⟨0, 0, 0⟩).b.toNat := by omega
    show (moreStep l fl (moreN l fl k) k).getD n 0 = _
    rw [outN_succ, outStep, moreStep, getD_setI (by rw [List.length_set, hl]; omega), getD_setI (by rw [hl]; omega), getD_setI (by rw [hl]; omega), if_neg e3]
    have ha := ih (l.getD k ⟨0, 0, 0⟩).a.toNat (by omega)
    have hb := ih (l.getD k ⟨0, 0, 0⟩).b.toNat (by omega)
    have hn' := ih n hn
    rw [Int.toNat_of_nonneg (by omega)] at ha hb
    by_cases c1 : (l.getD k ⟨0, 0, 0⟩).b = n
    · rw [if_pos (e2.2 c1), if_pos c1, if_neg (by omega), hb, c1]; omega
    · rw [if_neg (fun h => c1 (e2.1 h)), if_neg c1]
      by_cases c2 : (l.getD k ⟨0, 0, 0⟩).a = n
      · rw [if_pos (e1.2 c2), if_pos c2, ha, c2]; omega
      · rw [if_neg (fun h => c2 (e1.1 h)), if_neg c2]; exact hn'
theorem more_range {l : List S3} {fl : List Int} (hg : goodPipes l = true) {k : Nat} (h : AllTo (capB l fl) l.length k) {n : Nat} (hn : n < 8) : -2000 ≤ (moreN l fl k).getD n 0 ∧ (moreN l fl k).getD n 0 ≤ 2000 := by
  rw [more_at hg k h.1 n hn]
  have := out_range hg n k h
  have := goodPipes_len hg
  have := h.1
  omega
/-- Nothing stays in a node but in two. -/
def nodeB (l : List S3) (from' to' : Int) (fl : List Int) (n : Nat) : Bool := decide ((n : Int) = from') || decide ((n : Int) = to') || decide (outM l fl n = 0)
def isB (l : List S3) (from' to' : Int) (fl : List Int) : Bool := (List.range l.length).all (capB l fl) && (List.range 8).all (nodeB l from' to' fl)
def askB (l : List S3) (from' to' : Int) : Bool := goodPipes l && btw 0 7 from' && btw 0 7 to' && decide (from' ≠ to')
def flowOk (l : List S3) (from' to' : Int) (fl : List Int) : Bool := askB l from' to' && decide (fl.length = l.length)
def isFl (l : List S3) (from' to' : Int) (fl : List Int) : Bool := flowOk l from' to' fl && isB l from' to' fl
def flowM (l : List S3) (from' to' : Int) (fl : List Int) : Int := if isFl l from' to' fl then outM l fl from' else 0
theorem isFl_spec {l : List S3} {from' to' : Int} {fl : List Int} (h : isFl l from' to' fl = true) : goodPipes l = true ∧ (0 ≤ from' ∧ from' ≤ 7) ∧ (0 ≤ to' ∧ to' ≤ 7) ∧ from' ≠ to' ∧ fl.length = l.length ∧ AllTo (capB l fl) l.length l.length ∧ ∀ n, n < 8 → nodeB l from' to' fl n = true := by
  simp only [isFl, flowOk, askB, isB, Bool.and_eq_true, decide_eq_true_eq, btw_iff, List.all_eq_true, List.mem_range] at h
  obtain ⟨⟨⟨⟨⟨h1, h2⟩, h3⟩, h4⟩, h5⟩, h6, h7⟩ := h
  exact ⟨h1, h2, h3, h4, h5, ⟨Nat.le_refl _, h6⟩, h7⟩
end YtafalojjbghlhaaAM
