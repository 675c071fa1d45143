/- Who would be paired with whom, in plain Lean. -/
import Derived.Test.YtofjbgpaofcpjaaAmRowModels
set_option linter.unusedVariables false
set_option linter.unusedSimpArgs false
namespace YtofjbgpaofcpjaaAM

abbrev pV (id : Nat) (n m : Int) (ll : List (List Int)) : AV := .agg [.int .i64 n, .int .i64 m, .slice ⟨id, 0, 0, 1, 0⟩ ll.length]
def goodP (n m : Int) (ll : List (List Int)) : Bool := btw 1 8 n && btw 1 8 m && decide ((ll.length : Int) = n) && !ll.any (fun w => !someB w m)
theorem goodP_iff {n m : Int} {ll : List (List Int)} : goodP n m ll = true ↔ (1 ≤ n ∧ n ≤ 8) ∧ (1 ≤ m ∧ m ≤ 8) ∧ (ll.length : Int) = n ∧ ∀ w ∈ ll, someB w m = true := by
  simp [goodP, btw, and_assoc]
theorem goodP_row {n m : Int} {ll : List (List Int)} (h : goodP n m ll = true) {k : Nat} (hk : k < ll.length) : someB (ll.getD k []) m = true := by
  rw [getD_get hk]; exact (goodP_iff.1 h).2.2.2 _ (List.getElem_mem hk)
theorem leftSS_neg {ll : List (List Int)} {n : Int} (hn : n ≤ 1048576) (h : leftSS ll n < 0) : leftSS ll n = -1 := by
  have := (leftN_range (ll := ll) hn ll.length).1
  have e : leftSS ll n = leftN ll n ll.length := rfl
  omega
/-! ### Covers and matches -/
def coverAt (ll : List (List Int)) (lf rt : List Int) (k : Nat) : Bool := hasB lf (k : Int) || !(ll.getD k []).any (fun x => !hasB rt x)
def coverB (ll : List (List Int)) (lf rt : List Int) : Bool := (List.range ll.length).all (coverAt ll lf rt)
def coverOk (n m : Int) (ll : List (List Int)) (lf rt : List Int) : Bool := goodP n m ll && someB lf n && someB rt m
def isCover (n m : Int) (ll : List (List Int)) (lf rt : List Int) : Bool := coverOk n m ll lf rt && coverB ll lf rt
def matchAt (ll : List (List Int)) (mt : List Int) (k : Nat) : Bool := decide (mt.getD k 0 = -1) || (hasB (ll.getD k []) (mt.getD k 0) && !hasB (mt.take k) (mt.getD k 0))
def matchB (ll : List (List Int)) (mt : List Int) : Bool := (List.range mt.length).all (matchAt ll mt)
def matchOk (n m : Int) (ll : List (List Int)) (mt : List Int) : Bool := goodP n m ll && decide ((mt.length : Int) = n)
def isMatch (n m : Int) (ll : List (List Int)) (mt : List Int) : Bool := matchOk n m ll mt && matchB ll mt
theorem goodP_len {n m : Int} {ll : List (List Int)} (h : goodP n m ll = true) : (ll.length : Int) = n ∧ 1 ≤ n ∧ n ≤ 8 ∧ 1 ≤ m ∧ m ≤ 8 := by
  have := goodP_iff.1 h
  omega
end YtofjbgpaofcpjaaAM
