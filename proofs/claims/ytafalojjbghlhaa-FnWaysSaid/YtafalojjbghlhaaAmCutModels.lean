/- A least cut: what is reached when a greatest flow flows. -/
import Derived.Test.YtafalojjbghlhaaAmFlowModels
import Derived.Test.YtafalojjbghlhaaAmSortModels
set_option linter.unusedVariables false
set_option linter.unusedSimpArgs false
namespace YtafalojjbghlhaaAM

/-- The nodes, of the first k, that were reached. -/
def sideN (b : List Int) (k : Nat) : List Int := foldN (fun out j => if b.getD j 0 = -1 then out else out ++ [(j : Int)]) [] k
theorem sideN_zero (b : List Int) : sideN b 0 = [] := rfl
theorem sideN_succ (b : List Int) (k : Nat) : sideN b (k + 1) = if b.getD k 0 = -1 then sideN b k else sideN b k ++ [(k : Int)] := rfl
theorem sideN_mem {b : List Int} {x : Int} : ∀ k, x ∈ sideN b k ↔ ∃ j : Nat, j < k ∧ x = j ∧ b.getD j 0 ≠ -1
  | 0 => by simp [sideN_zero]
  | k + 1 => by
    have ih := sideN_mem (b := b) (x := x) k
    rw [sideN_succ]
    split
    · rename_i h
      rw [ih]
      constructor
      · rintro ⟨j, h1, h2, h3⟩; exact ⟨j, by omega, h2, h3⟩
      · rintro ⟨j, h1, h2, h3⟩
        rcases Nat.lt_or_ge j k with hc | hc
        · exact ⟨j, hc, h2, h3⟩
        · have : j = k := by omega
          subst this; exact absurd h h3
    · rename_i h
      rw [List.mem_append, ih, List.mem_singleton]
      constructor
      · rintro (⟨j, h1, h2, h3⟩ | rfl)
        · exact ⟨j, by omega, h2, h3⟩
        · exact ⟨k, by omega, rfl, h⟩
      · rintro ⟨j, h1, h2, h3⟩
        rcases Nat.lt_or_ge j k with hc | hc
        · exact .inl ⟨j, hc, h2, h3⟩
        · have : j = k := by omega
          subst this; exact .inr h2
theorem sideN_rise (b : List Int) : ∀ k, (sideN b k).Pairwise (· < ·)
  | 0 => by rw [sideN_zero]; exact List.Pairwise.nil
  | k + 1 => by
    have ih := sideN_rise b k
    rw [sideN_succ]
    split
    · exact ih
    · rw [List.pairwise_append]
      refine ⟨ih, by simp, fun a ha c hc => ?_⟩
      obtain ⟨j, h1, h2, _⟩ := (sideN_mem k).1 ha
      simp at hc; omega
theorem sideN_len (b : List Int) : ∀ k, (sideN b k).length ≤ k
  | 0 => by rw [sideN_zero]; exact Nat.le_refl _
  | k + 1 => by
    have := sideN_len b k
    rw [sideN_succ]; split <;> simp <;> omega
/-- The side of a least cut. -/
def sideM (l : List S3) (u t : Int) : List Int := sortI (srch l (grM l u t) u).1
theorem side_eq {l : List S3} {u t : Int} (hg : goodPipes l = true) (hu : 0 ≤ u ∧ u ≤ 7) : sideN (byOf u (srch l (grM l u t) u)) 8 = sideM l u t := by
  have hi := srch_inv (grM l u t) hg hu
  refine rise_eq (sideN_rise _ 8) (sortI_rise hi.nodup) fun x => ?_
  rw [sideN_mem, sideM, sortI_mem]
  constructor
  · rintro ⟨j, h1, rfl, h3⟩
    have := hi.by_none (x := (j : Int)) ⟨by omega, by omega⟩
    rw [Int.toNat_natCast] at this
    cases hb : hasB (srch l (grM l u t) u).1 j with
    | true => exact hasB_iff.1 hb
    | false => exact absurd (this.2 hb) h3
  · intro hx
    have hr := hi.range x hx
    refine ⟨x.toNat, by omega, by omega, fun e => ?_⟩
    have := (hi.by_none hr).1 e
    rw [hasB_iff.2 hx] at this; cases this
theorem side_len {l : List S3} {u t : Int} (hg : goodPipes l = true) (hu : 0 ≤ u ∧ u ≤ 7) : (sideM l u t).length ≤ 8 := by
  rw [sideM, sortI_len]; exact (srch_inv (grM l u t) hg hu).len
def mcL (l : List S3) (u t : Int) : List Int := if askB l u t = true then sideM l u t else []
def mcN (l : List S3) (u t : Int) : Int := if askB l u t = true then cutM l (sideM l u t) else 0
theorem mcL_le (l : List S3) (u t : Int) : (mcL l u t).length ≤ 8 := by
  unfold mcL
  split
  · rename_i h
    have := askB_spec h
    exact side_len this.1 this.2.1
  · simp
end YtafalojjbghlhaaAM
