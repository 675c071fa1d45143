/- What is reached by links, in plain Lean: row by row, and round by round. -/
import Derived.Test.YtafalojjbghlhaaAmLinkModels
import Derived.Test.YtafalojjbghlhaaAmPutModels
set_option linter.unusedVariables false
set_option linter.unusedSimpArgs false
namespace YtafalojjbghlhaaAM

/-! ### What is reached -/
section
variable (l : List S2) (wo : List Int)
abbrev enB (k : Nat) : Bool := !hasB wo (k : Int)
/-- Whatever is closed under the links that are left. -/
def Closed (u : Int) (C : Int → Prop) : Prop := C u ∧ ∀ k, k < l.length → enB wo k = true → C (l.getD k ⟨0, 0⟩).a → C (l.getD k ⟨0, 0⟩).b
def stR (v : Int) (s : List Int) (k : Nat) : List Int := if (l.getD k ⟨0, 0⟩).a = v ∧ enB wo k = true ∧ hasB s (l.getD k ⟨0, 0⟩).b = false then s ++ [(l.getD k ⟨0, 0⟩).b] else s
def rdR (s : List Int) (i : Nat) : List Int := if i < s.length then foldN (stR l wo (s.getD i 0)) s l.length else s
def rcN (u : Int) (i : Nat) : List Int := foldN (rdR l wo) [u] i
def inR (u : Int) (i k : Nat) : List Int := foldN (stR l wo ((rcN l wo u i).getD i 0)) (rcN l wo u i) k
def rcM (u : Int) : List Int := sortI (rcN l wo u 8)
end
section
variable {l : List S2} {wo : List Int} {u : Int}
theorem rcN_zero : rcN l wo u 0 = [u] := rfl
theorem inR_zero (i : Nat) : inR l wo u i 0 = rcN l wo u i := rfl
theorem inR_succ (i k : Nat) : inR l wo u i (k + 1) = stR l wo ((rcN l wo u i).getD i 0) (inR l wo u i k) k := rfl
theorem inR_all {i : Nat} (h : i < (rcN l wo u i).length) : inR l wo u i l.length = rcN l wo u (i + 1) := by
  show _ = rdR l wo (rcN l wo u i) i
  rw [rdR, if_pos h]; rfl
theorem rcN_stop {i : Nat} (h : (rcN l wo u i).length ≤ i) : ∀ d, rcN l wo u (i + d) = rcN l wo u i
  | 0 => rfl
  | d + 1 => by
    have ih := rcN_stop h d
    show rdR l wo (rcN l wo u (i + d)) (i + d) = _
    rw [ih, rdR, if_neg (by omega)]
theorem rc_end {i : Nat} (hi : i ≤ 8) (h : (rcN l wo u i).length ≤ i) : rcN l wo u i = rcN l wo u 8 := by
  have := rcN_stop h (8 - i)
  rw [show i + (8 - i) = 8 by omega] at this
  exact this.symm
structure RcInv (l : List S2) (wo : List Int) (u : Int) (s : List Int) : Prop where
  nodup : s.Nodup
  range : ∀ x ∈ s, 0 ≤ x ∧ x ≤ 7
  head : s[0]? = some u
  low : ∀ C, Closed l wo u C → ∀ x ∈ s, C x
theorem links_at (h : goodLinks l = true) {k : Nat} (hk : k < l.length) : (0 ≤ (l.getD k ⟨0, 0⟩).a ∧ (l.getD k ⟨0, 0⟩).a ≤ 7) ∧ (0 ≤ (l.getD k ⟨0, 0⟩).b ∧ (l.getD k ⟨0, 0⟩).b ≤ 7) ∧ (l.getD k ⟨0, 0⟩).a ≠ (l.getD k ⟨0, 0⟩).b := by
  rw [getD_get hk]; exact goodLink_iff.1 (goodLinks_get h hk)
theorem RcInv.step (hg : goodLinks l = true) {s : List Int} (h : RcInv l wo u s) {i : Nat} {v : Int} (hv : s[i]? = some v) {k : Nat} (hk : k < l.length) : RcInv l wo u (stR l wo v s k) ∧ (stR l wo v s k)[i]? = some v := by
  have hil := (List.getElem?_eq_some_iff.1 hv).1
  unfold stR
  split
  · rename_i hc
    have hg' := links_at hg hk
    refine ⟨⟨?_, ?_, ?_, ?_⟩, by rw [List.getElem?_append_left hil]; exact hv⟩
    · rw [List.nodup_append]
      exact ⟨h.nodup, by simp, fun a ha b hb => by simp at hb; subst hb; intro e; subst e; exact hasB_false.1 hc.2.2 ha⟩
    · intro x hx
      rcases List.mem_append.1 hx with hx | hx
      · exact h.range x hx
      · simp at hx; subst hx; exact hg'.2.1
    · have h0 := (List.getElem?_eq_some_iff.1 h.head).1
      rw [List.getElem?_append_left h0]; exact h.head
    · intro C hC x hx
      rcases List.mem_append.1 hx with hx | hx
      · exact h.low C hC x hx
      · simp only [List.mem_singleton] at hx
        subst hx
        refine hC.2 k hk hc.2.1 ?_
        rw [hc.1]
        exact h.low C hC v (List.mem_of_getElem? hv)
  · exact ⟨h, hv⟩
theorem RcInv.inner (hg : goodLinks l = true) {s : List Int} (h : RcInv l wo u s) {i : Nat} {v : Int} (hv : s[i]? = some v) : ∀ k, k ≤ l.length → RcInv l wo u (foldN (stR l wo v) s k) ∧ (foldN (stR l wo v) s k)[i]? = some v
  | 0, _ => ⟨h, hv⟩
  | k + 1, hk => by
    obtain ⟨h1, h2⟩ := RcInv.inner hg h hv k (by omega)
    exact h1.step hg h2 hk
theorem RcInv.len {s : List Int} (h : RcInv l wo u s) : s.length ≤ 8 := nod_len 8 s h.nodup fun x hx => by have := h.range x hx; omega
theorem RcInv.outer (hg : goodLinks l = true) (hu : 0 ≤ u ∧ u ≤ 7) : ∀ i, RcInv l wo u (rcN l wo u i)
  | 0 => ⟨by rw [rcN_zero]; simp, fun x hx => by rw [rcN_zero] at hx; simp at hx; subst hx; exact hu, rfl, fun C hC x hx => by rw [rcN_zero] at hx; simp at hx; subst hx; exact hC.1⟩
  | i + 1 => by
    have ih := RcInv.outer hg hu i
    show RcInv l wo u (rdR l wo (rcN l wo u i) i)
    unfold rdR
    split
    · rename_i hlt
      exact (ih.inner hg (v := (rcN l wo u i).getD i 0) (by rw [List.getElem?_eq_getElem hlt, getD_get hlt]) l.length (Nat.le_refl _)).1
    · exact ih
theorem inR_inv (hg : goodLinks l = true) (hu : 0 ≤ u ∧ u ≤ 7) {i : Nat} (hi : i < (rcN l wo u i).length) {k : Nat} (hk : k ≤ l.length) :
    RcInv l wo u (inR l wo u i k) ∧ i < (inR l wo u i k).length ∧ (inR l wo u i k).getD i 0 = (rcN l wo u i).getD i 0 := by
  obtain ⟨h1, h2⟩ := (RcInv.outer (wo := wo) hg hu i).inner hg (v := (rcN l wo u i).getD i 0) (by rw [List.getElem?_eq_getElem hi, getD_get hi]) k hk
  have h3 : i < (inR l wo u i k).length := (List.getElem?_eq_some_iff.1 h2).1
  refine ⟨h1, h3, ?_⟩
  have e : (inR l wo u i k)[i]? = some ((rcN l wo u i).getD i 0) := h2
  rw [getD_get h3]
  rw [List.getElem?_eq_getElem h3] at e
  exact Option.some.inj e
/-- It only grows. -/
theorem stR_sub {v x : Int} {s : List Int} {k : Nat} (h : x ∈ s) : x ∈ stR l wo v s k := by
  unfold stR; split
  · exact List.mem_append.2 (.inl h)
  · exact h
theorem inner_sub {v x : Int} {s : List Int} (h : x ∈ s) : ∀ k, x ∈ foldN (stR l wo v) s k
  | 0 => h
  | k + 1 => stR_sub (inner_sub h k)
theorem inner_mono {v x : Int} {s : List Int} {j : Nat} : ∀ k, j ≤ k → x ∈ foldN (stR l wo v) s j → x ∈ foldN (stR l wo v) s k
  | 0, hj, h => by have : j = 0 := by omega
                   subst this; exact h
  | k + 1, hj, h => by
    rcases Nat.lt_or_ge k j with hc | hc
    · have : j = k + 1 := by omega
      subst this; exact h
    · exact stR_sub (inner_mono k hc h)
theorem inner_got {v : Int} {s : List Int} {j : Nat} (hj : j < l.length) (ha : (l.getD j ⟨0, 0⟩).a = v) (he : enB wo j = true) : (l.getD j ⟨0, 0⟩).b ∈ foldN (stR l wo v) s l.length := by
  refine inner_mono (j := j + 1) l.length hj ?_
  show _ ∈ stR l wo v (foldN (stR l wo v) s j) j
  unfold stR
  split
  · simp
  · rename_i h
    cases hq : hasB (foldN (stR l wo v) s j) (l.getD j ⟨0, 0⟩).b with
    | true => exact hasB_iff.1 hq
    | false => exact absurd ⟨ha, he, hq⟩ h
theorem rc_sub {x : Int} {i : Nat} (h : x ∈ rcN l wo u i) : x ∈ rcN l wo u (i + 1) := by
  show x ∈ rdR l wo (rcN l wo u i) i
  unfold rdR; split
  · exact inner_sub h _
  · exact h
/-- What comes of the i-th node stays. -/
theorem rc_got (hg : goodLinks l = true) (hu : 0 ≤ u ∧ u ≤ 7) : ∀ i j k, j < i → j < (rcN l wo u i).length → k < l.length → enB wo k = true → (l.getD k ⟨0, 0⟩).a = (rcN l wo u i).getD j 0 → (l.getD k ⟨0, 0⟩).b ∈ rcN l wo u i
  | 0, j, k, h, _, _, _, _ => by omega
  | i + 1, j, k, hj, hjl, hk, he, ha => by
    have hI := RcInv.outer (wo := wo) hg hu i
    have e1 : rcN l wo u (i + 1) = rdR l wo (rcN l wo u i) i := rfl
    rcases Nat.lt_or_ge i (rcN l wo u i).length with hi | hi
    · have hA := inR_inv (wo := wo) hg hu hi (Nat.le_refl _)
      have hK := inR_all hi
      rcases Nat.lt_or_ge j i with hc | hc
      · -- an earlier one
        have hpre : ∀ k, k ≤ l.length → (inR l wo u i k)[j]? = (rcN l wo u i)[j]? := fun k hk' => by
          have := ((hI.inner hg (i := j) (v := (rcN l wo u i).getD j 0) (by rw [List.getElem?_eq_getElem (by omega), getD_get (by omega)]) 0 (by omega)).2)
          induction k with
          | zero => rfl
          | succ k ih =>
            have ih := ih (by omega)
            rw [inR_succ]
            unfold stR
            split
            · rw [List.getElem?_append_left]
              · exact ih
              · have : (inR l wo u i k)[j]? = some ((rcN l wo u i)[j]'(by omega)) := by rw [ih, List.getElem?_eq_getElem (by omega)]
                exact (List.getElem?_eq_some_iff.1 this).1
            · exact ih
        have e2 : (rcN l wo u (i + 1)).getD j 0 = (rcN l wo u i).getD j 0 := by
          rw [← hK, List.getD_eq_getElem?_getD, hpre l.length (Nat.le_refl _), ← List.getD_eq_getElem?_getD]
        exact rc_sub (rc_got hg hu i j k hc (by omega) hk he (by rw [ha, e2]))
      · have : j = i := by omega
        subst this
        have e2 : (rcN l wo u (j + 1)).getD j 0 = (rcN l wo u j).getD j 0 := by rw [← hK]; exact hA.2.2
        rw [← hK]
        exact inner_got hk (by rw [ha, e2]) he
    · have e2 : rcN l wo u (i + 1) = rcN l wo u i := by rw [e1, rdR, if_neg (by omega)]
      rw [e2] at ha hjl ⊢
      exact rc_got hg hu i j k (by omega) hjl hk he ha
theorem rc_closed (hg : goodLinks l = true) (hu : 0 ≤ u ∧ u ≤ 7) : Closed l wo u (fun x => x ∈ rcN l wo u 8) := by
  have hI := RcInv.outer (wo := wo) hg hu 8
  refine ⟨List.mem_of_getElem? hI.head, fun k hk he ha => ?_⟩
  obtain ⟨j, hj, e⟩ := List.getElem_of_mem ha
  have := hI.len
  exact rc_got hg hu 8 j k (by omega) hj hk he (by rw [getD_get hj]; exact e.symm)

/-! ### Round by round -/
def stS (l : List S2) (wo : List Int) (s : List Int) (k : Nat) : List Int := if enB wo k = true ∧ hasB s (l.getD k ⟨0, 0⟩).a = true then putL (l.getD k ⟨0, 0⟩).b s else s
def psN (l : List S2) (wo : List Int) (s : List Int) (k : Nat) : List Int := foldN (stS l wo) s k
def rsN (l : List S2) (wo : List Int) (u : Int) (i : Nat) : List Int := foldN (fun s _ => psN l wo s l.length) [u] i
theorem psN_zero (s : List Int) : psN l wo s 0 = s := rfl
theorem psN_succ (s : List Int) (k : Nat) : psN l wo s (k + 1) = if enB wo k = true ∧ hasB (psN l wo s k) (l.getD k ⟨0, 0⟩).a = true then putL (l.getD k ⟨0, 0⟩).b (psN l wo s k) else psN l wo s k := rfl
theorem rsN_zero : rsN l wo u 0 = [u] := rfl
theorem rsN_succ (i : Nat) : rsN l wo u (i + 1) = psN l wo (rsN l wo u i) l.length := rfl
structure RsInv (l : List S2) (wo : List Int) (u : Int) (s : List Int) : Prop where
  rise : Rise s
  range : ∀ x ∈ s, 0 ≤ x ∧ x ≤ 7
  head : u ∈ s
  low : ∀ C, Closed l wo u C → ∀ x ∈ s, C x
theorem RsInv.len {s : List Int} (h : RsInv l wo u s) : s.length ≤ 8 := nod_len 8 s (h.rise.imp fun h => by omega) fun x hx => by have := h.range x hx; omega
theorem RsInv.step (hg : goodLinks l = true) {s : List Int} (h : RsInv l wo u s) {k : Nat} (hk : k < l.length) : RsInv l wo u (stS l wo s k) := by
  unfold stS
  split
  · rename_i hc
    have hg' := links_at hg hk
    refine ⟨putL_rise h.rise, fun x hx => ?_, putL_mem.2 (.inr h.head), fun C hC x hx => ?_⟩
    · rcases putL_mem.1 hx with rfl | hx
      · exact hg'.2.1
      · exact h.range x hx
    · rcases putL_mem.1 hx with rfl | hx
      · exact hC.2 k hk hc.1 (h.low C hC _ (hasB_iff.1 hc.2))
      · exact h.low C hC x hx
  · exact h
theorem RsInv.pass (hg : goodLinks l = true) {s : List Int} (h : RsInv l wo u s) : ∀ k, k ≤ l.length → RsInv l wo u (psN l wo s k)
  | 0, _ => h
  | k + 1, hk => (RsInv.pass hg h k (by omega)).step hg hk
theorem RsInv.round (hg : goodLinks l = true) (hu : 0 ≤ u ∧ u ≤ 7) : ∀ i, RsInv l wo u (rsN l wo u i)
  | 0 => ⟨by rw [rsN_zero]; exact List.pairwise_singleton _ _, fun x hx => by rw [rsN_zero] at hx; simp at hx; subst hx; exact hu, by rw [rsN_zero]; simp, fun C hC x hx => by rw [rsN_zero] at hx; simp at hx; subst hx; exact hC.1⟩
  | i + 1 => by rw [rsN_succ]; exact (RsInv.round hg hu i).pass hg _ (Nat.le_refl _)
theorem psN_len (s : List Int) : ∀ k j, k ≤ j → (psN l wo s k).length ≤ (psN l wo s j).length
  | k, 0, h => by have : k = 0 := by omega
                  subst this; exact Nat.le_refl _
  | k, j + 1, h => by
    rcases Nat.lt_or_ge k (j + 1) with hc | hc
    · have ih := psN_len s k j (by omega)
      rw [psN_succ]
      split
      · have := putL_len (l.getD j ⟨0, 0⟩).b (psN l wo s j); omega
      · exact ih
    · have : k = j + 1 := by omega
      subst this; exact Nat.le_refl _
/-- A round that brings nothing. -/
theorem ps_still {s : List Int} (h : (psN l wo s l.length).length = s.length) : ∀ k, k ≤ l.length → psN l wo s k = s ∧ (∀ j, j < k → enB wo j = true → (l.getD j ⟨0, 0⟩).a ∈ s → (l.getD j ⟨0, 0⟩).b ∈ s)
  | 0, _ => ⟨rfl, fun j hj => by omega⟩
  | k + 1, hk => by
    obtain ⟨h1, h2⟩ := ps_still h k (by omega)
    have hl := psN_len (l := l) (wo := wo) s (k + 1) l.length hk
    have hl0 := psN_len (l := l) (wo := wo) s 0 (k + 1) (by omega)
    rw [psN_zero] at hl0
    rw [psN_succ, h1] at hl hl0 ⊢
    by_cases hc : enB wo k = true ∧ hasB s (l.getD k ⟨0, 0⟩).a = true
    · rw [if_pos hc] at hl hl0 ⊢
      have hs := putL_same (n := (l.getD k ⟨0, 0⟩).b) (l := s) (by omega)
      refine ⟨by rw [putL, if_pos hs], fun j hj he ha => ?_⟩
      rcases Nat.lt_or_ge j k with hjk | hjk
      · exact h2 j hjk he ha
      · have : j = k := by omega
        subst this; exact hasB_iff.1 hs
    · rw [if_neg hc]
      refine ⟨rfl, fun j hj he ha => ?_⟩
      rcases Nat.lt_or_ge j k with hjk | hjk
      · exact h2 j hjk he ha
      · have : j = k := by omega
        subst this; exact absurd ⟨he, hasB_iff.2 ha⟩ hc
/-- Both ways come to the same. -/
theorem rs_eq (hg : goodLinks l = true) (hu : 0 ≤ u ∧ u ≤ 7) {i : Nat} (h : (psN l wo (rsN l wo u i) l.length).length = (rsN l wo u i).length) : psN l wo (rsN l wo u i) l.length = rcM l wo u := by
  have hI := RsInv.round (wo := wo) hg hu i
  have hQ := RcInv.outer (wo := wo) hg hu 8
  obtain ⟨h1, h2⟩ := ps_still h l.length (Nat.le_refl _)
  rw [h1]
  have hC : Closed l wo u (fun x => x ∈ rsN l wo u i) := ⟨hI.head, fun k hk he ha => h2 k hk he ha⟩
  refine rise_eq hI.rise (sortI_rise hQ.nodup) fun x => ?_
  rw [rcM, sortI_mem]
  exact ⟨fun hx => hI.low _ (rc_closed hg hu) x hx, fun hx => hQ.low _ hC x hx⟩
theorem rs_grows (hg : goodLinks l = true) (hu : 0 ≤ u ∧ u ≤ 7) : ∀ i, (∀ j, j < i → (psN l wo (rsN l wo u j) l.length).length ≠ (rsN l wo u j).length) → i + 1 ≤ (rsN l wo u i).length
  | 0, _ => by rw [rsN_zero]; simp
  | i + 1, h => by
    have ih := rs_grows hg hu i (fun j hj => h j (by omega))
    have h1 := h i (by omega)
    have h2 := psN_len (l := l) (wo := wo) (rsN l wo u i) 0 l.length (by omega)
    rw [psN_zero] at h2
    rw [rsN_succ]
    omega
theorem rs_bound (hg : goodLinks l = true) (hu : 0 ≤ u ∧ u ≤ 7) {i : Nat} (h : ∀ j, j < i → (psN l wo (rsN l wo u j) l.length).length ≠ (rsN l wo u j).length) : i ≤ 7 := by
  have := rs_grows (wo := wo) hg hu i h
  have := (RsInv.round (wo := wo) hg hu i).len
  omega
def rbOk (l : List S2) (u : Int) (wo : List Int) : Bool := goodLinks l && btw 0 7 u && someB wo l.length
def rbL (l : List S2) (u : Int) (wo : List Int) : List Int := if rbOk l u wo = true then rcM l wo u else []
theorem rbL_le (l : List S2) (u : Int) (wo : List Int) : (rbL l u wo).length ≤ 8 := by
  unfold rbL
  split
  · rename_i h
    simp only [rbOk, Bool.and_eq_true, btw_iff] at h
    rw [rcM, sortI_len]
    exact (RcInv.outer (wo := wo) h.1.1 h.1.2 8).len
  · simp
end
end YtafalojjbghlhaaAM
