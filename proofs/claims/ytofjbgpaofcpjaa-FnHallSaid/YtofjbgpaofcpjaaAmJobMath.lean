/- Orders of jobs: no order has a lesser greatest lateness than that by due times (Jackson), in plain Lean. -/
import Derived.Test.YtofjbgpaofcpjaaAmKeyModels
import Derived.Test.YtofjbgpaofcpjaaAmMatchModels
set_option linter.unusedVariables false
set_option linter.unusedSimpArgs false
namespace YtofjbgpaofcpjaaAM

section
variable (L D : Int → Int)
def sumL (o : List Int) : Int := o.foldr (fun k s => L k + s) 0
/-- The time and the greatest lateness after some jobs. -/
def lateSt (o : List Int) (s : Int × Int) : Int × Int := o.foldl (fun s k => (s.1 + L k, max s.2 (s.1 + L k - D k))) s
def lateM (o : List Int) : Int := (lateSt L D o (0, 0)).2
variable {L D}
theorem sumL_nil : sumL L [] = 0 := rfl
theorem sumL_cons (k : Int) (o : List Int) : sumL L (k :: o) = L k + sumL L o := rfl
theorem sumL_append (a b : List Int) : sumL L (a ++ b) = sumL L a + sumL L b := by
  induction a with
  | nil => simp [sumL_nil]
  | cons k a ih => rw [List.cons_append, sumL_cons, sumL_cons, ih]; omega
theorem sumL_nonneg {o : List Int} (h : ∀ k ∈ o, 0 ≤ L k) : 0 ≤ sumL L o := by
  induction o with
  | nil => exact Int.le_refl _
  | cons k o ih =>
    rw [sumL_cons]
    have := h k (by simp)
    have := ih fun x hx => h x (by simp [hx])
    omega
theorem lateSt_cons (k : Int) (o : List Int) (s : Int × Int) : lateSt L D (k :: o) s = lateSt L D o (s.1 + L k, max s.2 (s.1 + L k - D k)) := rfl
theorem lateSt_mono (o : List Int) : ∀ s : Int × Int, s.2 ≤ (lateSt L D o s).2 := by
  induction o with
  | nil => intro s; exact Int.le_refl _
  | cons k o ih =>
    intro s
    rw [lateSt_cons]
    have := ih (s.1 + L k, max s.2 (s.1 + L k - D k))
    simp only [] at this
    omega
theorem late_ge (a : List Int) (k : Int) (b : List Int) : ∀ s : Int × Int, s.1 + sumL L a + L k - D k ≤ (lateSt L D (a ++ k :: b) s).2 := by
  induction a with
  | nil =>
    intro s
    rw [List.nil_append, lateSt_cons, sumL_nil]
    have := lateSt_mono (L := L) (D := D) b (s.1 + L k, max s.2 (s.1 + L k - D k))
    simp only [] at this
    omega
  | cons x a ih =>
    intro s
    rw [List.cons_append, lateSt_cons, sumL_cons]
    have := ih (s.1 + L x, max s.2 (s.1 + L x - D x))
    simp only [] at this
    omega
theorem late_le (o : List Int) : ∀ (s : Int × Int) (M : Int), s.2 ≤ M → (∀ a k b, o = a ++ k :: b → s.1 + sumL L a + L k - D k ≤ M) → (lateSt L D o s).2 ≤ M := by
  induction o with
  | nil => intro s M h _; exact h
  | cons k o ih =>
    intro s M h h2
    rw [lateSt_cons]
    refine ih _ M ?_ fun a x b e => ?_
    · have := h2 [] k o rfl
      rw [sumL_nil] at this
      simp only []
      omega
    · have := h2 (k :: a) x b (by rw [e]; rfl)
      rw [sumL_cons] at this
      simp only []
      omega
theorem late_at {o a b : List Int} {k : Int} (h : o = a ++ k :: b) : sumL L a + L k - D k ≤ lateM L D o := by
  have := late_ge (L := L) (D := D) a k b (0, 0)
  rw [← h] at this
  simp only [] at this
  unfold lateM; omega
theorem late_max {o : List Int} {M : Int} (h0 : 0 ≤ M) (h : ∀ a k b, o = a ++ k :: b → sumL L a + L k - D k ≤ M) : lateM L D o ≤ M :=
  late_le o (0, 0) M h0 fun a k b e => by have := h a k b e; simp only []; omega
theorem late_nonneg (o : List Int) : 0 ≤ lateM L D o := lateSt_mono (L := L) (D := D) o (0, 0)
theorem sumL_erase {T : List Int} {x : Int} (h : x ∈ T) : sumL L T = L x + sumL L (T.erase x) := by
  induction T with
  | nil => cases h
  | cons y T ih =>
    by_cases e : y = x
    · subst e; simp [sumL_cons]
    · rw [List.erase_cons_tail (by simpa using e), sumL_cons, sumL_cons, ih ((List.mem_cons.1 h).resolve_left fun e2 => e e2.symm)]
      omega
theorem sumL_sub : ∀ (S T : List Int), S.Nodup → (∀ x ∈ S, x ∈ T) → (∀ k ∈ T, 0 ≤ L k) → sumL L S ≤ sumL L T
  | [], T, _, _, h => by rw [sumL_nil]; exact sumL_nonneg h
  | x :: S, T, hn, hs, h => by
    have hx : x ∈ T := hs x (by simp)
    have hn' := List.nodup_cons.1 hn
    rw [sumL_cons, sumL_erase hx]
    have := sumL_sub S (T.erase x) hn'.2 (fun y hy => by
      have hyT := hs y (by simp [hy])
      exact (List.mem_erase_of_ne (fun e : y = x => hn'.1 (by rw [← e]; exact hy))).2 hyT) (fun k hk => h k (List.mem_of_mem_erase hk))
    omega
/-- The last of some in a list. -/
theorem last_of (p : Int → Prop) [DecidablePred p] : ∀ (o : List Int), (∃ x ∈ o, p x) → ∃ a k b, o = a ++ k :: b ∧ p k ∧ ∀ x ∈ b, ¬ p x
  | [], h => by obtain ⟨x, hx, _⟩ := h; cases hx
  | y :: o, h => by
    by_cases h2 : ∃ x ∈ o, p x
    · obtain ⟨a, k, b, e, h3, h4⟩ := last_of p o h2
      exact ⟨y :: a, k, b, by rw [e]; rfl, h3, h4⟩
    · obtain ⟨x, hx, hp⟩ := h
      rcases List.mem_cons.1 hx with rfl | hx
      · exact ⟨[], x, o, rfl, hp, fun z hz hpz => h2 ⟨z, hz, hpz⟩⟩
      · exact absurd ⟨x, hx, hp⟩ h2
/-- By due times the greatest lateness is the least. -/
theorem jackson {E o : List Int} (hE : E.Nodup) (hs : E.Pairwise (fun a b => D a ≤ D b)) (hsub : ∀ x ∈ E, x ∈ o) (hL : ∀ k ∈ o, 0 ≤ L k) : lateM L D E ≤ lateM L D o := by
  refine late_max (late_nonneg o) fun a k b e => ?_
  have hin : ∀ x, x ∈ a ++ [k] → x ∈ E := fun x hx => by
    rw [e]
    rcases List.mem_append.1 hx with h | h
    · exact List.mem_append.2 (.inl h)
    · exact List.mem_append.2 (.inr (by simp at h; simp [h]))
  obtain ⟨a', k', b', e', h1, h2⟩ := last_of (fun x => x ∈ a ++ [k]) o ⟨k, hsub k (hin k (by simp)), by simp⟩
  have hn : (a ++ [k]).Nodup := by
    rw [e, show a ++ k :: b = (a ++ [k]) ++ b by simp] at hE
    exact (List.nodup_append.1 hE).1
  have hsum : sumL L (a ++ [k]) ≤ sumL L (a' ++ [k']) := by
    refine sumL_sub _ _ hn (fun x hx => ?_) fun x hx => hL x ?_
    · have hxo := hsub x (hin x hx)
      rw [e', show a' ++ k' :: b' = (a' ++ [k']) ++ b' by simp] at hxo
      rcases List.mem_append.1 hxo with h | h
      · exact h
      · exact absurd hx (h2 x h)
    · rw [e', show a' ++ k' :: b' = (a' ++ [k']) ++ b' by simp]
      exact List.mem_append.2 (.inl hx)
  have hdue : D k' ≤ D k := by
    rw [e] at hs
    rcases List.mem_append.1 h1 with h | h
    · exact (List.pairwise_append.1 hs).2.2 k' h k (by simp)
    · simp at h; rw [h]; exact Int.le_refl _
  have := late_at (L := L) (D := D) e'
  rw [sumL_append, sumL_append, sumL_cons, sumL_cons, sumL_nil] at hsum
  omega
end
end YtofjbgpaofcpjaaAM
