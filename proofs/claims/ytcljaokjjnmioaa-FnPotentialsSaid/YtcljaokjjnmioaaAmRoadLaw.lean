/- What the laws on roads ask of the costs. -/
import Derived.Test.YtcljaokjjnmioaaAmRoads7
set_option linter.unusedVariables false
set_option linter.unusedSimpArgs false
namespace YtcljaokjjnmioaaAM
section
variable {l : List S3}
theorem ac_row (h : fine l = true) {a : Nat} (ha : a < 8) : (acOf l).getD a [] = costFrom l a := by
  rw [acOf_eq h, acN, List.getD_eq_getElem?_getD, List.getElem?_map, List.getElem?_range ha]; rfl
theorem cf_zero (h : fine l = true) {a : Nat} (ha : a < 8) : (costFrom l a).getD a 0 = 0 := by
  have hL := cf_least h ha
  have h1 := hL.knows 0 a 0 (HasWay.nil _ _)
  have h2 : cAt (costFrom l a) (a : Int) = (costFrom l a).getD a 0 := by unfold cAt; rw [Int.toNat_natCast]
  rw [← h2]
  rcases hL.from'.way a (by omega) (by omega) with h3 | ⟨n, _, hw⟩
  · rw [h3] at h1; unfold Far at h1; omega
  · have := (pot_feas h).1.way hw
    omega
theorem cf_edge (h : fine l = true) {a : Nat} (ha : a < 8) {r : S3} (hr : r ∈ l) (hc : (costFrom l a).getD r.a.toNat 0 < 1000000000) : (costFrom l a).getD r.b.toNat 0 ≤ (costFrom l a).getD r.a.toNat 0 + r.c := by
  have hL := cf_least h ha
  have hg := goodRoads_mem (fine_good h) hr
  rcases hL.from'.way r.a hg.1.1 hg.1.2 with h3 | ⟨n, _, hw⟩
  · unfold cAt Far at h3; omega
  · exact hL.knows _ _ _ (hw.snoc hr rfl)
theorem cf_tri (h : fine l = true) {a b d : Nat} (ha : a < 8) (hb : b < 8) (hd : d < 8) (h1 : (costFrom l a).getD b 0 < 1000000000) (h2 : (costFrom l b).getD d 0 < 1000000000) : (costFrom l a).getD d 0 ≤ (costFrom l a).getD b 0 + (costFrom l b).getD d 0 := by
  have hA := cf_least h ha
  have hB := cf_least h hb
  have e : ∀ (c : List Int) (k : Nat), cAt c (k : Int) = c.getD k 0 := fun c k => by unfold cAt; rw [Int.toNat_natCast]
  rcases hA.from'.way b (by omega) (by omega) with h3 | ⟨n, _, hw⟩
  · rw [e] at h3; unfold Far at h3; omega
  · rcases hB.from'.way d (by omega) (by omega) with h4 | ⟨m, _, hv⟩
    · rw [e] at h4; unfold Far at h4; omega
    · have := hA.knows _ _ _ (hw.append hv)
      rw [e, e, e] at this
      exact this
theorem cf_rng (h : fine l = true) (a : Nat) {k : Nat} (hk : k < 8) : -18000 ≤ (costFrom l a).getD k 0 ∧ (costFrom l a).getD k 0 ≤ 1000000000 := by
  have ok := costFrom_ok (fine_good h) a
  exact ⟨ok.lo k hk, ok.hi k hk⟩
theorem fine_gain (l : List S3) : fine l = (goodRoads l && !hasGain l) := by unfold fine hasGain; cases goodRoads l <;> simp
/-! ### Along a way -/
def atC (l : List S3) (f : Int) (w : List Int) (k : Nat) : Int := match k with | 0 => f | k + 1 => (roadAt l (w.getD k 0)).b
def sumK (l : List S3) (w : List Int) (k : Nat) : Int := sumC l (w.take k)
theorem atC_zero (f : Int) (w : List Int) : atC l f w 0 = f := rfl
theorem atC_succ (f : Int) (w : List Int) (k : Nat) : atC l f w (k + 1) = (l.getD (w.getD k 0).toNat ⟨0, 0, 0⟩).b := rfl
theorem sumK_succ' {w : List Int} {k : Nat} (hs : sumK l w (k + 1) = sumK l w k + (roadAt l (w.getD k 0)).c) : sumK l w (k + 1) = sumK l w k + (l.getD (w.getD k 0).toNat ⟨0, 0, 0⟩).c := hs
theorem acN_row {a : Nat} (ha : a < 8) : (acN l 8).getD a [] = costFrom l a := by
  rw [acN, List.getD_eq_getElem?_getD, List.getElem?_map, List.getElem?_range ha]; rfl
theorem sumK_zero (w : List Int) : sumK l w 0 = 0 := rfl
theorem sumC_app (l : List S3) (u v : List Int) : sumC l (u ++ v) = sumC l u + sumC l v := by
  unfold sumC
  rw [List.foldl_append, sumC_shift]
  rfl
theorem sumK_succ {w : List Int} {k : Nat} (hk : k < w.length) : sumK l w (k + 1) = sumK l w k + (roadAt l (w.getD k 0)).c := by
  unfold sumK
  rw [List.take_add_one, List.getElem?_eq_getElem hk, getD_get hk]
  show sumC l (w.take k ++ [w[k]]) = _
  rw [sumC_app, sumC_cons]
  simp [sumC]
theorem chain_at : ∀ (w : List Int) (f t : Int), chainB l f w t → (∀ k, k < w.length → (roadAt l (w.getD k 0)).a = atC l f w k) ∧ atC l f w w.length = t
  | [], f, t, h => ⟨fun k hk => by simp at hk, h⟩
  | x :: w, f, t, h => by
    obtain ⟨h1, h2⟩ := h
    obtain ⟨h3, h4⟩ := chain_at w _ t h2
    refine ⟨fun k hk => ?_, ?_⟩
    · cases k with
      | zero => exact h1
      | succ k =>
        have := h3 k (by simpa using hk)
        show (roadAt l (w.getD k 0)).a = (roadAt l ((x :: w).getD k 0)).b
        rw [this]
        cases k <;> rfl
    · rw [List.length_cons]
      show (roadAt l ((x :: w).getD w.length 0)).b = t
      rw [← h4]
      cases e : w.length with
      | zero =>
        obtain rfl := List.eq_nil_of_length_eq_zero e
        rfl
      | succ n => rfl
/-- The way that is told. -/
structure Told (l : List S3) (f t : Int) (w : List Int) : Prop where
  fin : fine l = true
  fr : 0 ≤ f ∧ f < 8
  tr : 0 ≤ t ∧ t < 8
  len : w.length ≤ 7
  idx : ∀ k, k < w.length → 0 ≤ w.getD k 0 ∧ w.getD k 0 < l.length
  step : ∀ k, k < w.length → (l.getD (w.getD k 0).toNat ⟨0, 0, 0⟩).a = atC l f w k
  end' : atC l f w w.length = t
  sum : sumK l w w.length = (costFrom l f.toNat).getD t.toNat 0
theorem told (f t : Int) (h : okWay l f t = true) : Told l f t (wayL l f t) := by
  have h0 := h
  simp only [okWay, Bool.and_eq_true, btw_iff] at h
  obtain ⟨⟨⟨hf, h1⟩, h2⟩, h3⟩ := h
  have e := way_eq (l := l) (f := f) (t := t) (by simp [hf, btw_iff]; omega)
  have hw : wayL l f t = wbL l (costFrom l f.toNat) f t := e.2
  obtain ⟨c1, c2⟩ := wbE_chain (fine_good hf) (by omega) h3
  rw [← hw] at c1 c2
  obtain ⟨c3, c4⟩ := chain_at _ _ _ c1
  have hz := cf_zero hf (a := f.toNat) (by omega)
  obtain ⟨j, hi⟩ := wbE_inv (c := costFrom l f.toNat) (f := f) (fine_good hf) (t := t) (by omega)
  refine ⟨hf, by omega, by omega, wayL_le l f t, fun k hk => ?_, c3, c4, ?_⟩
  · have hm : (wayL l f t).getD k 0 ∈ wayL l f t := by rw [getD_get hk]; exact List.getElem_mem hk
    rw [hw, wbL, if_pos h3, List.mem_reverse] at hm
    rw [hw, wbL, if_pos h3]
    exact hi.rr _ hm
  · unfold sumK
    rw [List.take_of_length_le (Nat.le_refl _)]
    unfold cAt at c2
    rw [hz] at c2
    omega
theorem Told.low {f t : Int} {w : List Int} (h : Told l f t w) : ∀ k, k ≤ w.length → -100 * (k : Int) ≤ sumK l w k ∧ sumK l w k ≤ 100 * (k : Int)
  | 0, _ => by rw [sumK_zero]; omega
  | k + 1, hk => by
    have ih := h.low k (by omega)
    have hi := h.idx k (by omega)
    have hr := road_rng (fine_good h.fin) (w.getD k 0).toNat
    rw [sumK_succ (by omega)]
    push_cast
    have : -100 ≤ (roadAt l (w.getD k 0)).c ∧ (roadAt l (w.getD k 0)).c ≤ 100 := hr.2.2
    omega
theorem told_end {f t : Int} {w : List Int} (h : Told l f t w) {k : Nat} (hk : k ≤ w.length) (hn : ¬ k < w.length) : atC l f w k = t ∧ sumK l w k = (costFrom l f.toNat).getD t.toNat 0 ∧ (costFrom l f.toNat).length = 8 ∧ 0 ≤ t ∧ t < 8 := by
  obtain rfl : k = w.length := by omega
  exact ⟨h.end', h.sum, (costFrom_ok (fine_good h.fin) _).len, h.tr⟩
theorem way_nil (f t : Int) (h : okWay l f t = false) : wayL l f t = [] := by rw [wayL, h]; rfl
end
end YtcljaokjjnmioaaAM
