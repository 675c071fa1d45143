/- Johnson: by potentials ways cost as they did but for their ends. In plain Lean. -/
import Derived.Test.YtcljaokjjnmioaaAmRoadLaw
set_option linter.unusedVariables false
set_option linter.unusedSimpArgs false
namespace YtcljaokjjnmioaaAM
section
variable {l : List S3}
def potP (l : List S3) (v : Int) : Int := cAt (potOf l) v
theorem red_eq (h : fine l = true) : redOf l = l.map (redF (potOf l)) := by rw [redOf, if_pos h]
theorem redF_c (r : S3) : (redF (potOf l) r).c = r.c + potP l r.a - potP l r.b := rfl
theorem red_len (h : fine l = true) : (redOf l).length = l.length := by rw [red_eq h, List.length_map]
theorem red_at (h : fine l = true) {k : Nat} (hk : k < l.length) : (redOf l).getD k ⟨0, 0, 0⟩ = redF (potOf l) (l.getD k ⟨0, 0, 0⟩) := by
  rw [red_eq h, List.getD_eq_getElem?_getD, List.getElem?_map, List.getD_eq_getElem?_getD, List.getElem?_eq_getElem hk]; rfl
theorem pot_rng (h : fine l = true) {v : Int} (hv : 0 ≤ v ∧ v < 8) : -18000 ≤ potP l v ∧ potP l v ≤ 0 := by
  have h1 := (pot_feas h).2 v hv.1 hv.2
  have h2 := (potOf_ok h).lo v.toNat (by omega)
  unfold potP
  unfold cAt at h1 ⊢
  omega
theorem pot_at (k : Nat) : (potOf l).getD k 0 = potP l (k : Int) := by unfold potP cAt; rw [Int.toNat_natCast]
theorem red_nonneg (h : fine l = true) {r : S3} (hr : r ∈ redOf l) : 0 ≤ r.c := by
  rw [red_eq h] at hr
  obtain ⟨s, hs, rfl⟩ := List.mem_map.1 hr
  have := (pot_feas h).1 s hs
  dsimp only at this
  rw [redF_c]
  unfold potP
  omega
theorem red_way (h : fine l = true) : ∀ {n : Nat} {s v x : Int}, HasWay l s v n x → HasWay (redOf l) s v n (x + potP l s - potP l v)
  | 0, s, v, x, hw => by
    obtain ⟨rfl, rfl⟩ := hw.zero
    rw [show (0 : Int) + potP l s - potP l s = 0 by omega]
    exact HasWay.nil _ _
  | n + 1, s, v, x, hw => by
    obtain ⟨u, y, r, hy, hr, rfl, rfl, rfl⟩ := hw.last
    have ih := red_way h hy
    have hm : redF (potOf l) r ∈ redOf l := by rw [red_eq h]; exact List.mem_map_of_mem hr
    have := ih.snoc hm rfl
    rw [redF_c] at this
    rw [show y + r.c + potP l s - potP l r.b = y + potP l s - potP l r.a + (r.c + potP l r.a - potP l r.b) by omega]
    exact this
theorem way_red (h : fine l = true) : ∀ {n : Nat} {s v x : Int}, HasWay (redOf l) s v n x → HasWay l s v n (x - potP l s + potP l v)
  | 0, s, v, x, hw => by
    obtain ⟨rfl, rfl⟩ := hw.zero
    rw [show (0 : Int) - potP l s + potP l s = 0 by omega]
    exact HasWay.nil _ _
  | n + 1, s, v, x, hw => by
    obtain ⟨u, y, r, hy, hr, rfl, rfl, rfl⟩ := hw.last
    rw [red_eq h] at hr
    obtain ⟨r0, hr0, rfl⟩ := List.mem_map.1 hr
    have ih := way_red h hy
    have := ih.snoc hr0 rfl
    rw [redF_c]
    rw [show y + (r0.c + potP l r0.a - potP l r0.b) - potP l s + potP l (redF (potOf l) r0).b = y - potP l s + potP l (redF (potOf l) r0).a + r0.c by show y + (r0.c + potP l r0.a - potP l r0.b) - potP l s + potP l r0.b = y - potP l s + potP l r0.a + r0.c; omega]
    exact this
/-- Where no road is a gain, nothing turns at nothing. -/
theorem still_zeros {r : List S3} (h : ∀ x ∈ r, 0 ≤ x.c) : ∀ k, k ≤ r.length → foldTo relax (zeros, false) r k = (zeros, false)
  | 0, _ => foldTo_zero _ _ _
  | k + 1, hk => by
    rw [foldTo_succ _ _ _ (by omega), still_zeros h k (by omega)]
    have := h (r[k]'(by omega)) (List.getElem_mem _)
    rcases relax_cases zeros false (r[k]'(by omega)) with ⟨h1, _⟩ | ⟨_, _, h3⟩
    · exact h1
    · rw [zeros_cAt, zeros_cAt] at h3; omega
theorem red_fine (h : fine l = true) (hg : goodRoads (redOf l) = true) : fine (redOf l) = true := by
  have e := still_zeros (fun x hx => red_nonneg h hx) (redOf l).length (Nat.le_refl _)
  unfold fine
  rw [hg]
  simp only [settleM, e]
  rfl
theorem red_not (h : fine l = true) (hf : fine (redOf l) = false) : goodRoads (redOf l) = false := by
  cases hg : goodRoads (redOf l) with
  | false => rfl
  | true => rw [red_fine h hg] at hf; cases hf
theorem johnson (h : fine l = true) (hr : fine (redOf l) = true) {n v : Nat} (hn : n < 8) (hv : v < 8) :
    ((costFrom l n).getD v 0 = 1000000000 ↔ (costFrom (redOf l) n).getD v 0 = 1000000000) ∧
    ((costFrom l n).getD v 0 < 1000000000 → (costFrom (redOf l) n).getD v 0 = (costFrom l n).getD v 0 + (potOf l).getD n 0 - (potOf l).getD v 0) := by
  have hA := cf_least h hn
  have hB := cf_least hr hn
  have e : ∀ (c : List Int) (k : Nat), cAt c (k : Int) = c.getD k 0 := fun c k => by unfold cAt; rw [Int.toNat_natCast]
  rw [pot_at, pot_at]
  have pn := pot_rng h (v := (n : Int)) (by omega)
  have pv := pot_rng h (v := (v : Int)) (by omega)
  have hg := fine_good h
  have hgr := fine_good hr
  have ra := cf_rng h n hv
  have rb := cf_rng hr n hv
  have k1 : (costFrom l n).getD v 0 ≠ 1000000000 → (costFrom (redOf l) n).getD v 0 ≤ (costFrom l n).getD v 0 + potP l n - potP l v ∧ (costFrom l n).getD v 0 ≤ 18000 := fun hne => by
    rcases hA.from'.way v (by omega) (by omega) with h3 | ⟨m, hm, hw⟩
    · rw [e] at h3; exact absurd h3 hne
    · have h4 := way_cost hg hw
      have := hB.knows _ _ _ (red_way h hw)
      rw [e] at h4
      rw [e, e] at this
      exact ⟨this, by omega⟩
  have k2 : (costFrom (redOf l) n).getD v 0 ≠ 1000000000 → (costFrom l n).getD v 0 ≤ (costFrom (redOf l) n).getD v 0 - potP l n + potP l v ∧ (costFrom (redOf l) n).getD v 0 ≤ 18000 := fun hne => by
    rcases hB.from'.way v (by omega) (by omega) with h3 | ⟨m, hm, hw⟩
    · rw [e] at h3; exact absurd h3 hne
    · have h4 := way_cost hgr hw
      have := hA.knows _ _ _ (way_red h hw)
      rw [e] at h4
      rw [e, e] at this
      exact ⟨this, by omega⟩
  refine ⟨⟨fun ha => ?_, fun hb => ?_⟩, fun hlt => ?_⟩
  · refine Classical.byContradiction fun hb => ?_
    have := k2 hb
    omega
  · refine Classical.byContradiction fun ha => ?_
    have := k1 ha
    omega
  · have h1 := k1 (by omega)
    have h2 := k2 (by omega)
    omega
end
end YtcljaokjjnmioaaAM
