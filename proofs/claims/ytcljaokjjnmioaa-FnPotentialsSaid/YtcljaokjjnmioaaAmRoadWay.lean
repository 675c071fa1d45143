/- A row of roads that costs the least, found from its end, in plain Lean. -/
import Derived.Test.YtcljaokjjnmioaaAmRoadMath
set_option linter.unusedVariables false
set_option linter.unusedSimpArgs false
namespace YtcljaokjjnmioaaAM

structure WS where
  at' : Int
  met : List Int
  row : List Int
abbrev roadAt (l : List S3) (k : Int) : S3 := l.getD k.toNat ⟨0, 0, 0⟩
def pickP (c : List Int) (s : WS) (r : S3) : Bool := decide (r.b = s.at') && !decide (cAt c r.a = Far) && decide (cAt c r.a + r.c = cAt c s.at') && !hasB s.met r.a
def pickR (l : List S3) (c : List Int) (s : WS) : Int := idxF (pickP c s) l
def goW (l : List S3) (c : List Int) (s : WS) : WS := ⟨(roadAt l (pickR l c s)).a, s.met ++ [(roadAt l (pickR l c s)).a], s.row ++ [pickR l c s]⟩
def stW (l : List S3) (c : List Int) (f : Int) (s : WS) : WS := if s.at' = f ∨ pickR l c s < 0 then s else goW l c s
def wbN (l : List S3) (c : List Int) (f t : Int) (j : Nat) : WS := foldN (fun s _ => stW l c f s) ⟨t, [t], []⟩ j
def wbE (l : List S3) (c : List Int) (f t : Int) : WS := wbN l c f t 8
section
variable {l : List S3} {c : List Int} {f t : Int}
theorem wbN_zero : wbN l c f t 0 = ⟨t, [t], []⟩ := rfl
theorem wbN_succ (j : Nat) : wbN l c f t (j + 1) = stW l c f (wbN l c f t j) := rfl
theorem wbN_go {j : Nat} (h1 : ¬ (wbN l c f t j).at' = f) (h2 : ¬ pickR l c (wbN l c f t j) < 0) : wbN l c f t (j + 1) = goW l c (wbN l c f t j) := by
  rw [wbN_succ, stW, if_neg (by rintro (h | h); exact h1 h; exact h2 h)]
theorem wbN_stop {j : Nat} (h : (wbN l c f t j).at' = f ∨ pickR l c (wbN l c f t j) < 0) : ∀ d, wbN l c f t (j + d) = wbN l c f t j
  | 0 => rfl
  | d + 1 => by rw [← Nat.add_assoc, wbN_succ, wbN_stop h d, stW, if_pos h]
theorem pick_lt (s : WS) : -1 ≤ pickR l c s ∧ pickR l c s < l.length := by
  unfold pickR idxF
  cases h : l.findIdx? (pickP c s) with
  | none => simp only []; omega
  | some k =>
    obtain ⟨hk, _⟩ := List.findIdx?_eq_some_iff_getElem.1 h
    simp only []; omega
theorem pick_ok {s : WS} (h : ¬ pickR l c s < 0) : (roadAt l (pickR l c s)) ∈ l ∧ pickP c s (roadAt l (pickR l c s)) = true := by
  unfold pickR idxF at *
  cases e : l.findIdx? (pickP c s) with
  | none => rw [e] at h; simp only [] at h; omega
  | some k =>
    obtain ⟨hk, hp, _⟩ := List.findIdx?_eq_some_iff_getElem.1 e
    simp only []
    unfold roadAt
    rw [Int.toNat_natCast, getD_get hk]
    exact ⟨List.getElem_mem hk, hp⟩
/-- How far the search has come. -/
structure WInv (l : List S3) (c : List Int) (t : Int) (j : Nat) (s : WS) : Prop where
  range : 0 ≤ s.at' ∧ s.at' < 8
  nodup : s.met.Nodup
  mr : ∀ x ∈ s.met, 0 ≤ x ∧ x < 8
  ml : s.met.length = j + 1
  rl : s.row.length = j
  rr : ∀ x ∈ s.row, 0 ≤ x ∧ x < l.length
theorem WInv.go (hg : goodRoads l = true) {j : Nat} {s : WS} (h : WInv l c t j s) (h2 : ¬ pickR l c s < 0) : WInv l c t (j + 1) (goW l c s) := by
  obtain ⟨hm, hp⟩ := pick_ok h2
  have hr := goodRoads_mem hg hm
  have hk := pick_lt (l := l) (c := c) s
  simp only [pickP, Bool.and_eq_true, Bool.not_eq_true', decide_eq_true_eq] at hp
  have hn := hasB_false.1 hp.2
  refine ⟨hr.1, ?_, fun x hx => ?_, by simp [goW, h.ml], by simp [goW, h.rl], fun x hx => ?_⟩
  · show (s.met ++ [_]).Nodup
    rw [List.nodup_append]
    refine ⟨h.nodup, by simp, fun a ha b hb => ?_⟩
    simp only [List.mem_singleton] at hb
    rw [hb]
    exact fun e => hn (e ▸ ha)
  · rcases List.mem_append.1 hx with h3 | h3
    · exact h.mr x h3
    · simp only [List.mem_singleton] at h3
      rw [h3]; exact hr.1
  · rcases List.mem_append.1 hx with h3 | h3
    · exact h.rr x h3
    · simp only [List.mem_singleton] at h3
      rw [h3]; exact ⟨by omega, hk.2⟩
theorem wbN_inv (hg : goodRoads l = true) (ht : 0 ≤ t ∧ t < 8) : ∀ j, (∀ d, d < j → ¬ (wbN l c f t d).at' = f ∧ ¬ pickR l c (wbN l c f t d) < 0) → WInv l c t j (wbN l c f t j)
  | 0, _ => ⟨ht, by simp [wbN_zero], fun x hx => by simp [wbN_zero] at hx; omega, rfl, rfl, fun x hx => by simp [wbN_zero] at hx⟩
  | j + 1, h => by
    have ih := wbN_inv hg ht j fun d hd => h d (by omega)
    have hj := h j (by omega)
    rw [wbN_go hj.1 hj.2]
    exact ih.go hg hj.2
theorem WInv.le {j : Nat} {s : WS} (h : WInv l c t j s) : j ≤ 7 := by
  have := nod_len 8 s.met h.nodup h.mr
  have := h.ml
  omega
theorem wb_end (hg : goodRoads l = true) (ht : 0 ≤ t ∧ t < 8) {j : Nat} (hj : ∀ d, d < j → ¬ (wbN l c f t d).at' = f ∧ ¬ pickR l c (wbN l c f t d) < 0) (h : (wbN l c f t j).at' = f ∨ pickR l c (wbN l c f t j) < 0) : wbE l c f t = wbN l c f t j := by
  have := (wbN_inv hg ht j hj).le
  have e := wbN_stop h (8 - j)
  rwa [show j + (8 - j) = 8 by omega] at e
def wbOk (l : List S3) (c : List Int) (f t : Int) : Bool := decide ((wbE l c f t).at' = f)
def wbL (l : List S3) (c : List Int) (f t : Int) : List Int := if wbOk l c f t = true then (wbE l c f t).row.reverse else []
theorem wbE_inv (hg : goodRoads l = true) (ht : 0 ≤ t ∧ t < 8) : ∃ j, WInv l c t j (wbE l c f t) := by
  -- the first step that is none
  by_cases h : ∃ j, j ≤ 8 ∧ ((wbN l c f t j).at' = f ∨ pickR l c (wbN l c f t j) < 0) ∧ ∀ d, d < j → ¬ (wbN l c f t d).at' = f ∧ ¬ pickR l c (wbN l c f t d) < 0
  · obtain ⟨j, _, h1, h2⟩ := h
    exact ⟨j, by rw [wb_end hg ht h2 h1]; exact wbN_inv hg ht j h2⟩
  · exfalso
    have hall : ∀ j, j ≤ 8 → ∀ d, d < j → ¬ (wbN l c f t d).at' = f ∧ ¬ pickR l c (wbN l c f t d) < 0 := by
      intro j
      induction j with
      | zero => intro _ d hd; omega
      | succ j ih =>
        intro hj d hd
        rcases Nat.lt_or_ge d j with c1 | c1
        · exact ih (by omega) d c1
        · obtain rfl : d = j := by omega
          by_cases h3 : (wbN l c f t d).at' = f
          · exact absurd ⟨d, by omega, .inl h3, ih (by omega)⟩ h
          · exact ⟨h3, fun h4 => h ⟨d, by omega, .inr h4, ih (by omega)⟩⟩
    have := (wbN_inv hg ht 8 (hall 8 (Nat.le_refl _))).le
    omega
theorem wbL_le (hg : goodRoads l = true) (ht : 0 ≤ t ∧ t < 8) : (wbL l c f t).length ≤ 7 := by
  unfold wbL
  split
  · obtain ⟨j, h⟩ := wbE_inv (c := c) (f := f) hg ht
    rw [List.length_reverse, h.rl]
    exact h.le
  · simp
/-- Where nothing leads to t there is no road to take. -/
theorem wb_far (hg : goodRoads l = true) {s : Int} {N : Nat} (hL : Least l s N c) (hN : N ≤ 180) {t : Int} (ht : 0 ≤ t ∧ t < 8) (hc : cAt c t = Far) : pickR l c ⟨t, [t], []⟩ < 0 := by
  by_cases h : pickR l c ⟨t, [t], []⟩ < 0
  · exact h
  · exfalso
    obtain ⟨hm, hp⟩ := pick_ok h
    simp only [pickP, Bool.and_eq_true, Bool.not_eq_true', decide_eq_true_eq, decide_eq_false_iff_not] at hp
    have hr := goodRoads_mem hg hm
    obtain ⟨n, hn, hw⟩ := (hL.from'.way _ hr.1.1 hr.1.2).resolve_left hp.1.1.2
    have := way_cost hg hw
    have h4 := hp.1.2
    rw [hc] at h4
    unfold Far at h4
    omega
/-- The roads of a row, from f on: where they lead, what they cost. -/
def chainB (l : List S3) : Int → List Int → Int → Prop
  | a, [], b => a = b
  | a, k :: w, b => (roadAt l k).a = a ∧ chainB l (roadAt l k).b w b
def sumC (l : List S3) (w : List Int) : Int := w.foldl (fun n k => n + (roadAt l k).c) 0
theorem sumC_shift (l : List S3) (w : List Int) : ∀ x, w.foldl (fun n k => n + (roadAt l k).c) x = x + sumC l w := by
  induction w with
  | nil => intro x; simp [sumC]
  | cons k w ih =>
    intro x
    simp only [List.foldl_cons, sumC]
    rw [ih, ih (0 + (roadAt l k).c)]
    omega
theorem sumC_cons (l : List S3) (k : Int) (w : List Int) : sumC l (k :: w) = (roadAt l k).c + sumC l w := by
  show List.foldl _ (0 + (roadAt l k).c) w = _
  rw [sumC_shift]; omega
theorem wb_chain : ∀ j, (∀ d, d < j → ¬ (wbN l c f t d).at' = f ∧ ¬ pickR l c (wbN l c f t d) < 0) →
    chainB l (wbN l c f t j).at' (wbN l c f t j).row.reverse t ∧ cAt c (wbN l c f t j).at' + sumC l (wbN l c f t j).row.reverse = cAt c t
  | 0, _ => ⟨rfl, by simp [wbN_zero, sumC]⟩
  | j + 1, h => by
    obtain ⟨h1, h2⟩ := wb_chain j fun d hd => h d (by omega)
    have hj := h j (by omega)
    obtain ⟨hm, hp⟩ := pick_ok hj.2
    simp only [pickP, Bool.and_eq_true, Bool.not_eq_true', decide_eq_true_eq, decide_eq_false_iff_not] at hp
    rw [wbN_go hj.1 hj.2]
    simp only [goW, List.reverse_append, List.reverse_cons, List.reverse_nil, List.nil_append, List.singleton_append]
    refine ⟨⟨rfl, by rw [hp.1.1.1]; exact h1⟩, ?_⟩
    rw [sumC_cons]
    have := hp.1.2
    omega
theorem wbE_chain (hg : goodRoads l = true) (ht : 0 ≤ t ∧ t < 8) (h : wbOk l c f t = true) : chainB l f (wbL l c f t) t ∧ cAt c f + sumC l (wbL l c f t) = cAt c t := by
  have hall : ∀ j, (∃ d, d < j ∧ ((wbN l c f t d).at' = f ∨ pickR l c (wbN l c f t d) < 0)) ∨ ∀ d, d < j → ¬ (wbN l c f t d).at' = f ∧ ¬ pickR l c (wbN l c f t d) < 0 := fun j => by
    by_cases h : ∃ d, d < j ∧ ((wbN l c f t d).at' = f ∨ pickR l c (wbN l c f t d) < 0)
    · exact .inl h
    · exact .inr fun d hd => ⟨fun h3 => h ⟨d, hd, .inl h3⟩, fun h3 => h ⟨d, hd, .inr h3⟩⟩
  have key : ∀ j, (∀ d, d < j → ¬ (wbN l c f t d).at' = f ∧ ¬ pickR l c (wbN l c f t d) < 0) → ((wbN l c f t j).at' = f ∨ pickR l c (wbN l c f t j) < 0) → chainB l f (wbL l c f t) t ∧ cAt c f + sumC l (wbL l c f t) = cAt c t := fun j h1 h2 => by
    have e := wb_end hg ht h1 h2
    obtain ⟨g1, g2⟩ := wb_chain j h1
    rw [wbL, if_pos h, e]
    have hf : (wbN l c f t j).at' = f := by rw [← e]; simpa [wbOk] using h
    rw [hf] at g1 g2
    exact ⟨g1, g2⟩
  have : ∀ j, j ≤ 9 → (chainB l f (wbL l c f t) t ∧ cAt c f + sumC l (wbL l c f t) = cAt c t) ∨ ∀ d, d < j → ¬ (wbN l c f t d).at' = f ∧ ¬ pickR l c (wbN l c f t d) < 0 := by
    intro j
    induction j with
    | zero => intro _; exact .inr fun d hd => by omega
    | succ j ih =>
      intro hj
      rcases ih (by omega) with h1 | h1
      · exact .inl h1
      · by_cases h2 : (wbN l c f t j).at' = f ∨ pickR l c (wbN l c f t j) < 0
        · exact .inl (key j h1 h2)
        · refine .inr fun d hd => ?_
          rcases Nat.lt_or_ge d j with c1 | c1
          · exact h1 d c1
          · obtain rfl : d = j := by omega
            exact ⟨fun h3 => h2 (.inl h3), fun h3 => h2 (.inr h3)⟩
  rcases this 9 (Nat.le_refl _) with h1 | h1
  · exact h1
  · have := (wbN_inv hg ht 9 h1).le
    omega
end
end YtcljaokjjnmioaaAM
