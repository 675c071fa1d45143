/- Ways apart: a flow taken off way by way, in plain Lean. -/
import Derived.Test.YtafalojjbghlhaaAmLinkCuts
import Derived.Test.YtafalojjbghlhaaAmRowSmall
import Derived.Test.YtafalojjbghlhaaAmPutModels
import Derived.Test.YtafalojjbghlhaaAmReachModels
set_option linter.unusedVariables false
set_option linter.unusedSimpArgs false
namespace YtafalojjbghlhaaAM

structure WK where
  at' : Int
  fl : List Int
  way : List Int
def hitP (l : List S2) (s : WK) (k : Nat) : Bool := decide ((l.getD k ⟨0, 0⟩).a = s.at') && !decide (s.fl.getD k 0 = 0)
def fstK (l : List S2) (s : WK) : Nat := ((List.range l.length).find? (hitP l s)).getD l.length
def goK (l : List S2) (s : WK) : WK := ⟨(l.getD (fstK l s) ⟨0, 0⟩).b, s.fl.set (fstK l s) 0, s.way ++ [(fstK l s : Int)]⟩
def stK (l : List S2) (t : Int) (s : WK) : WK := if s.at' = t then s else goK l s
def wkN (l : List S2) (f t : Int) (fl : List Int) (j : Nat) : WK := foldN (fun s _ => stK l t s) ⟨f, fl, []⟩ j
def wkE (l : List S2) (f t : Int) (fl : List Int) : WK := wkN l f t fl 21
theorem wkN_zero (l : List S2) (f t : Int) (fl : List Int) : wkN l f t fl 0 = ⟨f, fl, []⟩ := rfl
theorem wkN_succ (l : List S2) (f t : Int) (fl : List Int) (j : Nat) : wkN l f t fl (j + 1) = stK l t (wkN l f t fl j) := rfl
theorem wkN_go {l : List S2} {f t : Int} {fl : List Int} {j : Nat} (h : ¬ (wkN l f t fl j).at' = t) : wkN l f t fl (j + 1) = goK l (wkN l f t fl j) := by rw [wkN_succ, stK, if_neg h]
theorem wkN_stop {l : List S2} {f t : Int} {fl : List Int} {j : Nat} (h : (wkN l f t fl j).at' = t) : ∀ d, wkN l f t fl (j + d) = wkN l f t fl j
  | 0 => rfl
  | d + 1 => by rw [← Nat.add_assoc, wkN_succ, wkN_stop h d, stK, if_pos h]
/-! ### The first link -/
theorem fst_le (l : List S2) (s : WK) {k : Nat} (hk : k < l.length) (h : hitP l s k = true) : fstK l s ≤ k := by
  unfold fstK
  cases e : (List.range l.length).find? (hitP l s) with
  | none => have := List.find?_eq_none.1 e k (by simpa using hk); exact absurd h this
  | some q =>
    obtain ⟨h1, i, hi, h2, h3⟩ := List.find?_eq_some_iff_getElem.1 e
    simp at h2 hi
    subst h2
    simp only [Option.getD_some]
    rcases Nat.lt_or_ge k i with c | c
    · have := h3 k c
      simp [h] at this
    · exact c
theorem fst_hit (l : List S2) (s : WK) (h : fstK l s < l.length) : hitP l s (fstK l s) = true := by
  unfold fstK at *
  cases e : (List.range l.length).find? (hitP l s) with
  | none => rw [e] at h; simp at h
  | some q => exact (List.find?_eq_some_iff_append.1 e).1
theorem fst_max (l : List S2) (s : WK) : fstK l s ≤ l.length := by
  unfold fstK
  cases e : (List.range l.length).find? (hitP l s) with
  | none => simp
  | some q =>
    have := List.mem_of_find?_eq_some e
    simp at this ⊢; omega
theorem pipesOf_at {l : List S2} {k : Nat} (hk : k < l.length) : (pipesOf l).getD k ⟨0, 0, 0⟩ = ⟨(l.getD k ⟨0, 0⟩).a, (l.getD k ⟨0, 0⟩).b, 1⟩ := by
  rw [getD_get (by rw [pipesOf_len]; exact hk), getD_get hk]
  simp [pipesOf, toP]
/-- Where more goes out than comes in, some link leads out. -/
theorem out_some {l : List S2} {fl : List Int} (h0 : ∀ k, k < l.length → 0 ≤ fl.getD k 0) (n : Int) : ∀ k, k ≤ l.length → 0 < outN (pipesOf l) fl n k → ∃ q, q < k ∧ (l.getD q ⟨0, 0⟩).a = n ∧ fl.getD q 0 ≠ 0
  | 0, _, h => by simp [outN, foldN] at h
  | k + 1, hk, h => by
    have hf := h0 k (by omega)
    by_cases c : (l.getD k ⟨0, 0⟩).a = n ∧ fl.getD k 0 ≠ 0
    · exact ⟨k, by omega, c.1, c.2⟩
    · have : 0 < outN (pipesOf l) fl n k := by
        rw [outN_succ, outStep, pipesOf_at (by omega)] at h
        simp only [] at h
        split at h <;> split at h
        · omega
        · omega
        · rename_i h1 h2
          have : fl.getD k 0 = 0 := Classical.byContradiction fun e => c ⟨h2, e⟩
          omega
        · exact h
      obtain ⟨q, h1, h2⟩ := out_some h0 n k (by omega) this
      exact ⟨q, by omega, h2⟩
/-! ### The walk -/
structure WKInv (l : List S2) (f t : Int) (m : Int) (j : Nat) (s : WK) : Prop where
  len : s.fl.length = l.length
  bit : ∀ k, k < l.length → s.fl.getD k 0 = 0 ∨ s.fl.getD k 0 = 1
  net : ∀ n, n ≠ t → outM (pipesOf l) s.fl n = (m - 1) * ind f n + ind s.at' n
  range : 0 ≤ s.at' ∧ s.at' < 8
  wr : ∀ x ∈ s.way, 0 ≤ x ∧ x < l.length ∧ s.fl.getD x.toNat 0 = 0
  nodup : s.way.Nodup
  wl : s.way.length = j
  from' : ∀ i, i < j → (l.getD (s.way.getD i 0).toNat ⟨0, 0⟩).a ≠ t ∧ (l.getD (s.way.getD i 0).toNat ⟨0, 0⟩).a = if i = 0 then f else (l.getD (s.way.getD (i - 1) 0).toNat ⟨0, 0⟩).b
  at_ : s.at' = if j = 0 then f else (l.getD (s.way.getD (j - 1) 0).toNat ⟨0, 0⟩).b
section
variable {l : List S2} {f t m : Int} {s : WK} {j : Nat}
theorem WKInv.le (h : WKInv l f t m j s) (hl : l.length ≤ 20) : j ≤ 20 := by
  have := nod_len 20 s.way h.nodup fun x hx => by have := h.wr x hx; omega
  have := h.wl
  omega
theorem WKInv.ex (h : WKInv l f t m j s) (hm : 1 ≤ m) (ha : s.at' ≠ t) : fstK l s < l.length := by
  have h1 := h.net s.at' ha
  have h2 : 0 < outN (pipesOf l) s.fl s.at' l.length := by
    have e : outM (pipesOf l) s.fl s.at' = outN (pipesOf l) s.fl s.at' l.length := by rw [outM, pipesOf_len]
    rw [← e, h1]
    simp only [ind, if_true]
    split <;> omega
  obtain ⟨q, hq, h3, h4⟩ := out_some (fun k hk => by rcases h.bit k hk with e | e <;> omega) s.at' l.length (Nat.le_refl _) h2
  exact Nat.lt_of_le_of_lt (fst_le l s hq (by simp only [hitP, Bool.and_eq_true, Bool.not_eq_true', decide_eq_true_eq, decide_eq_false_iff_not]; exact ⟨h3, h4⟩)) hq
theorem WKInv.hit (h : WKInv l f t m j s) (hm : 1 ≤ m) (ha : s.at' ≠ t) : (l.getD (fstK l s) ⟨0, 0⟩).a = s.at' ∧ s.fl.getD (fstK l s) 0 = 1 := by
  have h1 := h.ex hm ha
  have h2 := fst_hit l s h1
  simp only [hitP, Bool.and_eq_true, Bool.not_eq_true', decide_eq_true_eq, decide_eq_false_iff_not] at h2
  exact ⟨h2.1, (h.bit _ h1).resolve_left h2.2⟩
theorem getD_snoc {α : Type} (w : List α) (x d : α) (i : Nat) : (w ++ [x]).getD i d = if i < w.length then w.getD i d else if i = w.length then x else d := by
  rw [List.getD_eq_getElem?_getD]
  by_cases h : i < w.length
  · rw [List.getElem?_append_left h, if_pos h, List.getD_eq_getElem?_getD]
  · rw [List.getElem?_append_right (by omega), if_neg h]
    by_cases h2 : i = w.length
    · rw [if_pos h2, h2, Nat.sub_self]; rfl
    · rw [if_neg h2, List.getElem?_eq_none (by simp; omega)]; rfl
theorem WKInv.go (hg : goodLinks l = true) (h : WKInv l f t m j s) (hm : 1 ≤ m) (ha : s.at' ≠ t) : WKInv l f t m (j + 1) (goK l s) := by
  have hk := h.ex hm ha
  have hh := h.hit hm ha
  have hr := links_at hg hk
  have hset : ∀ q, (s.fl.set (fstK l s) 0).getD q 0 = if fstK l s = q then 0 else s.fl.getD q 0 := fun q => by
    rw [getD_setI (by rw [h.len]; exact hk)]
  have hwl := h.wl
  refine ⟨by simp [goK, h.len], fun k hk2 => ?_, fun n hn => ?_, by show 0 ≤ (l.getD (fstK l s) ⟨0, 0⟩).b ∧ (l.getD (fstK l s) ⟨0, 0⟩).b < 8; omega, fun x hx => ?_, ?_, by simp [goK, hwl], fun i hi => ?_, ?_⟩
  · show (s.fl.set (fstK l s) 0).getD k 0 = 0 ∨ (s.fl.set (fstK l s) 0).getD k 0 = 1
    rw [hset]
    split
    · exact .inl rfl
    · exact h.bit k hk2
  · show outM (pipesOf l) (s.fl.set (fstK l s) 0) n = (m - 1) * ind f n + ind (l.getD (fstK l s) ⟨0, 0⟩).b n
    have h1 := h.net n hn
    have h2 := outN_set (pipesOf l) s.fl (fstK l s) 0 n (by rw [h.len]; exact hk) (pipesOf l).length
    rw [pipesOf_len, if_pos hk, pipesOf_at hk, hh.2] at h2
    simp only [] at h2
    have e1 : outM (pipesOf l) (s.fl.set (fstK l s) 0) n = outN (pipesOf l) (s.fl.set (fstK l s) 0) n l.length := by rw [outM, pipesOf_len]
    have e2 : outM (pipesOf l) s.fl n = outN (pipesOf l) s.fl n l.length := by rw [outM, pipesOf_len]
    rw [e1, h2, ← e2, h1, hh.1]
    omega
  · rcases List.mem_append.1 hx with hx | hx
    · have h1 := h.wr x hx
      refine ⟨h1.1, h1.2.1, ?_⟩
      show (s.fl.set (fstK l s) 0).getD x.toNat 0 = 0
      rw [hset]
      split
      · rfl
      · exact h1.2.2
    · simp only [List.mem_singleton] at hx
      subst hx
      refine ⟨by omega, by omega, ?_⟩
      show (s.fl.set (fstK l s) 0).getD ((fstK l s : Int)).toNat 0 = 0
      rw [hset, if_pos (by simp)]
  · show (s.way ++ [(fstK l s : Int)]).Nodup
    rw [List.nodup_append]
    refine ⟨h.nodup, by simp, fun a ha2 b hb e => ?_⟩
    simp only [List.mem_singleton] at hb
    subst hb e
    have := (h.wr _ ha2).2.2
    rw [show ((fstK l s : Int)).toNat = fstK l s by simp, hh.2] at this
    omega
  · show (l.getD ((s.way ++ [(fstK l s : Int)]).getD i 0).toNat ⟨0, 0⟩).a ≠ t ∧ (l.getD ((s.way ++ [(fstK l s : Int)]).getD i 0).toNat ⟨0, 0⟩).a = if i = 0 then f else (l.getD ((s.way ++ [(fstK l s : Int)]).getD (i - 1) 0).toNat ⟨0, 0⟩).b
    rcases Nat.lt_or_ge i j with c | c
    · have h1 := h.from' i c
      rw [getD_snoc, if_pos (by omega)]
      refine ⟨h1.1, ?_⟩
      rw [h1.2]
      split
      · rfl
      · rw [getD_snoc, if_pos (by omega)]
    · obtain rfl : i = j := by omega
      rw [getD_snoc, if_neg (by omega), if_pos (by omega), show ((fstK l s : Int)).toNat = fstK l s by simp, hh.1]
      refine ⟨ha, ?_⟩
      rw [h.at_]
      split
      · rfl
      · rw [getD_snoc, if_pos (by omega)]
  · show (l.getD (fstK l s) ⟨0, 0⟩).b = if j + 1 = 0 then f else _
    rw [if_neg (by omega)]
    show _ = (l.getD ((s.way ++ [(fstK l s : Int)]).getD (j + 1 - 1) 0).toNat ⟨0, 0⟩).b
    rw [getD_snoc, if_neg (by omega), if_pos (by omega)]; simp
/-- The flow that a round begins with. -/
structure FlOk (l : List S2) (f t : Int) (m : Int) (fl : List Int) : Prop where
  len : fl.length = l.length
  bit : ∀ k, k < l.length → fl.getD k 0 = 0 ∨ fl.getD k 0 = 1
  net : ∀ n, n ≠ t → outM (pipesOf l) fl n = m * ind f n
theorem FlOk.start {fl : List Int} (h : FlOk l f t m fl) (hf : 0 ≤ f ∧ f < 8) : WKInv l f t m 0 ⟨f, fl, []⟩ :=
  ⟨h.len, h.bit, fun n hn => by rw [h.net n hn, Int.sub_mul]; show _ = m * ind f n - 1 * ind f n + ind f n; omega, hf, fun x hx => by simp at hx, by simp, rfl, fun i hi => by omega, rfl⟩
theorem wk_inv (hg : goodLinks l = true) {fl : List Int} (h : FlOk l f t m fl) (hf : 0 ≤ f ∧ f < 8) (hm : 1 ≤ m) : ∀ j, (∀ d, d < j → ¬ (wkN l f t fl d).at' = t) → WKInv l f t m j (wkN l f t fl j)
  | 0, _ => h.start hf
  | j + 1, hj => by
    have ih := wk_inv hg h hf hm j fun d hd => hj d (by omega)
    rw [wkN_go (hj j (by omega))]
    exact ih.go hg hm (hj j (by omega))
theorem wk_end (hg : goodLinks l = true) {fl : List Int} (h : FlOk l f t m fl) (hf : 0 ≤ f ∧ f < 8) (hm : 1 ≤ m) {j : Nat} (hj : ∀ d, d < j → ¬ (wkN l f t fl d).at' = t) (he : (wkN l f t fl j).at' = t) : wkE l f t fl = wkN l f t fl j := by
  have h1 := (wk_inv hg h hf hm j hj).le (goodLinks_len hg)
  have := wkN_stop he (21 - j)
  rwa [show j + (21 - j) = 21 by omega] at this
theorem wk_ex (hg : goodLinks l = true) {fl : List Int} (h : FlOk l f t m fl) (hf : 0 ≤ f ∧ f < 8) (hm : 1 ≤ m) : ∃ j, (wkN l f t fl j).at' = t ∧ ∀ d, d < j → ¬ (wkN l f t fl d).at' = t := by
  have key : ∀ j, (∃ d, d < j ∧ (wkN l f t fl d).at' = t ∧ ∀ e, e < d → ¬ (wkN l f t fl e).at' = t) ∨ ∀ d, d < j → ¬ (wkN l f t fl d).at' = t := by
    intro j
    induction j with
    | zero => exact .inr fun d hd => by omega
    | succ j ih =>
      rcases ih with ⟨d, h1, h2⟩ | ih
      · exact .inl ⟨d, by omega, h2⟩
      · by_cases c : (wkN l f t fl j).at' = t
        · exact .inl ⟨j, by omega, c, ih⟩
        · refine .inr fun d hd => ?_
          rcases Nat.lt_or_ge d j with c1 | c1
          · exact ih d c1
          · obtain rfl : d = j := by omega
            exact c
  rcases key 22 with ⟨d, _, h1, h2⟩ | h1
  · exact ⟨d, h1, h2⟩
  · have := (wk_inv hg h hf hm 21 fun d hd => h1 d (by omega)).le (goodLinks_len hg)
    omega
/-- The end of a round. -/
theorem wk_done (hg : goodLinks l = true) {fl : List Int} (h : FlOk l f t m fl) (hf : 0 ≤ f ∧ f < 8) (hm : 1 ≤ m) : WKInv l f t m (wkE l f t fl).way.length (wkE l f t fl) ∧ (wkE l f t fl).at' = t := by
  obtain ⟨j, h1, h2⟩ := wk_ex hg h hf hm
  have e := wk_end hg h hf hm h2 h1
  have hi := wk_inv hg h hf hm j h2
  rw [e, hi.wl]
  exact ⟨hi, h1⟩
theorem WKInv.next (h : WKInv l f t m j s) (he : s.at' = t) : FlOk l f t (m - 1) s.fl :=
  ⟨h.len, h.bit, fun n hn => by rw [h.net n hn, he, ind, ind, if_neg (Ne.symm hn)]; omega⟩
end
end YtafalojjbghlhaaAM
