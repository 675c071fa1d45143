/- No flow is more than a cut lets through, and a greatest one is as much as the cut that is told. In plain Lean. -/
import Derived.Test.YtafalojjbghlhaaAmCutModels
set_option linter.unusedVariables false
set_option linter.unusedSimpArgs false
namespace YtafalojjbghlhaaAM
section
variable {l : List S3} {fl : List Int} {u : Int}
/-- From v on to y by pipe k. -/
def Nx (l : List S3) (fl : List Int) (k : Nat) (v y : Int) : Prop :=
  ((l.getD k ⟨0, 0, 0⟩).a = v ∧ fl.getD k 0 < (l.getD k ⟨0, 0, 0⟩).c ∧ y = (l.getD k ⟨0, 0, 0⟩).b) ∨ ((l.getD k ⟨0, 0, 0⟩).b = v ∧ 0 < fl.getD k 0 ∧ y = (l.getD k ⟨0, 0, 0⟩).a)
theorem stp_sub {v x : Int} {s : Seen} {k : Nat} (h : x ∈ s.1) : x ∈ (stp l fl v s k).1 := by
  unfold stp
  split
  · split
    · exact h
    · exact List.mem_append.2 (.inl h)
  · split
    · split
      · exact h
      · exact List.mem_append.2 (.inl h)
    · exact h
theorem innF_sub {v x : Int} {s : Seen} (h : x ∈ s.1) : ∀ k, x ∈ (foldN (stp l fl v) s k).1
  | 0 => h
  | k + 1 => stp_sub (innF_sub h k)
theorem innF_mono {v x : Int} {s : Seen} {j : Nat} : ∀ k, j ≤ k → x ∈ (foldN (stp l fl v) s j).1 → x ∈ (foldN (stp l fl v) s k).1
  | 0, hj, h => by
    have : j = 0 := by omega
    subst this; exact h
  | k + 1, hj, h => by
    rcases Nat.lt_or_ge k j with hc | hc
    · have : j = k + 1 := by omega
      subst this; exact h
    · exact stp_sub (innF_mono k hc h)
theorem stp_got (hg : goodPipes l = true) {v y : Int} {s : Seen} {j : Nat} (hj : j < l.length) (h : Nx l fl j v y) : y ∈ (stp l fl v s j).1 := by
  have hp := goodPipes_at hg hj
  unfold stp
  rcases h with ⟨h1, h2, rfl⟩ | ⟨h1, h2, rfl⟩
  · rw [if_pos ⟨h1, h2⟩]
    split
    · rename_i h; exact hasB_iff.1 h
    · simp
  · rw [if_neg (by rintro ⟨h3, _⟩; exact hp.2.2.1 (h3.trans h1.symm)), if_pos ⟨h1, h2⟩]
    split
    · rename_i h; exact hasB_iff.1 h
    · simp
theorem innF_got (hg : goodPipes l = true) {v y : Int} {s : Seen} {j : Nat} (hj : j < l.length) (h : Nx l fl j v y) : y ∈ (foldN (stp l fl v) s l.length).1 :=
  innF_mono (j := j + 1) l.length hj (stp_got hg hj h)
theorem srch_sub {x : Int} {i : Nat} (h : x ∈ (srchN l fl u i).1) : x ∈ (srchN l fl u (i + 1)).1 := by
  show x ∈ (rnd l fl (srchN l fl u i) i).1
  unfold rnd
  split
  · exact innF_sub h _
  · exact h
theorem innF_keeps {v : Int} {s : Seen} {i : Nat} {x : Int} (h : s.1[i]? = some x) : ∀ k, (foldN (stp l fl v) s k).1[i]? = some x
  | 0 => h
  | k + 1 => stp_keeps l fl v _ k (innF_keeps h k)
theorem srch_keeps {i j : Nat} {x : Int} (h : (srchN l fl u i).1[j]? = some x) : (srchN l fl u (i + 1)).1[j]? = some x := by
  show (rnd l fl (srchN l fl u i) i).1[j]? = some x
  unfold rnd
  split
  · exact innF_keeps h _
  · exact h
theorem srch_got (hg : goodPipes l = true) : ∀ i j k y, j < i → j < (srchN l fl u i).1.length → k < l.length → Nx l fl k ((srchN l fl u i).1.getD j 0) y → y ∈ (srchN l fl u i).1
  | 0, j, k, y, h, _, _, _ => by omega
  | i + 1, j, k, y, hj, hjl, hk, hx => by
    have e1 : srchN l fl u (i + 1) = rnd l fl (srchN l fl u i) i := rfl
    rcases Nat.lt_or_ge i (srchN l fl u i).1.length with hi | hi
    · have hj2 : j < (srchN l fl u i).1.length := by omega
      have e2 : (srchN l fl u (i + 1)).1.getD j 0 = (srchN l fl u i).1.getD j 0 := by
        have := srch_keeps (l := l) (fl := fl) (u := u) (List.getElem?_eq_getElem hj2)
        rw [List.getD_eq_getElem?_getD, this, getD_get hj2]; rfl
      rw [e2] at hx
      rcases Nat.lt_or_ge j i with hc | hc
      · exact srch_sub (srch_got hg i j k y hc hj2 hk hx)
      · have : j = i := by omega
        subst this
        rw [e1]
        unfold rnd
        rw [if_pos hi]
        exact innF_got hg hk hx
    · have e2 : srchN l fl u (i + 1) = srchN l fl u i := by rw [e1, rnd, if_neg (by omega)]
      rw [e2] at hx hjl ⊢
      exact srch_got hg i j k y (by omega) hjl hk hx
/-- What is reached is shut. -/
theorem srch_closed (hg : goodPipes l = true) (hu : 0 ≤ u ∧ u ≤ 7) {v y : Int} (hv : v ∈ (srch l fl u).1) {k : Nat} (hk : k < l.length) (hx : Nx l fl k v y) : y ∈ (srch l fl u).1 := by
  have hI := srch_inv fl hg hu
  obtain ⟨j, hj, e⟩ := List.getElem_of_mem hv
  have := hI.len
  exact srch_got hg 8 j k y (by omega) hj hk (by show Nx l fl k ((srch l fl u).1.getD j 0) y; rw [getD_get hj, e]; exact hx)
end
/-! ### What goes over a cut -/
def inS (s : List Int) (x : Int) : Int := if hasB s x = true then 1 else 0
def sumS (s : List Int) (F : Int → Int) : Nat → Int
  | 0 => 0
  | m + 1 => sumS s F m + inS s m * F m
def netK (l : List S3) (fl s : List Int) : Nat → Int
  | 0 => 0
  | k + 1 => netK l fl s k + fl.getD k 0 * (inS s (l.getD k ⟨0, 0, 0⟩).a - inS s (l.getD k ⟨0, 0, 0⟩).b)
theorem out_ind (l : List S3) (fl : List Int) (n : Int) (k : Nat) : outN l fl n (k + 1) = outN l fl n k + fl.getD k 0 * (ind (l.getD k ⟨0, 0, 0⟩).a n - ind (l.getD k ⟨0, 0, 0⟩).b n) := by
  rw [outN_succ, outStep]
  unfold ind
  split <;> split <;> simp <;> omega
theorem sumS_lin (s : List Int) (F G : Int → Int) (c : Int) : ∀ m, sumS s (fun n => F n + c * G n) m = sumS s F m + c * sumS s G m
  | 0 => by simp [sumS]
  | m + 1 => by
    simp only [sumS]
    rw [sumS_lin s F G c m]
    rw [Int.mul_add, Int.mul_add, ← Int.mul_assoc, ← Int.mul_assoc, Int.mul_comm (inS s m) c]
    omega
theorem sumS_sub (s : List Int) (F G : Int → Int) : ∀ m, sumS s (fun n => F n - G n) m = sumS s F m - sumS s G m
  | 0 => by simp [sumS]
  | m + 1 => by
    simp only [sumS]
    rw [sumS_sub s F G m, Int.mul_sub]
    omega
theorem sumS_ind (s : List Int) {a : Int} (ha : 0 ≤ a) : ∀ m : Nat, sumS s (ind a) m = if a < m then inS s a else 0
  | 0 => by simp [sumS]; omega
  | m + 1 => by
    simp only [sumS]
    rw [sumS_ind s ha m]
    by_cases h : a = m
    · subst h
      rw [if_neg (by omega), if_pos (by omega)]; simp [ind]
    · have e : ind a (m : Int) = 0 := by simp [ind, h]
      rw [e, Int.mul_zero, Int.add_zero]
      by_cases h2 : a < (m : Int)
      · rw [if_pos h2, if_pos (by omega)]
      · rw [if_neg h2, if_neg (by omega)]
theorem net_eq {l : List S3} (hg : goodPipes l = true) (fl s : List Int) : ∀ k, k ≤ l.length → sumS s (fun n => outN l fl n k) 8 = netK l fl s k
  | 0, _ => by
    have : ∀ m, sumS s (fun n => outN l fl n 0) m = 0 := fun m => by
      induction m with
      | zero => rfl
      | succ m ih => simp only [sumS]; rw [ih]; show 0 + inS s m * 0 = 0; simp
    exact this 8
  | k + 1, hk => by
    have ih := net_eq hg fl s k (by omega)
    have hp := goodPipes_at hg (k := k) (by omega)
    have e : (fun n => outN l fl n (k + 1)) = fun n => outN l fl n k + fl.getD k 0 * (fun n => ind (l.getD k ⟨0, 0, 0⟩).a n - ind (l.getD k ⟨0, 0, 0⟩).b n) n := funext fun n => out_ind l fl n k
    rw [e, sumS_lin, ih, sumS_sub, sumS_ind s hp.1.1, sumS_ind s hp.2.1.1, if_pos (by omega), if_pos (by omega)]
    rfl
theorem sumS_one (s : List Int) (F : Int → Int) {u : Int} (hu : 0 ≤ u) (h : ∀ n : Nat, hasB s n = true → (n : Int) ≠ u → n < 8 → F n = 0) : ∀ m : Nat, m ≤ 8 → sumS s F m = if u < m then inS s u * F u else 0
  | 0, _ => by simp [sumS]; omega
  | m + 1, hm => by
    simp only [sumS]
    rw [sumS_one s F hu h m (by omega)]
    by_cases e : u = m
    · subst e
      rw [if_neg (by omega), if_pos (by omega)]; simp
    · have h0 : inS s m * F m = 0 := by
        cases hb : hasB s (m : Int) with
        | false => simp [inS, hb]
        | true => rw [h m hb (Ne.symm e) (by omega)]; simp
      rw [h0, Int.add_zero]
      by_cases h2 : u < (m : Int)
      · rw [if_pos h2, if_pos (by omega)]
      · rw [if_neg h2, if_neg (by omega)]
theorem net_le {l : List S3} {fl : List Int} (hc : AllTo (capB l fl) l.length l.length) (s : List Int) : ∀ k, k ≤ l.length → netK l fl s k ≤ foldTo (cutStep s) 0 l k
  | 0, _ => by rw [foldTo_zero]; exact Int.le_refl 0
  | k + 1, hk => by
    have ih := net_le hc s k (by omega)
    have hk2 : k < l.length := by omega
    have hcap := capB_iff.1 (hc.2 k hk2)
    rw [foldTo_succ _ _ _ hk2]
    simp only [netK, cutStep, inS]
    rw [getD_get hk2] at hcap ⊢
    generalize fl.getD k 0 = f at *
    cases ha : hasB s l[k].a <;> cases hb : hasB s l[k].b <;> simp <;> omega
theorem net_is {l : List S3} {fl : List Int} (hc : AllTo (capB l fl) l.length l.length) (s : List Int) (h1 : ∀ k, k < l.length → hasB s (l.getD k ⟨0, 0, 0⟩).a = true → hasB s (l.getD k ⟨0, 0, 0⟩).b = false → ¬ fl.getD k 0 < (l.getD k ⟨0, 0, 0⟩).c)
    (h2 : ∀ k, k < l.length → hasB s (l.getD k ⟨0, 0, 0⟩).b = true → hasB s (l.getD k ⟨0, 0, 0⟩).a = false → ¬ 0 < fl.getD k 0) : ∀ k, k ≤ l.length → netK l fl s k = foldTo (cutStep s) 0 l k
  | 0, _ => by rw [foldTo_zero]; rfl
  | k + 1, hk => by
    have ih := net_is hc s h1 h2 k (by omega)
    have hk2 : k < l.length := by omega
    have hcap := capB_iff.1 (hc.2 k hk2)
    have h1 := h1 k hk2
    have h2 := h2 k hk2
    rw [foldTo_succ _ _ _ hk2]
    simp only [netK, cutStep, inS]
    rw [getD_get hk2] at hcap h1 h2 ⊢
    generalize fl.getD k 0 = f at *
    cases ha : hasB s l[k].a <;> cases hb : hasB s l[k].b <;> simp [ha, hb] at h1 h2 ⊢ <;> omega
theorem isFl_of {l : List S3} {u t : Int} {fl : List Int} (ha : askB l u t = true) (hl : fl.length = l.length) (hc : AllTo (capB l fl) l.length l.length) (h0 : ∀ n : Nat, n < 8 → (n : Int) ≠ u → (n : Int) ≠ t → outM l fl n = 0) : isFl l u t fl = true := by
  unfold isFl flowOk isB
  rw [ha, decide_eq_true hl]
  simp only [Bool.true_and, Bool.and_eq_true, List.all_eq_true, List.mem_range]
  refine ⟨fun j hj => hc.2 j hj, fun n hn => ?_⟩
  unfold nodeB
  by_cases e1 : (n : Int) = u
  · simp [e1]
  · by_cases e2 : (n : Int) = t
    · simp [e2]
    · simp [h0 n hn e1 e2]
theorem fl_out {l : List S3} {u t : Int} {fl s : List Int} (h : isFl l u t fl = true) (hu : hasB s u = true) (ht : hasB s t = false) : outM l fl u = netK l fl s l.length := by
  obtain ⟨hg, h1, h2, h3, h4, hc, hn⟩ := isFl_spec h
  rw [← net_eq hg fl s l.length (Nat.le_refl _)]
  have := sumS_one s (fun n => outN l fl n l.length) h1.1 (fun n hb hne h8 => by
    have := hn n h8
    unfold nodeB at this
    simp only [Bool.or_eq_true, decide_eq_true_eq] at this
    rcases this with (h5 | h5) | h5
    · exact absurd h5 hne
    · rw [h5, ht] at hb; cases hb
    · exact h5) 8 (Nat.le_refl _)
  rw [this, if_pos (by omega), inS, if_pos hu, Int.one_mul]; rfl
/-- No flow is more than a cut. -/
theorem flow_cut {l : List S3} {u t : Int} {fl s : List Int} (h : isFl l u t fl = true) (hu : hasB s u = true) (ht : hasB s t = false) : outM l fl u ≤ cutM l s := by
  rw [fl_out h hu ht]
  exact net_le (isFl_spec h).2.2.2.2.2.1 s l.length (Nat.le_refl _)
theorem gr_done {l : List S3} {u t : Int} (hg : goodPipes l = true) (hu : 0 ≤ u ∧ u ≤ 7) (hut : u ≠ t) : augM l (grM l u t) u t = 0 := by
  have key : ∀ n, (∀ j, j < n → augM l (grN l u t j) u t ≠ 0) ∨ ∃ k, k < n ∧ (∀ j, j < k → augM l (grN l u t j) u t ≠ 0) ∧ augM l (grN l u t k) u t = 0 := fun n => by
    induction n with
    | zero => exact .inl fun j hj => by omega
    | succ n ih =>
      rcases ih with h | ⟨k, h1, h2, h3⟩
      · by_cases e : augM l (grN l u t n) u t = 0
        · exact .inr ⟨n, by omega, h, e⟩
        · refine .inl fun j hj => ?_
          rcases Nat.lt_or_ge j n with c | c
          · exact h j c
          · have : j = n := by omega
            subst this; exact e
      · exact .inr ⟨k, by omega, h2, h3⟩
  rcases key 2001 with h | ⟨k, _, h2, h3⟩
  · have := gr_bound hg hu hut 2001 h; omega
  · rw [← gr_end hg hu hut h2 h3]; exact h3
theorem some_mem {s : List Int} {n : Nat} (hr : s.Pairwise (· < ·)) (hm : ∀ x ∈ s, 0 ≤ x ∧ x < n) : someB s n = true := by
  unfold someB
  rw [List.all_eq_true]
  intro i hi
  have hi2 : i < s.length := by simpa using hi
  have h1 := hm (s.getD i 0) (by rw [getD_get hi2]; exact List.getElem_mem _)
  simp only [someOk, Bool.and_eq_true, Bool.or_eq_true, decide_eq_true_eq]
  rcases Nat.eq_zero_or_pos i with h0 | h0
  · exact ⟨h1, .inl h0⟩
  · have := List.pairwise_iff_getElem.1 hr (i - 1) i (by omega) hi2 (by omega)
    rw [← getD_get (d := (0 : Int)) hi2, ← getD_get (d := (0 : Int)) (by omega : i - 1 < s.length)] at this
    exact ⟨h1, .inr this⟩
structure FlowEnd (l : List S3) (u t : Int) : Prop where
  ok : isFl l u t (grM l u t) = true
  no : augM l (grM l u t) u t = 0
  cut : cutM l (sideM l u t) = outM l (grM l u t) u
  rise : someB (sideM l u t) 8 = true
  hasU : hasB (sideM l u t) u = true
  noT : hasB (sideM l u t) t = false
theorem side_has {l : List S3} {u t : Int} (x : Int) : hasB (sideM l u t) x = hasB (srch l (grM l u t) u).1 x := by
  unfold sideM
  rw [Bool.eq_iff_iff, hasB_iff, hasB_iff, sortI_mem]
/-- As much as the least cut lets. -/
theorem flow_end {l : List S3} {u t : Int} (h : askB l u t = true) : FlowEnd l u t := by
  obtain ⟨hg, hu, ht, hut⟩ := askB_spec h
  have hs : AllTo (capB l (grM l u t)) l.length l.length ∧ (∀ n, n ≠ u → n ≠ t → outM l (grM l u t) n = 0) ∧ 0 ≤ outM l (grM l u t) u := gr_spec hg hu hut 2001
  have hfl := isFl_of h (grM_len l u t) hs.1 (fun n _ a b => hs.2.1 n a b)
  have h0 := gr_done hg hu hut
  have ha := (aug_spec hg hu hut (grM_len l u t) hs.1).2.2.2.2.1.1 h0
  have hi := srch_inv (grM l u t) hg hu
  have hU : hasB (sideM l u t) u = true := by rw [side_has]; exact hasB_iff.2 (List.mem_of_getElem? hi.head)
  have hT : hasB (sideM l u t) t = false := by rw [side_has]; exact ha
  refine ⟨hfl, h0, ?_, ?_, hU, hT⟩
  · rw [fl_out hfl hU hT]
    refine (net_is hs.1 _ (fun k hk h1 h2 h3 => ?_) (fun k hk h1 h2 h3 => ?_) l.length (Nat.le_refl _)).symm
    · rw [side_has] at h1 h2
      exact hasB_false.1 h2 (srch_closed hg hu (hasB_iff.1 h1) hk (.inl ⟨rfl, h3, rfl⟩))
    · rw [side_has] at h1 h2
      exact hasB_false.1 h2 (srch_closed hg hu (hasB_iff.1 h1) hk (.inr ⟨rfl, h3, rfl⟩))
  · have := some_mem (n := 8) (sortI_rise hi.nodup) fun x hx => by have := hi.range x (sortI_mem.1 hx); omega
    exact this
theorem flow_most {l : List S3} {u t : Int} {fl : List Int} (h : isFl l u t fl = true) : outM l fl u ≤ outM l (grM l u t) u := by
  have ha : askB l u t = true := by simp [isFl, flowOk] at h; exact h.1.1
  have he := flow_end ha
  rw [← he.cut]
  exact flow_cut h he.hasU he.noT
/-- What is put on makes more, and stays a flow. -/
theorem aug_more {l : List S3} {u t : Int} {fl : List Int} (h : isFl l u t fl = true) (hn : 0 < augM l fl u t) : isFl l u t (augO l fl u t) = true ∧ outM l (augO l fl u t) u = outM l fl u + augM l fl u t := by
  have ha : askB l u t = true := by simp [isFl, flowOk] at h; exact h.1.1
  obtain ⟨hg, h1, h2, h3, h4, hc, hnd⟩ := isFl_spec h
  have hs := aug_spec hg h1 h3 h4 hc
  have e : augO l fl u t = augF l fl u t := augO_eq (by omega)
  rw [e]
  refine ⟨isFl_of ha (by rw [augF_len]; exact h4) hs.1 (fun n n8 n1 n2 => ?_), ?_⟩
  · rw [hs.2.1]
    have e1 : ind u (n : Int) = 0 := by simp [ind, Ne.symm n1]
    have e2 : ind t (n : Int) = 0 := by simp [ind, Ne.symm n2]
    rw [e1, e2]
    have := hnd n n8
    unfold nodeB at this
    simp [n1, n2] at this
    omega
  · rw [hs.2.1]
    have e1 : ind u u = 1 := by simp [ind]
    have e2 : ind t u = 0 := by simp [ind, Ne.symm h3]
    rw [e1, e2]; omega
end YtafalojjbghlhaaAM
