/- Jackson; Moore and Hodgson: the orders of jobs that the laws speak of. In plain Lean. -/
import Derived.Test.YtockeinpdioahaaAmJobOrds
set_option linter.unusedVariables false
set_option linter.unusedSimpArgs false
namespace YtockeinpdioahaaAM
section
variable {l : List S2}
theorem lng_pos (h : goodJobs l = true) {x : Int} (hx : 0 ≤ x ∧ x < l.length) : 0 ≤ lng l x := by have := (job_range h hx).1; omega
theorem byA_up (l : List S2) : (byA l).Pairwise (fun a b => due l a ≤ due l b) := sortI_upK _
theorem byA_ord (l : List S2) : ordB l.length (byA l) = true := ordB_iff.2 ⟨byA_len l, byA_nodup l, fun x hx => byA_mem.1 hx⟩
theorem byA_jo (h : goodJobs l = true) : joB l (byA l) = true := joB_yes h (byA_ord l)
/-- Jackson. -/
theorem by_best (h : goodJobs l = true) {o : List Int} (ho : joB l o = true) : lateM (lng l) (due l) (byA l) ≤ lateM (lng l) (due l) o :=
  jackson (byA_nodup l) (byA_up l) (fun x hx => ord_full (joB_ord ho) (byA_mem.1 hx)) (fun k hk => lng_pos h ((ordB_iff.1 (joB_ord ho)).2.2 k hk))
theorem ord_perm {n : Nat} {a b : List Int} (h : a.Perm b) (hb : ordB n b = true) : ordB n a = true := by
  obtain ⟨h1, h2, h3⟩ := ordB_iff.1 hb
  exact ordB_iff.2 ⟨by rw [h.length_eq]; exact h1, h.nodup_iff.2 h2, fun x hx => h3 x (h.mem_iff.1 hx)⟩
theorem swap_perm : ∀ (d : List Int) (i : Nat), i + 1 < d.length → ((d.set i (d.getD (i + 1) 0)).set (i + 1) (d.getD i 0)).Perm d
  | [], i, h => by simp at h
  | [x], i, h => by simp at h
  | x :: y :: d, 0, _ => by simp only [List.set_cons_zero, List.set_cons_succ, List.getD_cons_succ, List.getD_cons_zero]; exact List.Perm.swap x y d
  | x :: y :: d, i + 1, h => by
    have ih := swap_perm (y :: d) i (by simpa using h)
    simp only [List.set_cons_succ, List.getD_cons_succ] at ih ⊢
    exact ih.cons x
theorem swap_jo (h : goodJobs l = true) {k : Nat} (hk : k + 1 < l.length) : joB l (((sub [] 0 0 ++ sub (byA l) 0 l.length).set k ((byA l).getD (k + 1) 0)).set (k + 1) ((byA l).getD k 0)) = true := by
  have hl := byA_len l
  rw [show sub ([] : List Int) 0 0 ++ sub (byA l) 0 l.length = byA l by rw [← hl, sub_all' rfl]; rfl]
  exact joB_yes h (ord_perm (swap_perm (byA l) k (by omega)) (byA_ord l))

/-! ### Some jobs ahead -/
theorem onT_all (L D : Int → Int) : ∀ (F : List Int) (t : Int), (∀ a k b, F = a ++ k :: b → t + sumL L a + L k ≤ D k) → onT L D F t = F
  | [], _, _ => rfl
  | k :: o, t, h => by
    have h1 := h [] k o rfl
    rw [sumL_nil, Int.add_zero] at h1
    simp only [onT]
    rw [if_pos h1, onT_all L D o (t + L k) (fun a x b e => by
      have := h (k :: a) x b (by rw [e]; rfl)
      rw [sumL_cons] at this
      omega)]
theorem onT_app (L D : Int → Int) (b : List Int) : ∀ (a : List Int) (t : Int), onT L D (a ++ b) t = onT L D a t ++ onT L D b (t + sumL L a)
  | [], t => by rw [sumL_nil, Int.add_zero]; rfl
  | k :: a, t => by
    rw [List.cons_append]
    simp only [onT]
    rw [onT_app L D b a, sumL_cons, show t + L k + sumL L a = t + (L k + sumL L a) by omega]
    split <;> simp
theorem inTime_late (L D : Int → Int) {F : List Int} (h : InTime L D F) : lateM L D F ≤ 0 := late_max (Int.le_refl 0) fun a k b e => by have := h a k b e; omega
theorem late_inTime (L D : Int → Int) {F : List Int} (h : lateM L D F ≤ 0) : InTime L D F := fun a k b e => by have := late_at (L := L) (D := D) e; omega
theorem someB_nodup {s : List Int} {n : Int} (h : someB s n = true) : s.Nodup := (someB_rise h).imp fun h => by omega
theorem rest_mem {n : Nat} {s : List Int} {x : Int} : x ∈ (rangeI n).filter (fun x => !hasB s x) ↔ (0 ≤ x ∧ x < n) ∧ x ∉ s := by
  rw [List.mem_filter, rangeI_mem]
  constructor
  · rintro ⟨h1, h2⟩; exact ⟨h1, hasB_false.1 (by simpa using h2)⟩
  · rintro ⟨h1, h2⟩; exact ⟨h1, by rw [hasB_false.2 h2]; rfl⟩
theorem byL_nodup {s : List Int} (h : s.Nodup) : (byL l s).Nodup := sortN_nodupK (key := due l) h s.length (Nat.le_refl _)
theorem byL_up (s : List Int) : (byL l s).Pairwise (fun a b => due l a ≤ due l b) := sortI_upK _
theorem of_yes {s : List Int} (h : goodJobs l = true) (hs : someB s l.length = true) : ofL l s = byL l s ++ byL l ((rangeI l.length).filter fun x => !hasB s x) := by
  rw [ofL, if_pos (by rw [h, hs]; rfl)]
theorem of_mem {s : List Int} (h : goodJobs l = true) (hs : someB s l.length = true) {x : Int} : x ∈ ofL l s ↔ 0 ≤ x ∧ x < l.length := by
  rw [of_yes h hs, List.mem_append, byL_mem, byL_mem, rest_mem]
  constructor
  · rintro (h1 | h1)
    · exact someB_mem hs h1
    · exact h1.1
  · intro h1
    by_cases c : x ∈ s
    · exact .inl c
    · exact .inr ⟨h1, c⟩
theorem of_nodup {s : List Int} (h : goodJobs l = true) (hs : someB s l.length = true) : (ofL l s).Nodup := by
  rw [of_yes h hs, List.nodup_append]
  refine ⟨byL_nodup (someB_nodup hs), byL_nodup ((rangeI_nodup _).filter _), fun x hx y hy e => ?_⟩
  rw [byL_mem] at hx hy
  subst e
  exact (rest_mem.1 hy).2 hx
theorem of_ord {s : List Int} (h : goodJobs l = true) (hs : someB s l.length = true) : ordB l.length (ofL l s) = true := by
  have h1 := nod_sub_len (of_nodup h hs) (T := rangeI l.length) (fun x hx => rangeI_mem.2 ((of_mem h hs).1 hx))
  have h2 := nod_sub_len (rangeI_nodup l.length) (T := ofL l s) (fun x hx => (of_mem h hs).2 (rangeI_mem.1 hx))
  rw [rangeI_length] at h1 h2
  exact ordB_iff.2 ⟨by omega, of_nodup h hs, fun x hx => (of_mem h hs).1 hx⟩
theorem of_jo {s : List Int} (h : goodJobs l = true) (hs : someB s l.length = true) : joB l (ofL l s) = true := joB_yes h (of_ord h hs)
theorem of_len {s : List Int} (h : goodJobs l = true) (hs : someB s l.length = true) : (ofL l s).length = l.length := (ordB_iff.1 (of_ord h hs)).1
theorem some_of {s : List Int} {n : Nat} (hr : s.Pairwise (· < ·)) (hm : ∀ x ∈ s, 0 ≤ x ∧ x < n) : someB s n = true := by
  unfold someB
  rw [List.all_eq_true]
  intro i hi
  have hi2 : i < s.length := by simpa using hi
  have h1 := hm (s.getD i 0) (by rw [getD_get hi2]; exact List.getElem_mem _)
  simp only [someOk, Bool.and_eq_true, Bool.or_eq_true, decide_eq_true_eq]
  rcases Nat.eq_zero_or_pos i with h0 | h0
  · exact ⟨h1, .inl h0⟩
  · have := List.pairwise_iff_getElem.1 hr (i - 1) i (by omega) hi2 (by omega)
    rw [← getD_get (d := (0 : Int)) hi2, ← getD_get (d := (0 : Int)) (by omega : i - 1 < s.length)] at this
    exact ⟨h1, .inr this⟩
theorem sel_some (q : Int → Bool) (n : Nat) : someB (selN q n) n = true :=
  some_of ((rangeI_rise n).filter _) fun x hx => rangeI_mem.1 (List.mem_filter.1 hx).1
theorem moo_some (l : List S2) : someB (sortI (mooA l)) l.length = true :=
  some_of (sortI_rise (mooA_nodup l)) fun x hx => mooJ_mem (Nat.le_refl _) (sortI_mem.1 hx)
/-! ### Moore and Hodgson -/
theorem on_le (h : goodJobs l = true) {o : List Int} (ho : ordB l.length o = true) : (onT (lng l) (due l) o 0).length ≤ (mooA l).length :=
  moore (byA_nodup l) (byA_up l) (ordB_iff.1 ho).2.1 (fun x => by rw [byA_mem]; exact ⟨(ordB_iff.1 ho).2.2 x, ord_full ho⟩) (fun k hk => lng_pos h (byA_mem.1 hk))
theorem late_ge_moo (h : goodJobs l = true) {o : List Int} (ho : ordB l.length o = true) : l.length ≤ lateN (lng l) (due l) o 0 + (mooA l).length := by
  have h1 := on_le h ho
  have h2 := late_on (L := lng l) (D := due l) o 0
  rw [(ordB_iff.1 ho).1] at h2
  omega
theorem moo_on (h : goodJobs l = true) : (mooA l).length ≤ (onT (lng l) (due l) (ofL l (sortI (mooA l))) 0).length := by
  have hb := (moore_best (L := lng l) (D := due l) (byA_nodup l) (fun y hy => lng_pos h (byA_mem.1 hy)) (byA_up l)).1
  have hL : ∀ k ∈ mooA l, 0 ≤ lng l k := fun k hk => lng_pos h (mooJ_mem (Nat.le_refl _) hk)
  have hj := jackson (L := lng l) (D := due l) (E := byL l (sortI (mooA l))) (o := mooA l) (byL_nodup ((sortI_perm _).nodup_iff.2 (mooA_nodup l))) (byL_up _) (fun x hx => sortI_mem.1 (byL_mem.1 hx)) hL
  have hi := late_inTime (lng l) (due l) (Int.le_trans hj (inTime_late _ _ hb))
  rw [of_yes h (moo_some l), onT_app, onT_all (lng l) (due l) _ 0 (fun a k b e => by have := hi a k b e; omega), List.length_append, byL_len, sortI_len]
  omega
/-- How many are late where as many are in time as can be. -/
theorem moo_late (h : goodJobs l = true) : lateN (lng l) (due l) (ofL l (sortI (mooA l))) 0 + (mooA l).length = l.length := by
  have h1 := late_ge_moo h (of_ord h (moo_some l))
  have h2 := moo_on h
  have h3 := late_on (L := lng l) (D := due l) (ofL l (sortI (mooA l))) 0
  rw [of_len h (moo_some l)] at h3
  omega
end
end YtockeinpdioahaaAM
