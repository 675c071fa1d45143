/- Linked nodes: parts, the number of parts, forests and what they cost, in plain Lean. -/
import Derived.Test.YtnfcnocoehkgoaaAmForestMath
import Derived.Test.YtnfcnocoehkgoaaAmSymMath
set_option linter.unusedVariables false
set_option linter.unusedSimpArgs false
namespace YtnfcnocoehkgoaaAM

abbrev InR (l : List S3) (s : List Int) : Prop := ∀ k ∈ s, 0 ≤ k ∧ k < l.length
/-- A node's part, all of some links laid. -/
def labA (l : List S3) (s : List Int) (v : Int) : Int := lab l s s.length v
inductive Con (l : List S3) (s : List Int) : Int → Int → Prop
  | refl (u : Int) : Con l s u u
  | step {u v w k : Int} : Con l s u v → k ∈ s → Joins (edgeAt l k) v w → Con l s u w
section
variable {l : List S3} {s t : List Int} {u v w x : Int}
theorem Joins.symm {e : S3} (h : Joins e u v) : Joins e v u := h.elim (fun h => .inr ⟨h.2, h.1⟩) (fun h => .inl ⟨h.2, h.1⟩)
theorem Con.trans (h : Con l s u v) (g : Con l s v w) : Con l s u w := by
  induction g with
  | refl => exact h
  | step _ hk hj ih => exact .step ih hk hj
theorem Con.edge {k : Int} (hk : k ∈ s) (hj : Joins (edgeAt l k) u v) : Con l s u v := .step (.refl u) hk hj
theorem Con.symm (h : Con l s u v) : Con l s v u := by
  induction h with
  | refl => exact .refl _
  | step _ hk hj ih => exact (Con.edge hk hj.symm).trans ih
theorem Con.mono (h : Con l s u v) (hs : ∀ k ∈ s, k ∈ t) : Con l t u v := by
  induction h with
  | refl => exact .refl _
  | step _ hk hj ih => exact .step ih (hs _ hk) hj
/-- Whatever an edge at a time is linked elsewhere. -/
theorem Con.lift (h : Con l s u v) (hs : ∀ k ∈ s, Con l t (edgeAt l k).a (edgeAt l k).b) : Con l t u v := by
  induction h with
  | refl => exact .refl _
  | step _ hk hj ih =>
    refine ih.trans ?_
    rcases hj with ⟨rfl, rfl⟩ | ⟨rfl, rfl⟩
    · exact hs _ hk
    · exact (hs _ hk).symm
theorem edge_at (hg : goodEdges l = true) {k : Int} (hk : 0 ≤ k ∧ k < l.length) : (0 ≤ (edgeAt l k).a ∧ (edgeAt l k).a ≤ 7) ∧ (0 ≤ (edgeAt l k).b ∧ (edgeAt l k).b ≤ 7) ∧ (edgeAt l k).a ≠ (edgeAt l k).b ∧ 0 ≤ (edgeAt l k).c ∧ (edgeAt l k).c ≤ 1000 := by
  have := goodEdges_at hg (k := k.toNat) (by omega)
  exact this
theorem lab_take' {k : Nat} (hk : k ≤ s.length) (v : Int) : lab l s k v = labA l (s.take k) v := by
  have e := partsN_take l s k k (Nat.le_refl _) hk
  rw [labA, lab, lab, List.length_take, Nat.min_eq_left hk, e]
theorem labA_nil (hv : 0 ≤ v ∧ v ≤ 7) : labA l [] v = v := by
  show upTo8.getD v.toNat 0 = v
  have : v = 0 ∨ v = 1 ∨ v = 2 ∨ v = 3 ∨ v = 4 ∨ v = 5 ∨ v = 6 ∨ v = 7 := by omega
  rcases this with rfl | rfl | rfl | rfl | rfl | rfl | rfl | rfl <;> rfl
theorem labA_snoc (hv : 0 ≤ v ∧ v ≤ 7) : labA l (s ++ [x]) v = if labA l s v = max (labA l s (edgeAt l x).a) (labA l s (edgeAt l x).b) then min (labA l s (edgeAt l x).a) (labA l s (edgeAt l x).b) else labA l s v := by
  have hx : (s ++ [x]).getD s.length 0 = x := at_app rfl
  have ht : ∀ y, lab l (s ++ [x]) s.length y = labA l s y := fun y => by
    rw [lab_take' (by simp), List.take_left]
  unfold labA
  rw [List.length_append, List.length_singleton, lab_succ hv, hx, ht, ht, ht]
  rfl
theorem snoc_cases (s : List Int) : s = [] ∨ ∃ t x, s = t ++ [x] := by
  rcases Nat.eq_zero_or_pos s.length with h | h
  · exact .inl (List.eq_nil_of_length_eq_zero h)
  · obtain ⟨t, x, rfl, _⟩ := snoc_of (l := s) (n := s.length - 1) (by omega)
    exact .inr ⟨t, x, rfl⟩
theorem snoc_ind {P : List Int → Prop} (h0 : P []) (h1 : ∀ s x, P s → P (s ++ [x])) : ∀ (n : Nat) (s : List Int), s.length = n → P s
  | 0, s, h => by rw [List.eq_nil_of_length_eq_zero h]; exact h0
  | n + 1, s, h => by
    obtain ⟨t, x, rfl, ht⟩ := snoc_of h
    exact h1 t x (snoc_ind h0 h1 n t ht)
/-- Labels: a node of the part, not greater. -/
theorem labA_rep (hg : goodEdges l = true) (s : List Int) : InR l s → ∀ v, 0 ≤ v ∧ v ≤ 7 → (0 ≤ labA l s v ∧ labA l s v ≤ v) ∧ labA l s (labA l s v) = labA l s v := by
  refine snoc_ind (P := fun s => InR l s → ∀ v, 0 ≤ v ∧ v ≤ 7 → (0 ≤ labA l s v ∧ labA l s v ≤ v) ∧ labA l s (labA l s v) = labA l s v) (fun _ v hv => ?_) (fun s x ih hs v hv => ?_) s.length s rfl
  · rw [labA_nil hv, labA_nil hv]; exact ⟨⟨hv.1, Int.le_refl _⟩, rfl⟩
  · have ih := ih fun k hk => hs k (List.mem_append_left _ hk)
    have hx := edge_at hg (hs x (by simp))
    have hA := ih _ hx.1
    have hB := ih _ hx.2.1
    have hV := ih v hv
    have hn : ∀ y, 0 ≤ y ∧ y ≤ 7 → labA l (s ++ [x]) y = if labA l s y = max (labA l s (edgeAt l x).a) (labA l s (edgeAt l x).b) then min (labA l s (edgeAt l x).a) (labA l s (edgeAt l x).b) else labA l s y := fun y hy => labA_snoc hy
    generalize labA l s (edgeAt l x).a = A at *
    generalize labA l s (edgeAt l x).b = B at *
    rw [hn v hv]
    by_cases c : labA l s v = max A B
    · rw [if_pos c]
      refine ⟨by omega, ?_⟩
      rw [hn _ (by omega)]
      have : labA l s (min A B) = min A B := by
        rcases Int.le_total A B with h | h
        · rw [Int.min_eq_left h]; exact hA.2
        · rw [Int.min_eq_right h]; exact hB.2
      rw [this]
      split <;> rfl
    · rw [if_neg c]
      refine ⟨hV.1, ?_⟩
      rw [hn _ (by omega), hV.2, if_neg c]
theorem labA_link (hg : goodEdges l = true) (s : List Int) : InR l s → ∀ k ∈ s, labA l s (edgeAt l k).a = labA l s (edgeAt l k).b := by
  refine snoc_ind (P := fun s => InR l s → ∀ k ∈ s, labA l s (edgeAt l k).a = labA l s (edgeAt l k).b) (fun _ k hk => by cases hk) (fun s x ih hs k hk => ?_) s.length s rfl
  have he := edge_at hg (hs k hk)
  rw [labA_snoc he.1, labA_snoc he.2.1]
  rcases List.mem_append.1 hk with h | h
  · rw [ih (fun k hk => hs k (List.mem_append_left _ hk)) k h]
  · rw [List.mem_singleton] at h; subst h
    generalize labA l s (edgeAt l k).a = A
    generalize labA l s (edgeAt l k).b = B
    split <;> split <;> omega
theorem Joins.range (hg : goodEdges l = true) {k : Int} (hk : 0 ≤ k ∧ k < l.length) (h : Joins (edgeAt l k) u v) : (0 ≤ u ∧ u ≤ 7) ∧ (0 ≤ v ∧ v ≤ 7) := by
  have := edge_at hg hk
  rcases h with ⟨rfl, rfl⟩ | ⟨rfl, rfl⟩
  · exact ⟨this.1, this.2.1⟩
  · exact ⟨this.2.1, this.1⟩
theorem Con.lab (hg : goodEdges l = true) (hs : InR l s) (h : Con l s u v) : labA l s u = labA l s v := by
  induction h with
  | refl => rfl
  | step _ hk hj ih =>
    rw [ih]
    have := labA_link hg s hs _ hk
    rcases hj with ⟨rfl, rfl⟩ | ⟨rfl, rfl⟩
    · exact this
    · exact this.symm
theorem con_of (hg : goodEdges l = true) (s : List Int) : InR l s → ∀ u v, 0 ≤ u ∧ u ≤ 7 → 0 ≤ v ∧ v ≤ 7 → labA l s u = labA l s v → Con l s u v := by
  refine snoc_ind (P := fun s => InR l s → ∀ u v, 0 ≤ u ∧ u ≤ 7 → 0 ≤ v ∧ v ≤ 7 → labA l s u = labA l s v → Con l s u v) (fun _ u v hu hv h => ?_) (fun s x ih hs u v hu hv h => ?_) s.length s rfl
  · rw [labA_nil hu, labA_nil hv] at h; rw [h]; exact .refl _
  · have hs' : InR l s := fun k hk => hs k (List.mem_append_left _ hk)
    have ih := fun u v hu hv h => (ih hs' u v hu hv h).mono (t := s ++ [x]) fun k hk => List.mem_append_left _ hk
    have hx := edge_at hg (hs x (by simp))
    have hc : Con l (s ++ [x]) (edgeAt l x).a (edgeAt l x).b := .edge (by simp) (.inl ⟨rfl, rfl⟩)
    rw [labA_snoc hu, labA_snoc hv] at h
    have hA := ih u (edgeAt l x).a hu hx.1
    have hB := ih u (edgeAt l x).b hu hx.2.1
    have hA' := ih v (edgeAt l x).a hv hx.1
    have hB' := ih v (edgeAt l x).b hv hx.2.1
    have hV := ih u v hu hv
    have key : (labA l s u = labA l s v) ∨ ((labA l s u = labA l s (edgeAt l x).a ∨ labA l s u = labA l s (edgeAt l x).b) ∧ (labA l s v = labA l s (edgeAt l x).a ∨ labA l s v = labA l s (edgeAt l x).b)) := by
      generalize labA l s (edgeAt l x).a = A at *
      generalize labA l s (edgeAt l x).b = B at *
      split at h <;> split at h <;> omega
    rcases key with k | ⟨k1, k2⟩
    · exact hV k
    · have c1 : Con l (s ++ [x]) u (edgeAt l x).a := k1.elim hA fun k => (hB k).trans hc.symm
      have c2 : Con l (s ++ [x]) v (edgeAt l x).a := k2.elim hA' fun k => (hB' k).trans hc.symm
      exact c1.trans c2.symm
theorem lab_con (hg : goodEdges l = true) (hs : InR l s) (hu : 0 ≤ u ∧ u ≤ 7) (hv : 0 ≤ v ∧ v ≤ 7) : labA l s u = labA l s v ↔ Con l s u v := ⟨con_of hg s hs u v hu hv, fun h => h.lab hg hs⟩
/-- Of edges that link the same, the labels are the same. -/
theorem labA_same (hg : goodEdges l = true) (hs : InR l s) (ht : InR l t) (h : ∀ u v, Con l s u v ↔ Con l t u v) (hv : 0 ≤ v ∧ v ≤ 7) : labA l s v = labA l t v := by
  have h1 := labA_rep hg s hs v hv
  have h2 := labA_rep hg t ht v hv
  have c1 := (h _ _).1 (con_of hg s hs (labA l s v) v (by omega) hv h1.2)
  have c2 := (h _ _).2 (con_of hg t ht (labA l t v) v (by omega) hv h2.2)
  have e1 := c1.lab hg ht
  have e2 := c2.lab hg hs
  have r1 := labA_rep hg t ht (labA l s v) (by omega)
  have r2 := labA_rep hg s hs (labA l t v) (by omega)
  omega
theorem parts_same (hg : goodEdges l = true) (hs : InR l s) (ht : InR l t) (h : ∀ u v, Con l s u v ↔ Con l t u v) : partsN l s s.length = partsN l t t.length := by
  refine List.ext_getElem (by rw [partsN_len, partsN_len]) fun i h1 h2 => ?_
  have h8 := partsN_len l s s.length
  have := labA_same hg hs ht h (v := (i : Int)) (by omega)
  simp only [labA, lab] at this
  rwa [show ((i : Int)).toNat = i by omega, getD_get h1, getD_get h2] at this
/-! ### The number of parts -/
def rootsA (l : List S3) (s : List Int) : Nat := ((List.range 8).filter fun (v : Nat) => decide (labA l s (v : Int) = (v : Int))).length
theorem rootsA_same (hg : goodEdges l = true) (hs : InR l s) (ht : InR l t) (h : ∀ u v, Con l s u v ↔ Con l t u v) : rootsA l s = rootsA l t := by
  unfold rootsA
  congr 1
  refine List.filter_congr fun v hv => ?_
  have := List.mem_range.1 hv
  rw [labA_same hg hs ht h (by omega)]
theorem rootsA_nil : rootsA l [] = 8 := by
  unfold rootsA
  rw [List.filter_eq_self.2 fun v hv => ?_]
  · rfl
  · have := List.mem_range.1 hv
    rw [labA_nil (by omega)]; simp
theorem filter_less (p : Nat → Bool) (h : Nat) (hp : p h = true) : ∀ X : List Nat, X.Nodup → h ∈ X → (X.filter fun v => p v && decide (v ≠ h)).length + 1 = (X.filter p).length
  | [], _, hm => by cases hm
  | y :: X, hn, hm => by
    rw [List.nodup_cons] at hn
    by_cases c : y = h
    · subst c
      have : X.filter (fun v => p v && decide (v ≠ y)) = X.filter p := List.filter_congr fun v hv => by
        have : v ≠ y := fun e => hn.1 (e ▸ hv)
        simp [this]
      rw [List.filter_cons, List.filter_cons, this, if_neg (by simp), if_pos hp, List.length_cons]
    · have hm : h ∈ X := by
        rcases List.mem_cons.1 hm with e | e
        · exact absurd e.symm c
        · exact e
      have ih := filter_less p h hp X hn.2 hm
      rw [List.filter_cons, List.filter_cons]
      by_cases d : p y = true
      · rw [if_pos (by simp [d, c]), if_pos d, List.length_cons, List.length_cons]; omega
      · rw [if_neg (by simp [d]), if_neg d]; exact ih
theorem rootsA_snoc (hg : goodEdges l = true) (hs : InR l s) (hx : 0 ≤ x ∧ x < l.length) : rootsA l s = rootsA l (s ++ [x]) + if labA l s (edgeAt l x).a = labA l s (edgeAt l x).b then 0 else 1 := by
  have he := edge_at hg hx
  have hA := labA_rep hg s hs _ he.1
  have hB := labA_rep hg s hs _ he.2.1
  have hn : ∀ y, 0 ≤ y ∧ y ≤ 7 → labA l (s ++ [x]) y = if labA l s y = max (labA l s (edgeAt l x).a) (labA l s (edgeAt l x).b) then min (labA l s (edgeAt l x).a) (labA l s (edgeAt l x).b) else labA l s y := fun y hy => labA_snoc hy
  unfold rootsA
  by_cases c : labA l s (edgeAt l x).a = labA l s (edgeAt l x).b
  · rw [if_pos c, Nat.add_zero]
    congr 1
    refine List.filter_congr fun v hv => ?_
    have := List.mem_range.1 hv
    rw [hn _ (by omega), c]
    have : (if labA l s (v : Int) = max (labA l s (edgeAt l x).b) (labA l s (edgeAt l x).b) then min (labA l s (edgeAt l x).b) (labA l s (edgeAt l x).b) else labA l s (v : Int)) = labA l s (v : Int) := by
      split <;> omega
    rw [this]
  · rw [if_neg c]
    generalize labA l s (edgeAt l x).a = A at *
    generalize labA l s (edgeAt l x).b = B at *
    have hhi : labA l s (max A B) = max A B := by
      rcases Int.le_total A B with h | h
      · rw [Int.max_eq_right h]; exact hB.2
      · rw [Int.max_eq_left h]; exact hA.2
    have hm := filter_less (fun v => decide (labA l s (v : Int) = (v : Int))) (max A B).toNat (by
      have : (((max A B).toNat : Nat) : Int) = max A B := by omega
      rw [this, hhi]; simp) (List.range 8) List.nodup_range (List.mem_range.2 (by omega))
    rw [← hm]
    congr 2
    refine List.filter_congr fun v hv => ?_
    have hv := List.mem_range.1 hv
    have hr := labA_rep hg s hs (v : Int) (by omega)
    rw [hn _ (by omega)]
    rw [Bool.eq_iff_iff, Bool.and_eq_true, decide_eq_true_eq, decide_eq_true_eq, decide_eq_true_eq]
    constructor
    · rintro ⟨h1, h2⟩
      rw [if_neg (by omega)]; exact h1
    · intro h
      split at h
      · omega
      · exact ⟨h, by omega⟩
/-! ### Forests -/
theorem joinB_snoc : joinB l (s ++ [x]) s.length = !decide (labA l s (edgeAt l x).a = labA l s (edgeAt l x).b) := by
  have hx : (s ++ [x]).getD s.length 0 = x := at_app rfl
  rw [joinB, hx, lab_take' (by simp), lab_take' (by simp), List.take_left]
theorem joinB_take {j : Nat} (hj : j < s.length) : joinB l s j = !decide (labA l (s.take j) (edgeAt l (s.getD j 0)).a = labA l (s.take j) (edgeAt l (s.getD j 0)).b) := by
  rw [joinB, lab_take' (by omega), lab_take' (by omega)]
theorem forB_snoc : forB l (s ++ [x]) = (forB l s && !decide (labA l s (edgeAt l x).a = labA l s (edgeAt l x).b)) := by
  unfold forB
  rw [List.length_append, List.length_singleton, List.range_succ, List.all_append, List.all_cons, List.all_nil, Bool.and_true, joinB_snoc]
  congr 1
  rw [Bool.eq_iff_iff, List.all_eq_true, List.all_eq_true]
  refine forall_congr' fun j => imp_congr_right fun hj => ?_
  have hj := List.mem_range.1 hj
  have e : (s ++ [x]).getD j 0 = s.getD j 0 := by
    rw [getD_get (by simp; omega), getD_get hj, List.getElem_append_left]
  rw [joinB_take (by simp; omega), joinB_take hj, e, List.take_append_of_le_length (by omega)]
theorem for_roots (hg : goodEdges l = true) (s : List Int) : InR l s → 8 ≤ rootsA l s + s.length ∧ (forB l s = true ↔ rootsA l s + s.length = 8) := by
  refine snoc_ind (P := fun s => InR l s → 8 ≤ rootsA l s + s.length ∧ (forB l s = true ↔ rootsA l s + s.length = 8)) (fun _ => ?_) (fun s x ih hs => ?_) s.length s rfl
  · rw [rootsA_nil]; simp [forB]
  · have hs' : InR l s := fun k hk => hs k (List.mem_append_left _ hk)
    have ih := ih hs'
    have hr := rootsA_snoc hg hs' (hs x (by simp))
    rw [forB_snoc, List.length_append, List.length_singleton, Bool.and_eq_true, ih.2]
    by_cases c : labA l s (edgeAt l x).a = labA l s (edgeAt l x).b
    · rw [if_pos c] at hr
      simp only [c, decide_true, Bool.not_true, Bool.false_eq_true, and_false, false_iff]
      omega
    · rw [if_neg c] at hr
      simp only [c, decide_false, Bool.not_false, and_true]
      omega
theorem InR.filter (h : InR l s) (p : Int → Bool) : InR l (s.filter p) := fun k hk => h k (List.mem_filter.1 hk).1
theorem for_filter (hg : goodEdges l = true) (p : Int → Bool) (s : List Int) : InR l s → forB l s = true → forB l (s.filter p) = true := by
  refine snoc_ind (P := fun s => InR l s → forB l s = true → forB l (s.filter p) = true) (fun _ h => h) (fun s x ih hs h => ?_) s.length s rfl
  have hs' : InR l s := fun k hk => hs k (List.mem_append_left _ hk)
  rw [forB_snoc, Bool.and_eq_true] at h
  have ih := ih hs' h.1
  rw [List.filter_append]
  by_cases c : p x = true
  · rw [List.filter_cons, if_pos c, List.filter_nil, forB_snoc, ih, Bool.true_and]
    have he := edge_at hg (hs x (by simp))
    have hn : ¬ Con l s (edgeAt l x).a (edgeAt l x).b := fun hc => by
      have := hc.lab hg hs'
      rw [this] at h
      simp at h
    have : ¬ labA l (s.filter p) (edgeAt l x).a = labA l (s.filter p) (edgeAt l x).b := fun e =>
      hn ((con_of hg _ (hs'.filter p) _ _ he.1 he.2.1 e).mono fun k hk => (List.mem_filter.1 hk).1)
    rw [decide_eq_false this]; rfl
  · rw [List.filter_cons, if_neg c, List.filter_nil, List.append_nil]; exact ih
theorem con_mem (h : ∀ k, k ∈ s ↔ k ∈ t) (u v : Int) : Con l s u v ↔ Con l t u v := ⟨fun c => c.mono fun k hk => (h k).1 hk, fun c => c.mono fun k hk => (h k).2 hk⟩
/-- Being a forest does not hang on the order. -/
theorem for_perm (hg : goodEdges l = true) (hs : InR l s) (hm : ∀ k, k ∈ s ↔ k ∈ t) (hl : s.length = t.length) (h : forB l s = true) : forB l t = true := by
  have ht : InR l t := fun k hk => hs k ((hm k).2 hk)
  have h1 := (for_roots hg s hs).2.1 h
  rw [(for_roots hg t ht).2, ← rootsA_same hg hs ht (con_mem hm), ← hl]
  exact h1
/-! ### What they cost -/
abbrev co (l : List S3) (k : Int) : Int := (edgeAt l k).c
def low (l : List S3) (s : List Int) (c : Int) : List Int := s.filter fun k => decide (co l k ≤ c)
def costA (l : List S3) (s : List Int) : Int := (s.map (co l)).sum
/-- How many cost more, for each cost below n, together. -/
def overN (l : List S3) (s : List Int) : Nat → Int
  | 0 => 0
  | n + 1 => overN l s n + ((s.length : Int) - (low l s (n : Int)).length)
theorem overN_nil : ∀ n, overN l [] n = 0
  | 0 => rfl
  | n + 1 => by rw [overN, overN_nil n]; rfl
theorem overN_cons (hx : 0 ≤ co l x) : ∀ n : Nat, overN l (x :: s) n = overN l s n + min (co l x) n
  | 0 => by simp only [overN]; omega
  | n + 1 => by
    rw [overN, overN, overN_cons hx n, low, low, List.filter_cons]
    by_cases c : co l x ≤ (n : Int)
    · rw [if_pos (by simpa using c), List.length_cons, List.length_cons]; omega
    · rw [if_neg (by simpa using c), List.length_cons]; omega
theorem overN_cost (hg : goodEdges l = true) : ∀ s, InR l s → overN l s 1000 = costA l s
  | [], _ => by rw [overN_nil]; rfl
  | x :: s, hs => by
    have he := edge_at hg (hs x (by simp))
    rw [overN_cons he.2.2.2.1, overN_cost hg s fun k hk => hs k (List.mem_cons_of_mem _ hk)]
    show costA l s + min (edgeAt l x).c (1000 : Nat) = costA l (x :: s)
    rw [costA, costA, List.map_cons, List.sum_cons]
    show _ = (edgeAt l x).c + _
    omega
theorem overN_same (hl : s.length = t.length) (h : ∀ c, (low l s c).length = (low l t c).length) : ∀ n, overN l s n = overN l t n
  | 0 => rfl
  | n + 1 => by rw [overN, overN, overN_same hl h n, hl, h]
/-- Spans, edge by edge, with nothing dearer. -/
def Spans (l : List S3) (s : List Int) : Prop := ∀ k : Int, 0 ≤ k ∧ k < l.length → Con l (low l s (co l k)) (edgeAt l k).a (edgeAt l k).b
theorem low_low {c d : Int} (h : c ≤ d) : ∀ k ∈ low l s c, k ∈ low l s d := fun k hk => by
  have := List.mem_filter.1 hk
  exact List.mem_filter.2 ⟨this.1, by have := this.2; simp at this ⊢; omega⟩
theorem Spans.low (h : Spans l s) (ht : InR l t) {c : Int} (hc : Con l (low l t c) u v) : Con l (YtnfcnocoehkgoaaAM.low l s c) u v := hc.lift fun k hk => by
  have := List.mem_filter.1 hk
  exact (h k (ht k this.1)).mono (low_low (by have := this.2; simpa using this))
theorem low_all (hg : goodEdges l = true) (hs : InR l s) : low l s 1000 = s := List.filter_eq_self.2 fun k hk => by
  have := (edge_at hg (hs k hk)).2.2.2.2
  exact decide_eq_true this
/-- Two forests that span with nothing dearer cost the same. -/
theorem span_cost (hg : goodEdges l = true) (hs : InR l s) (ht : InR l t) (fs : forB l s = true) (ft : forB l t = true) (h1 : Spans l s) (h2 : Spans l t) : costA l s = costA l t := by
  have hc : ∀ c, (low l s c).length = (low l t c).length := fun c => by
    have r1 := (for_roots hg _ (hs.filter _)).2.1 (for_filter hg (fun k => decide (co l k ≤ c)) s hs fs)
    have r2 := (for_roots hg _ (ht.filter _)).2.1 (for_filter hg (fun k => decide (co l k ≤ c)) t ht ft)
    have := rootsA_same hg (hs.filter _) (ht.filter _) (s := s.filter fun k => decide (co l k ≤ c)) (t := t.filter fun k => decide (co l k ≤ c)) fun u v => ⟨fun h => h2.low hs h, fun h => h1.low ht h⟩
    show (s.filter fun k => decide (co l k ≤ c)).length = (t.filter fun k => decide (co l k ≤ c)).length
    omega
  have hl := hc 1000
  rw [low_all hg hs, low_all hg ht] at hl
  rw [← overN_cost hg s hs, ← overN_cost hg t ht, overN_same hl hc]
end
end YtnfcnocoehkgoaaAM
