/- Forests that cost least: Prim's is one, paths in them, cuts; in plain Lean. -/
import Derived.Test.YtnfcnocoehkgoaaAmKruWalk
set_option linter.unusedVariables false
set_option linter.unusedSimpArgs false
namespace YtnfcnocoehkgoaaAM

section
variable {l : List S3} {s t : List Int} {u v : Int}
/-! ### Prim -/
theorem con_cross {P : Int → Bool} (h : Con l s u v) (hp : P u ≠ P v) : ∃ k ∈ s, P (edgeAt l k).a ≠ P (edgeAt l k).b := by
  induction h with
  | refl => exact absurd rfl hp
  | @step v w k _ hk hj ih =>
    by_cases c : P u = P v
    · refine ⟨k, hk, fun e => hp ?_⟩
      rcases hj with ⟨rfl, rfl⟩ | ⟨rfl, rfl⟩
      · rw [c, e]
      · rw [c, e]
    · exact ih c
abbrev allE (l : List S3) : List Int := rngI l.length
theorem allE_in : InR l (allE l) := fun k hk => rngI_mem.1 hk
theorem bestN_least (r : List Bool) : ∀ k j, j < k → crossB l r j = true → 0 ≤ bestN l r k ∧ (eg l (bestN l r k).toNat).c ≤ (eg l j).c
  | 0, j, h, _ => by omega
  | k + 1, j, h, hc => by
    have hlt := bestN_lt (l := l) r k
    rw [bestN_succ, bestS]
    rcases Nat.lt_or_ge j k with c | c
    · have ih := bestN_least r k j c hc
      split
      · rename_i h2
        refine ⟨by omega, ?_⟩
        rw [Int.toNat_natCast]
        omega
      · exact ih
    · have : j = k := by omega
      subst this
      split
      · refine ⟨by omega, ?_⟩
        rw [Int.toNat_natCast]; exact Int.le_refl _
      · rename_i h2
        rw [not_and, not_or] at h2
        have := h2 hc
        omega
/-- What is reached, and what that says. -/
structure PJ (l : List S3) (st : List Bool × List Int) : Prop where
  base : PrimI l st
  tree : forB l st.2 = true
  span : ∀ c u v, (0 ≤ u ∧ u ≤ 7) → (0 ≤ v ∧ v ≤ 7) → atB st.1 u = true → atB st.1 v = true → Con l (low l (allE l) c) u v → Con l (low l st.2 c) u v
theorem PJ.inr {st : List Bool × List Int} (h : PJ l st) : InR l st.2 := fun k hk => ⟨(h.base.within k hk).1, (h.base.within k hk).2.1⟩
theorem PJ.zero : PJ l (List.replicate 8 false, []) := ⟨PrimI.zero, rfl, fun c u v hu hv h => by
  have : atB (List.replicate 8 false) u = false := by
    unfold atB
    have : u = 0 ∨ u = 1 ∨ u = 2 ∨ u = 3 ∨ u = 4 ∨ u = 5 ∨ u = 6 ∨ u = 7 := by omega
    rcases this with rfl | rfl | rfl | rfl | rfl | rfl | rfl | rfl <;> rfl
  rw [this] at h; cases h⟩
theorem low_in {c : Int} (hs : InR l s) : InR l (low l s c) := hs.filter _
theorem low_snoc {c x : Int} : ∀ k ∈ low l s c, k ∈ low l (s ++ [x]) c := fun k hk => by
  have := List.mem_filter.1 hk
  exact List.mem_filter.2 ⟨List.mem_append_left _ this.1, this.2⟩
theorem crossB_eq (r : List Bool) {k : Int} (hk : 0 ≤ k) : crossB l r k.toNat = (atB r (edgeAt l k).a != atB r (edgeAt l k).b) := rfl
/-- A way that leaves what is reached takes an edge that crosses. -/
theorem leave {st : List Bool × List Int} {c : Int} (h : Con l (low l (allE l) c) u v) (h1 : atB st.1 u = true) (h2 : atB st.1 v = false) : ∃ k : Nat, k < l.length ∧ crossB l st.1 k = true ∧ (eg l k).c ≤ c := by
  obtain ⟨k, hk, hx⟩ := con_cross (P := atB st.1) h (by rw [h1, h2]; decide)
  have hm := List.mem_filter.1 hk
  have hr := rngI_mem.1 hm.1
  refine ⟨k.toNat, by omega, ?_, ?_⟩
  · rw [crossB_eq _ hr.1]
    simpa using hx
  · exact of_decide_eq_true hm.2
theorem PJ.stay {st : List Bool × List Int} (h : PJ l st) (hc : Con l st.2 u v) (hu : atB st.1 u = true) : atB st.1 v = true := by
  by_cases e : atB st.1 v = true
  · exact e
  · obtain ⟨k, hk, hx⟩ := con_cross (P := atB st.1) hc (by rw [hu]; exact fun e2 => e e2.symm)
    have hw := h.base.within k hk
    have h1 : atB st.1 (edgeAt l k).a = true := hw.2.2.1
    have h2 : atB st.1 (edgeAt l k).b = true := hw.2.2.2
    rw [h1, h2] at hx
    exact absurd rfl hx
theorem mark2_at {r : List Bool} {b : Int} (hg : goodEdges l = true) (hr : r.length = 8) (hb : b.toNat < l.length) (hb0 : 0 ≤ b) {n : Int} (hn : 0 ≤ n) (h : atB (mark2 l r b) n = true) : atB r n = true ∨ n = (edgeAt l b).a ∨ n = (edgeAt l b).b := by
  have e : (mark2 l r b).getD n.toNat false = (r.getD n.toNat false || decide (n.toNat = (eg l b.toNat).a.toNat) || decide (n.toNat = (eg l b.toNat).b.toNat)) := mark2_get hg hr hb n.toNat
  have he := edge_at hg (k := b) (by omega)
  unfold atB at h
  rw [e] at h
  simp only [Bool.or_eq_true, decide_eq_true_eq] at h
  have ha : (eg l b.toNat).a = (edgeAt l b).a := rfl
  have hb2 : (eg l b.toNat).b = (edgeAt l b).b := rfl
  rw [ha, hb2] at h
  rcases h with (h | h) | h
  · exact .inl h
  · exact .inr (.inl (by omega))
  · exact .inr (.inr (by omega))
theorem PJ.grow {st : List Bool × List Int} (hg : goodEdges l = true) (h : PJ l st) : PJ l (growS l st) := by
  by_cases hb : bestM l st.1 < 0
  · rw [growS_stop hb]; exact h
  · have hlt := bestM_lt (l := l) st.1
    have hc : crossB l st.1 (bestM l st.1).toNat = true := bestM_cross _ (by omega)
    have hbl : (bestM l st.1).toNat < l.length := by omega
    have hleast : ∀ k : Nat, k < l.length → crossB l st.1 k = true → (edgeAt l (bestM l st.1)).c ≤ (eg l k).c := fun k hk hx => (bestN_least st.1 l.length k hk hx).2
    have hbase := h.base.grow hg
    rw [growS_go hb] at hbase ⊢
    generalize bestM l st.1 = b at *
    have he := edge_at hg (k := b) (by omega)
    rw [crossB_eq _ (by omega)] at hc
    have hne : atB st.1 (edgeAt l b).a ≠ atB st.1 (edgeAt l b).b := by simpa using hc
    have hs := h.inr
    -- the two ends: one is reached, one is not
    obtain ⟨x, y, hx, hy, hj, hxr, hyr⟩ : ∃ x y, atB st.1 x = true ∧ atB st.1 y = false ∧ Joins (edgeAt l b) x y ∧ (0 ≤ x ∧ x ≤ 7) ∧ (0 ≤ y ∧ y ≤ 7) := by
      cases ha : atB st.1 (edgeAt l b).a <;> cases hb2 : atB st.1 (edgeAt l b).b
      · rw [ha, hb2] at hne; exact absurd rfl hne
      · exact ⟨_, _, hb2, ha, .inr ⟨rfl, rfl⟩, he.2.1, he.1⟩
      · exact ⟨_, _, ha, hb2, .inl ⟨rfl, rfl⟩, he.1, he.2.1⟩
      · rw [ha, hb2] at hne; exact absurd rfl hne
    refine ⟨hbase, ?_, fun c u v hu hv h1 h2 hcon => ?_⟩
    · rw [forB_snoc, h.tree, Bool.true_and]
      have : ¬ labA l st.2 (edgeAt l b).a = labA l st.2 (edgeAt l b).b := fun e => by
        have hcc := con_of hg _ hs _ _ he.1 he.2.1 e
        cases ha : atB st.1 (edgeAt l b).a with
        | true => exact hne (by rw [ha, h.stay hcc ha])
        | false =>
          cases hb2 : atB st.1 (edgeAt l b).b with
          | true =>
            have h9 := h.stay hcc.symm hb2
            rw [ha] at h9; cases h9
          | false => exact hne (by rw [ha, hb2])
      rw [decide_eq_false this]; rfl
    · have hends : ∀ w : Int, (0 ≤ w ∧ w ≤ 7) → atB (mark2 l st.1 b) w = true → atB st.1 w = true ∨ w = y := fun w hw h1 => by
        rcases mark2_at hg h.base.len hbl (by omega) hw.1 h1 with h3 | h3 | h3
        · exact .inl h3
        · rcases hj with ⟨rfl, rfl⟩ | ⟨rfl, rfl⟩
          · subst h3; exact .inl hx
          · exact .inr h3
        · rcases hj with ⟨rfl, rfl⟩ | ⟨rfl, rfl⟩
          · exact .inr h3
          · subst h3; exact .inl hx
      -- one of the two is new
      have one : ∀ w, (0 ≤ w ∧ w ≤ 7) → atB st.1 w = true → Con l (low l (allE l) c) w y → Con l (low l (st.2 ++ [b]) c) w y := fun w hw h1 hcon => by
        obtain ⟨k, hk, hx2, hkc⟩ := leave hcon h1 hy
        have hbc : (edgeAt l b).c ≤ c := Int.le_trans (hleast k hk hx2) hkc
        have hbm : b ∈ low l (st.2 ++ [b]) c := List.mem_filter.2 ⟨by simp, decide_eq_true hbc⟩
        have hba : b ∈ low l (allE l) c := List.mem_filter.2 ⟨rngI_mem.2 (by omega), decide_eq_true hbc⟩
        have h3 := h.span c w x hw hxr h1 hx (hcon.trans (Con.edge hba hj.symm))
        exact (h3.mono low_snoc).trans (Con.edge hbm hj)
      rcases hends u hu h1 with a1 | a1 <;> rcases hends v hv h2 with a2 | a2
      · exact (h.span c u v hu hv a1 a2 hcon).mono low_snoc
      · subst a2; exact one u hu a1 hcon
      · subst a1; exact (one v hv a2 hcon.symm).symm
      · subst a1; subst a2; exact .refl _
theorem PJ.growN {st : List Bool × List Int} (hg : goodEdges l = true) (h : PJ l st) : ∀ j, PJ l (growN l st j)
  | 0 => h
  | j + 1 => (PJ.growN hg h j).grow hg
theorem PJ.on {st : List Bool × List Int} (hg : goodEdges l = true) (h : PJ l st) (hsh : Shut l st.1) {i : Nat} (hi : i < 8) : PJ l (onB st.1 i, st.2) := by
  refine ⟨h.base.on hi, h.tree, fun c u v hu hv h1 h2 hcon => ?_⟩
  have hget : ∀ w : Int, (0 ≤ w ∧ w ≤ 7) → atB (onB st.1 i) w = true → atB st.1 w = true ∨ w = i := fun w hw h1 => by
    unfold atB onB at h1
    rw [getD_setI (by rw [h.base.len]; exact hi)] at h1
    split at h1
    · exact .inr (by omega)
    · exact .inl h1
  have shut : ∀ w z, atB st.1 w = true → atB st.1 z = false → Con l (low l (allE l) c) w z → False := fun w z h1 h2 hcon => by
    obtain ⟨k, hk, hx, _⟩ := leave hcon h1 h2
    rw [hsh k hk] at hx; cases hx
  rcases hget u hu h1 with a1 | a1 <;> rcases hget v hv h2 with a2 | a2
  · exact h.span c u v hu hv a1 a2 hcon
  · cases e : atB st.1 v with
    | true => exact h.span c u v hu hv a1 e hcon
    | false => exact (shut u v a1 e hcon).elim
  · cases e : atB st.1 u with
    | true => exact h.span c u v hu hv e a2 hcon
    | false => exact (shut v u a2 e hcon.symm).elim
  · rw [a1, a2]; exact .refl _
theorem primN_pj (hg : goodEdges l = true) : ∀ i, i ≤ 8 → PJ l (primN l i)
  | 0, _ => PJ.zero
  | i + 1, h => ((primN_pj hg i (by omega)).on hg (primN_shut hg i) (by omega)).growN hg 8
theorem growS_mono (hg : goodEdges l = true) {st : List Bool × List Int} (hl : st.1.length = 8) {n : Nat} (h : st.1.getD n false = true) : (growS l st).1.getD n false = true := by
  by_cases hb : bestM l st.1 < 0
  · rw [growS_stop hb]; exact h
  · have hlt := bestM_lt (l := l) st.1
    rw [growS_go hb]
    show (mark2 l st.1 (bestM l st.1)).getD n false = true
    rw [mark2_get hg hl (by omega), h]; rfl
theorem growN_mono (hg : goodEdges l = true) {st : List Bool × List Int} (hl : st.1.length = 8) {n : Nat} (h : st.1.getD n false = true) : ∀ j, (growN l st j).1.getD n false = true
  | 0 => h
  | j + 1 => growS_mono (st := growN l st j) hg ((growN_len st j).trans hl) (growN_mono hg hl h j)
theorem primN_all (hg : goodEdges l = true) : ∀ i, i ≤ 8 → ∀ n, n < i → (primN l i).1.getD n false = true
  | 0, _, n, h => by omega
  | i + 1, hi, n, h => by
    refine growN_mono hg (by show (onB (primN l i).1 i).length = 8; rw [onB_len, primN_len]) ?_ 8
    show (onB (primN l i).1 i).getD n false = true
    unfold onB
    rw [getD_setI (by rw [primN_len]; omega)]
    split
    · rfl
    · exact primN_all hg i (by omega) n (by omega)
theorem prim_span (hg : goodEdges l = true) : Spans l (primN l 8).2 := fun k hk => by
  have h := primN_pj hg 8 (Nat.le_refl _)
  have he := edge_at hg hk
  refine h.span _ _ _ he.1 he.2.1 (primN_all hg 8 (Nat.le_refl _) _ (by omega)) (primN_all hg 8 (Nat.le_refl _) _ (by omega)) (Con.edge (k := k) (List.mem_filter.2 ⟨rngI_mem.2 hk, decide_eq_true (Int.le_refl _)⟩) (.inl ⟨rfl, rfl⟩))
/-! ### What they cost -/
theorem ins_permE (x : Int) (s : List Int) : (ins x s).Perm (x :: s) := by
  unfold ins
  refine List.perm_middle.trans (List.Perm.cons x ?_)
  have h : s.filter (fun y => decide (x < y)) = s.filter (fun y => !decide (y ≤ x)) := List.filter_congr fun y _ => by
    by_cases c : y ≤ x
    · simp [c]
    · simp [c]; omega
  rw [h]
  exact List.filter_append_perm _ _
theorem sortN_permE (l : List Int) : ∀ k, k ≤ l.length → (sortN l k).Perm (l.take k)
  | 0, _ => by rw [sortN_zero]; simp
  | k + 1, h => by
    rw [sortN_succ (by omega), List.take_succ_eq_append_getElem (by omega)]
    refine (ins_permE _ _).trans ?_
    rw [getD_get (by omega)]
    exact ((sortN_permE l k (by omega)).cons _).trans (List.perm_append_singleton _ _).symm
theorem sortI_permE (l : List Int) : (sortI l).Perm l := by
  have := sortN_permE l l.length (Nat.le_refl _)
  rwa [List.take_of_length_le (Nat.le_refl _)] at this
theorem costA_perm (h : s.Perm t) : costA l s = costA l t := by
  unfold costA
  induction h with
  | nil => rfl
  | cons x _ ih => rw [List.map_cons, List.map_cons, List.sum_cons, List.sum_cons, ih]
  | swap x y _ => simp only [List.map_cons, List.sum_cons]; omega
  | trans _ _ h1 h2 => exact h1.trans h2
theorem costL_eq (s : List Int) : ∀ k, k ≤ s.length → costL l s k = costA l (s.take k)
  | 0, _ => rfl
  | k + 1, h => by
    rw [costL_succ, costL_eq s k (by omega), costA, costA, List.take_succ_eq_append_getElem (by omega), List.map_append, List.sum_append, getD_get (by omega)]
    simp only [List.map_cons, List.map_nil, List.sum_cons, List.sum_nil]
    show _ + (edgeAt l s[k]).c = _ + ((edgeAt l s[k]).c + 0)
    omega
theorem costL_all (s : List Int) : costL l s s.length = costA l s := by rw [costL_eq s _ (Nat.le_refl _), List.take_of_length_le (Nat.le_refl _)]
theorem kru_span (hg : goodEdges l = true) : Spans l (pickA l (ordE l)) := fun k hk => pick_span hg _ (ordE l) rfl ordE_in ordE_up k ((ordE_mem k).2 hk)
theorem kru_prim (hg : goodEdges l = true) : kruC l = primC l := by
  have hp := primN_pj hg 8 (Nat.le_refl _)
  have h := span_cost hg (pick_in ordE_in) hp.inr (pick_for hg _ _ rfl ordE_in) hp.tree (kru_span hg) (prim_span hg)
  rw [kruC_yes hg, costL_all, costA_perm (sortI_permE _), h]
  unfold primC
  rw [if_pos hg, costL_all]
  unfold primL
  rw [if_pos hg, costA_perm (sortI_permE _)]
/-! ### The forest of the answer -/
theorem kru_range (hg : goodEdges l = true) : InR l (kruL l) := by rw [kruL_yes hg]; exact sort_in (pick_in ordE_in)
theorem ordE_nodup : (ordE l).Nodup := lts_nodup ordE_lts
theorem kru_nodup (hg : goodEdges l = true) : (kruL l).Nodup := by rw [kruL_yes hg]; exact (sortI_permE _).nodup_iff.2 (pick_nodup ordE_nodup)
theorem kru_some (hg : goodEdges l = true) : someB (kruL l) l.length = true := by rw [kruL_yes hg]; exact sort_some (pick_in ordE_in) (pick_nodup ordE_nodup)
theorem kru_for (hg : goodEdges l = true) : forB l (kruL l) = true := by
  rw [kruL_yes hg]
  exact for_perm hg (pick_in ordE_in) (fun k => sortI_mem.symm) (sortI_len _).symm (pick_for hg _ _ rfl ordE_in)
theorem kru_spans (hg : goodEdges l = true) : Spans l (kruL l) := fun k hk => by
  rw [kruL_yes hg]
  refine (kru_span hg k hk).mono fun y hy => ?_
  have := List.mem_filter.1 hy
  exact List.mem_filter.2 ⟨sortI_mem.2 this.1, this.2⟩
theorem kru_con (hg : goodEdges l = true) (u v : Int) : Con l (kruL l) u v ↔ Con l (allE l) u v := by
  rw [kruL_yes hg, sort_con, pick_same hg ordE_in]
  exact con_mem (fun k => by rw [ordE_mem, rngI_mem]) u v
theorem allE_some : someB (allE l) l.length = true := some_of allE_in (rngI_rise _)
theorem kru_parts (hg : goodEdges l = true) : partsM l (kruL l) = partsM l (allE l) := by
  unfold partsM
  rw [if_pos (by unfold partsOk; rw [hg, kru_some hg]; rfl), if_pos (by unfold partsOk; rw [hg, allE_some]; rfl)]
  exact parts_same hg (kru_range hg) allE_in (kru_con hg)
end
end YtnfcnocoehkgoaaAM
