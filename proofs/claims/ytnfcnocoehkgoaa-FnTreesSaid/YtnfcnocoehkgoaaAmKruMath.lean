/- Kruskal's forest, in plain Lean. -/
import Derived.Test.YtnfcnocoehkgoaaAmConMath
import Derived.Test.YtnfcnocoehkgoaaAmSymMerge
import Derived.Test.YtnfcnocoehkgoaaAmPrimModels
set_option linter.unusedVariables false
set_option linter.unusedSimpArgs false
namespace YtnfcnocoehkgoaaAM

/-- The numbers from 0 on. -/
def rngI (n : Nat) : List Int := (List.range n).map fun (i : Nat) => (i : Int)
@[simp] theorem rngI_length (n : Nat) : (rngI n).length = n := by simp [rngI]
theorem rngI_zero : rngI 0 = [] := rfl
theorem rngI_mem {n : Nat} {x : Int} : x ∈ rngI n ↔ 0 ≤ x ∧ x < n := by
  simp only [rngI, List.mem_map, List.mem_range]
  exact ⟨fun ⟨i, h, e⟩ => by omega, fun h => ⟨x.toNat, by omega, by omega⟩⟩
theorem rngI_rise (n : Nat) : (rngI n).Pairwise (· < ·) := by
  unfold rngI
  rw [List.pairwise_map]
  exact List.pairwise_lt_range.imp fun h => by omega
theorem rngI_succ (n : Nat) : rngI (n + 1) = rngI n ++ [(n : Int)] := by simp [rngI, List.range_succ]
theorem rngI_getD {n i : Nat} (h : i < n) (d : Int) : (rngI n).getD i d = i := by simp [rngI, h]
/-- Of edges in a row, those that link what those ahead do not. -/
def pickN (l : List S3) (V : List Int) (k : Nat) : List Int := foldN (fun out j => if joinB l V j = true then out ++ [V.getD j 0] else out) [] k
def pickA (l : List S3) (V : List Int) : List Int := pickN l V V.length
theorem pickN_zero (l : List S3) (V : List Int) : pickN l V 0 = [] := rfl
theorem pickN_succ (l : List S3) (V : List Int) (k : Nat) : pickN l V (k + 1) = if joinB l V k = true then pickN l V k ++ [V.getD k 0] else pickN l V k := rfl
/-- The edges with a cost, laid to a row. -/
def visK (l : List S3) (c : Int) (s : List Int) (k : Nat) : List Int := foldN (fun s j => if (l.getD j ⟨0, 0, 0⟩).c = c then s ++ [(j : Int)] else s) s k
def visC (l : List S3) (c : Nat) : List Int := foldN (fun s c => visK l (c : Int) s l.length) [] c
def vis (l : List S3) (c k : Nat) : List Int := visK l (c : Int) (visC l c) k
theorem vis_zero (l : List S3) (c : Nat) : vis l c 0 = visC l c := rfl
theorem visC_zero (l : List S3) : visC l 0 = [] := rfl
theorem vis_succ (l : List S3) (c k : Nat) : vis l c (k + 1) = if (l.getD k ⟨0, 0, 0⟩).c = (c : Int) then vis l c k ++ [(k : Int)] else vis l c k := rfl
theorem visC_succ (l : List S3) (c : Nat) : visC l (c + 1) = vis l c l.length := rfl
def ordE (l : List S3) : List Int := sortIK (co l) (rngI l.length)
def kruL (l : List S3) : List Int := if goodEdges l = true then sortI (pickA l (ordE l)) else []
def kruC (l : List S3) : Int := if goodEdges l = true then costL l (kruL l) (kruL l).length else 0
section
variable {l : List S3} {V s t : List Int} {x : Int} {c k : Nat}
theorem pickN_pre : ∀ k, k ≤ V.length → pickN l (V ++ [x]) k = pickN l V k
  | 0, _ => rfl
  | k + 1, h => by
    have e : (V ++ [x]).getD k 0 = V.getD k 0 := by
      rw [getD_get (by simp; omega), getD_get (by omega), List.getElem_append_left]
    have ej : joinB l (V ++ [x]) k = joinB l V k := by
      rw [joinB_take (by simp; omega), joinB_take (by omega), e, List.take_append_of_le_length (by omega)]
    rw [pickN_succ, pickN_succ, pickN_pre k (by omega), e, ej]
theorem pickA_snoc : pickA l (V ++ [x]) = if labA l V (edgeAt l x).a = labA l V (edgeAt l x).b then pickA l V else pickA l V ++ [x] := by
  have e : (V ++ [x]).getD V.length 0 = x := at_app rfl
  unfold pickA
  rw [List.length_append, List.length_singleton, pickN_succ, pickN_pre _ (Nat.le_refl _), joinB_snoc, e]
  by_cases h : labA l V (edgeAt l x).a = labA l V (edgeAt l x).b
  · rw [if_pos h, decide_eq_true h, if_neg (by decide)]
  · rw [if_neg h, decide_eq_false h, if_pos (by decide)]
theorem pickA_nil : pickA l [] = [] := rfl
theorem pick_sub : ∀ n (V : List Int), V.length = n → ∀ y ∈ pickA l V, y ∈ V := snoc_ind (P := fun V => ∀ y ∈ pickA l V, y ∈ V) (fun y h => h) fun s x ih y hy => by
  rw [pickA_snoc] at hy
  split at hy
  · exact List.mem_append_left _ (ih y hy)
  · rcases List.mem_append.1 hy with h | h
    · exact List.mem_append_left _ (ih y h)
    · exact List.mem_append_right _ h
theorem pick_mem {y : Int} (h : y ∈ pickA l V) : y ∈ V := pick_sub V.length V rfl y h
theorem pick_in (h : InR l V) : InR l (pickA l V) := fun k hk => h k (pick_mem hk)
theorem pick_grow {y : Int} (h : y ∈ pickA l V) : y ∈ pickA l (V ++ [x]) := by
  rw [pickA_snoc]
  split
  · exact h
  · exact List.mem_append_left _ h
theorem pick_nodup : V.Nodup → (pickA l V).Nodup := snoc_ind (P := fun V => V.Nodup → (pickA l V).Nodup) (fun h => h) (fun s x ih h => by
  rw [List.nodup_append] at h
  rw [pickA_snoc]
  split
  · exact ih h.1
  · rw [List.nodup_append]
    refine ⟨ih h.1, by simp, fun a ha b hb => h.2.2 a (pick_mem ha) b hb⟩) V.length V rfl
theorem pick_con (hg : goodEdges l = true) : ∀ n (V : List Int), V.length = n → InR l V → ∀ k ∈ V, Con l (pickA l V) (edgeAt l k).a (edgeAt l k).b :=
  snoc_ind (P := fun V => InR l V → ∀ k ∈ V, Con l (pickA l V) (edgeAt l k).a (edgeAt l k).b) (fun _ k hk => by cases hk) fun s x ih hs k hk => by
    have hs' : InR l s := fun k hk => hs k (List.mem_append_left _ hk)
    have ih := ih hs'
    rcases List.mem_append.1 hk with h | h
    · exact (ih k h).mono fun y hy => pick_grow hy
    · rw [List.mem_singleton] at h; subst h
      have he := edge_at hg (hs k (by simp))
      rw [pickA_snoc]
      split
      · rename_i e
        exact (con_of hg s hs' _ _ he.1 he.2.1 e).lift ih
      · exact .edge (k := k) (by simp) (.inl ⟨rfl, rfl⟩)
theorem pick_same (hg : goodEdges l = true) (h : InR l V) (u v : Int) : Con l (pickA l V) u v ↔ Con l V u v :=
  ⟨fun c => c.mono fun y hy => pick_mem hy, fun c => c.lift (pick_con hg _ V rfl h)⟩
theorem pick_for (hg : goodEdges l = true) : ∀ n (V : List Int), V.length = n → InR l V → forB l (pickA l V) = true :=
  snoc_ind (P := fun V => InR l V → forB l (pickA l V) = true) (fun _ => rfl) fun s x ih hs => by
    have hs' : InR l s := fun k hk => hs k (List.mem_append_left _ hk)
    have he := edge_at hg (hs x (by simp))
    rw [pickA_snoc]
    split
    · exact ih hs'
    · rename_i e
      rw [forB_snoc, ih hs', labA_same hg (pick_in hs') hs' (pick_same hg hs') he.1, labA_same hg (pick_in hs') hs' (pick_same hg hs') he.2.1, decide_eq_false e]
      rfl
theorem pick_span (hg : goodEdges l = true) : ∀ n (V : List Int), V.length = n → InR l V → UpK (co l) V → ∀ k ∈ V, Con l (low l (pickA l V) (co l k)) (edgeAt l k).a (edgeAt l k).b :=
  snoc_ind (P := fun V => InR l V → UpK (co l) V → ∀ k ∈ V, Con l (low l (pickA l V) (co l k)) (edgeAt l k).a (edgeAt l k).b) (fun _ _ k hk => by cases hk) fun s x ih hs hu k hk => by
    have hs' : InR l s := fun k hk => hs k (List.mem_append_left _ hk)
    have hu := List.pairwise_append.1 hu
    have ih := ih hs' hu.1
    have hgrow : ∀ c, ∀ y ∈ low l (pickA l s) c, y ∈ low l (pickA l (s ++ [x])) c := fun c y hy => by
      have := List.mem_filter.1 hy
      exact List.mem_filter.2 ⟨pick_grow this.1, this.2⟩
    rcases List.mem_append.1 hk with h | h
    · exact (ih k h).mono (hgrow _)
    · rw [List.mem_singleton] at h; subst h
      have he := edge_at hg (hs k (by simp))
      by_cases e : labA l s (edgeAt l k).a = labA l s (edgeAt l k).b
      · refine (con_of hg s hs' _ _ he.1 he.2.1 e).lift fun j hj => ?_
        exact (ih j hj).mono fun y hy => hgrow _ _ (low_low (hu.2.2 j hj k (by simp)) y hy)
      · refine .edge (k := k) ?_ (.inl ⟨rfl, rfl⟩)
        rw [pickA_snoc, if_neg e]
        exact List.mem_filter.2 ⟨by simp, by simp⟩
/-! ### The order -/
theorem vis_mem (hv : ∀ x : Int, x ∈ visC l c ↔ (0 ≤ x ∧ x < l.length) ∧ co l x < c) : ∀ k, k ≤ l.length → ∀ x : Int, x ∈ vis l c k ↔ (0 ≤ x ∧ x < l.length) ∧ (co l x < c ∨ (co l x = c ∧ x < k))
  | 0, _, x => by rw [vis_zero, hv]; omega
  | k + 1, h, x => by
    have ih := vis_mem hv k (by omega) x
    have hk : co l (k : Int) = (l.getD k ⟨0, 0, 0⟩).c := rfl
    rw [vis_succ, ← hk]
    split
    · rw [List.mem_append, List.mem_singleton, ih]
      constructor
      · rintro (h | rfl) <;> omega
      · intro h
        by_cases e : x = (k : Int)
        · exact .inr e
        · exact .inl (by omega)
    · rename_i e
      rw [ih]
      constructor
      · intro h; omega
      · intro h
        by_cases e2 : x = (k : Int)
        · subst e2; omega
        · omega
theorem visC_mem (hg : goodEdges l = true) : ∀ (c : Nat) (x : Int), x ∈ visC l c ↔ (0 ≤ x ∧ x < l.length) ∧ co l x < c
  | 0, x => by
    rw [visC_zero]
    constructor
    · intro h; cases h
    · intro h
      have := (edge_at hg h.1).2.2.2.1
      have h2 : (edgeAt l x).c < 0 := h.2
      omega
  | c + 1, x => by
    rw [visC_succ, vis_mem (visC_mem hg c) _ (Nat.le_refl _)]
    omega
theorem vis_mem' (hg : goodEdges l = true) (hk : k ≤ l.length) (x : Int) : x ∈ vis l c k ↔ (0 ≤ x ∧ x < l.length) ∧ (co l x < c ∨ (co l x = c ∧ x < k)) := vis_mem (visC_mem hg c) k hk x
theorem vis_in (hg : goodEdges l = true) (hk : k ≤ l.length) : InR l (vis l c k) := fun x hx => ((vis_mem' hg hk x).1 hx).1
theorem vis_lts (hg : goodEdges l = true) (hv : LtS (co l) (visC l c)) : ∀ k, k ≤ l.length → LtS (co l) (vis l c k)
  | 0, _ => hv
  | k + 1, h => by
    have ih := vis_lts hg hv k (by omega)
    rw [vis_succ]
    split
    · rename_i e
      rw [LtS, List.pairwise_append]
      refine ⟨ih, by simp, fun a ha b hb => ?_⟩
      rw [List.mem_singleton] at hb; subst hb
      have := (vis_mem' hg (by omega) a).1 ha
      have e : co l (k : Int) = c := e
      unfold LtK; omega
    · exact ih
theorem visC_lts (hg : goodEdges l = true) : ∀ c : Nat, LtS (co l) (visC l c)
  | 0 => List.Pairwise.nil
  | c + 1 => by rw [visC_succ]; exact vis_lts hg (visC_lts hg c) _ (Nat.le_refl _)
theorem vis_lts' (hg : goodEdges l = true) (hk : k ≤ l.length) : LtS (co l) (vis l c k) := vis_lts hg (visC_lts hg c) k hk
theorem lts_nodup (h : LtS (co l) s) : s.Nodup := h.imp fun h e => by subst e; exact h.irr
theorem ordE_mem (y : Int) : y ∈ ordE l ↔ 0 ≤ y ∧ y < l.length := by
  rw [ordE, sortI_memK, rngI_mem]
theorem ordE_in : InR l (ordE l) := fun y hy => (ordE_mem y).1 hy
theorem ordE_up : UpK (co l) (ordE l) := sortI_upK _
theorem ordE_lts : LtS (co l) (ordE l) := sortI_lts (rise_st (rngI_rise _))
theorem ordE_len : (ordE l).length = l.length := by rw [ordE, sortI_lenK, rngI_length]
theorem vis_all (hg : goodEdges l = true) : visC l 1001 = ordE l := lts_eq (visC_lts hg _) ordE_lts fun x => by
  rw [visC_mem hg, ordE_mem]
  constructor
  · intro h; exact h.1
  · intro h
    have h2 : (edgeAt l x).c ≤ 1000 := (edge_at hg h).2.2.2.2
    refine ⟨h, ?_⟩
    show (edgeAt l x).c < _
    omega
/-! ### The steps of the reference -/
theorem pick_le (hg : goodEdges l = true) (h : InR l V) : (pickA l V).length ≤ 8 := by
  have := (for_roots hg _ (pick_in h)).2.1 (pick_for hg _ V rfl h)
  omega
theorem some_of (h : InR l s) (hr : Rise s) : someB s l.length = true := by
  simp only [someB, List.all_eq_true, List.mem_range]
  intro j hj
  have h1 := h (s.getD j 0) (by rw [getD_get hj]; exact List.getElem_mem _)
  simp only [someOk, Bool.and_eq_true, Bool.or_eq_true, decide_eq_true_eq]
  refine ⟨h1, ?_⟩
  rcases Nat.eq_zero_or_pos j with e | e
  · exact .inl e
  · refine .inr ?_
    rw [getD_get (by omega), getD_get hj]
    exact (List.pairwise_iff_getElem.1 hr) (j - 1) j (by omega) hj (by omega)
theorem sort_in (h : InR l s) : InR l (sortI s) := fun k hk => h k (sortI_mem.1 hk)
theorem sort_some (h : InR l s) (hn : s.Nodup) : someB (sortI s) l.length = true := some_of (sort_in h) (sortI_rise hn)
theorem sort_con (u v : Int) : Con l (sortI s) u v ↔ Con l s u v := con_mem (fun k => sortI_mem) u v
/-- What the reference asks is what the row says. -/
theorem pick_parts (hg : goodEdges l = true) (h : InR l V) : partsN l (sortI (pickA l V)) (sortI (pickA l V)).length = partsN l V V.length :=
  parts_same hg (sort_in (pick_in h)) h fun u v => (sort_con u v).trans (pick_same hg h u v)
end
end YtnfcnocoehkgoaaAM
