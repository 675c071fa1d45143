/- Forests: no way goes round in them; the path between two nodes, in plain Lean. -/
import Derived.Test.YtnfcnocoehkgoaaAmEdgeModels
import Derived.Test.YtnfcnocoehkgoaaAmPutModels
set_option linter.unusedVariables false
set_option linter.unusedSimpArgs false
namespace YtnfcnocoehkgoaaAM

abbrev edgeAt (l : List S3) (k : Int) : S3 := l.getD k.toNat ⟨0, 0, 0⟩
def lab (l : List S3) (s : List Int) (k : Nat) (v : Int) : Int := (partsN l s k).getD v.toNat 0
/-- Edge number k of some links what was not linked. -/
def joinB (l : List S3) (s : List Int) (k : Nat) : Bool := !decide (lab l s k (edgeAt l (s.getD k 0)).a = lab l s k (edgeAt l (s.getD k 0)).b)
def forB (l : List S3) (s : List Int) : Bool := (List.range s.length).all (joinB l s)
def Joins (e : S3) (u v : Int) : Prop := (e.a = u ∧ e.b = v) ∨ (e.b = u ∧ e.a = v)
section
variable {l : List S3} {s : List Int}
theorem relab_getD {lo hi : Int} {p : List Int} {i : Nat} (h : i < p.length) : (relab lo hi p).getD i 0 = if p.getD i 0 = hi then lo else p.getD i 0 := by
  rw [getD_get (by simpa using h), getD_get h]
  simp [relab]
theorem lab_succ {k : Nat} {v : Int} (hv : 0 ≤ v ∧ v ≤ 7) : lab l s (k + 1) v =
    if lab l s k v = max (lab l s k (edgeAt l (s.getD k 0)).a) (lab l s k (edgeAt l (s.getD k 0)).b) then min (lab l s k (edgeAt l (s.getD k 0)).a) (lab l s k (edgeAt l (s.getD k 0)).b) else lab l s k v := by
  unfold lab
  rw [partsN_succ, linkP, relab_getD (by rw [partsN_len]; omega)]
theorem lab_mono {u v : Int} (hu : 0 ≤ u ∧ u ≤ 7) (hv : 0 ≤ v ∧ v ≤ 7) {k : Nat} (h : lab l s k u = lab l s k v) : ∀ m, k ≤ m → lab l s m u = lab l s m v
  | 0, hm => by obtain rfl : k = 0 := by omega
                exact h
  | m + 1, hm => by
    rcases Nat.lt_or_ge k (m + 1) with c | c
    · have ih := lab_mono hu hv h m (by omega)
      rw [lab_succ hu, lab_succ hv, ih]
    · obtain rfl : k = m + 1 := by omega
      exact h
theorem lab_link {k : Nat} (ha : 0 ≤ (edgeAt l (s.getD k 0)).a ∧ (edgeAt l (s.getD k 0)).a ≤ 7) (hb : 0 ≤ (edgeAt l (s.getD k 0)).b ∧ (edgeAt l (s.getD k 0)).b ≤ 7) :
    lab l s (k + 1) (edgeAt l (s.getD k 0)).a = lab l s (k + 1) (edgeAt l (s.getD k 0)).b := by
  rw [lab_succ ha, lab_succ hb]
  generalize lab l s k (edgeAt l (s.getD k 0)).a = x
  generalize lab l s k (edgeAt l (s.getD k 0)).b = y
  split <;> split <;> omega
theorem some_edge (hg : goodEdges l = true) (hs : someB s l.length = true) {k : Nat} (hk : k < s.length) :
    (0 ≤ (edgeAt l (s.getD k 0)).a ∧ (edgeAt l (s.getD k 0)).a ≤ 7) ∧ (0 ≤ (edgeAt l (s.getD k 0)).b ∧ (edgeAt l (s.getD k 0)).b ≤ 7) ∧ (edgeAt l (s.getD k 0)).a ≠ (edgeAt l (s.getD k 0)).b := by
  have h1 := someB_at hs hk
  have := goodEdges_at hg (k := (s.getD k 0).toNat) (by omega)
  exact ⟨this.1, this.2.1, this.2.2.1⟩
theorem lab_joins (hg : goodEdges l = true) (hs : someB s l.length = true) {k m : Nat} (hk : k < m) (hks : k < s.length) {u v : Int} (h : Joins (edgeAt l (s.getD k 0)) u v) : lab l s m u = lab l s m v := by
  obtain ⟨ha, hb, _⟩ := some_edge hg hs hks
  have e := lab_mono ha hb (lab_link ha hb) m (by omega)
  rcases h with ⟨rfl, rfl⟩ | ⟨rfl, rfl⟩
  · exact e
  · exact e.symm
theorem top_of (q : Nat → Nat) : ∀ m, 0 < m → (∀ i j, i < m → j < m → q i = q j → i = j) → ∃ j, j < m ∧ ∀ i, i < m → i ≠ j → q i < q j
  | 0, h, _ => by omega
  | 1, _, _ => ⟨0, by omega, fun i hi hne => by omega⟩
  | m + 2, _, hinj => by
    obtain ⟨j, hj, h⟩ := top_of q (m + 1) (by omega) fun i j hi hj => hinj i j (by omega) (by omega)
    rcases Nat.lt_or_ge (q j) (q (m + 1)) with c | c
    · refine ⟨m + 1, by omega, fun i hi hne => ?_⟩
      by_cases e : i = j
      · subst e; exact c
      · have := h i (by omega) e; omega
    · refine ⟨j, by omega, fun i hi hne => ?_⟩
      rcases Nat.lt_or_ge i (m + 1) with c2 | c2
      · exact h i c2 hne
      · obtain rfl : i = m + 1 := by omega
        have : q (m + 1) ≠ q j := fun e => hne (hinj _ _ (by omega) (by omega) e)
        omega
/-- In a forest no way goes round. -/
theorem no_round (hg : goodEdges l = true) (hs : someB s l.length = true) (hf : forB l s = true) {m : Nat} (hm : 0 < m) (f : Nat → Int) (q : Nat → Nat) (h0 : f 0 = f m)
    (hq : ∀ i, i < m → q i < s.length ∧ Joins (edgeAt l (s.getD (q i) 0)) (f i) (f (i + 1))) (hinj : ∀ i j, i < m → j < m → q i = q j → i = j) : False := by
  obtain ⟨j, hj, hmax⟩ := top_of q m hm hinj
  have hstep : ∀ i, i < m → i ≠ j → lab l s (q j) (f i) = lab l s (q j) (f (i + 1)) := fun i hi hne => lab_joins hg hs (hmax i hi hne) (hq i hi).1 (hq i hi).2
  have hlow : ∀ i, i ≤ j → lab l s (q j) (f 0) = lab l s (q j) (f i) := by
    intro i
    induction i with
    | zero => intro _; rfl
    | succ i ih => intro hi; rw [ih (by omega)]; exact hstep i (by omega) (by omega)
  have hup : ∀ d, j + 1 + d ≤ m → lab l s (q j) (f (j + 1)) = lab l s (q j) (f (j + 1 + d)) := by
    intro d
    induction d with
    | zero => intro _; rfl
    | succ d ih => intro hd; rw [ih (by omega)]; exact hstep (j + 1 + d) (by omega) (by omega)
  have e1 := hlow j (Nat.le_refl _)
  have e2 := hup (m - (j + 1)) (by omega)
  rw [show j + 1 + (m - (j + 1)) = m by omega, ← h0] at e2
  have hjoin : joinB l s (q j) = true := by
    simp only [forB, List.all_eq_true, List.mem_range] at hf
    exact hf _ (hq j hj).1
  have e3 : lab l s (q j) (f j) = lab l s (q j) (f (j + 1)) := by rw [← e1, e2]
  simp only [joinB, Bool.not_eq_true', decide_eq_false_iff_not] at hjoin
  rcases (hq j hj).2 with ⟨ha, hb⟩ | ⟨hb, ha⟩
  · exact hjoin (by rw [ha, hb]; exact e3)
  · exact hjoin (by rw [ha, hb]; exact e3.symm)
/-- A way that does not turn back. -/
structure Trail (l : List S3) (s : List Int) (u : Int) (d : Nat) (f : Nat → Int) (q : Nat → Nat) : Prop where
  at' : f d = u
  range : ∀ i, i ≤ d → 0 ≤ f i ∧ f i ≤ 7
  step : ∀ i, i < d → q i < s.length ∧ Joins (edgeAt l (s.getD (q i) 0)) (f i) (f (i + 1))
  apart : ∀ i j, i < j → j ≤ d → f i ≠ f j
theorem Trail.le {u : Int} {d : Nat} {f : Nat → Int} {q : Nat → Nat} (h : Trail l s u d f q) : d ≤ 7 := by
  have hn : ((List.range (d + 1)).map f).Nodup := by
    rw [List.nodup_iff_pairwise_ne, List.pairwise_map]
    refine (List.pairwise_lt_range).imp_of_mem fun {a b} ha hb hab => ?_
    have := List.mem_range.1 hb
    exact h.apart a b hab (by omega)
  have := nod_len 8 _ hn fun x hx => by
    obtain ⟨i, hi, rfl⟩ := List.mem_map.1 hx
    have := List.mem_range.1 hi
    have := h.range i (by omega)
    omega
  simp at this
  omega
/-- One edge more. -/
theorem Trail.go (hg : goodEdges l = true) (hs : someB s l.length = true) (hf : forB l s = true) {u v : Int} {d : Nat} {f : Nat → Int} {q : Nat → Nat} (h : Trail l s u d f q) {p : Nat} (hp : p < s.length)
    (hj : Joins (edgeAt l (s.getD p 0)) u v) (hb : 0 < d → p ≠ q (d - 1)) : Trail l s v (d + 1) (fun i => if i ≤ d then f i else v) (fun i => if i < d then q i else p) := by
  have hv : 0 ≤ v ∧ v ≤ 7 := by
    obtain ⟨ha, hb, _⟩ := some_edge hg hs hp
    rcases hj with ⟨_, rfl⟩ | ⟨_, rfl⟩
    · exact hb
    · exact ha
  have hstep : ∀ i, i < d + 1 → (if i < d then q i else p) < s.length ∧ Joins (edgeAt l (s.getD (if i < d then q i else p) 0)) (if i ≤ d then f i else v) (if i + 1 ≤ d then f (i + 1) else v) := fun i hi => by
    rcases Nat.lt_or_ge i d with c | c
    · rw [if_pos c, if_pos (by omega), if_pos (by omega)]
      exact h.step i c
    · obtain rfl : i = d := by omega
      rw [if_neg (by omega), if_pos (by omega), if_neg (by omega), h.at']
      exact ⟨hp, hj⟩
  -- edges on the way are different ones
  have hends : ∀ i, i < d → ∀ x y, Joins (edgeAt l (s.getD (q i) 0)) x y → (x = f i ∧ y = f (i + 1)) ∨ (x = f (i + 1) ∧ y = f i) := fun i hi x y hxy => by
    have h1 := (h.step i hi).2
    rcases h1 with ⟨a1, b1⟩ | ⟨b1, a1⟩ <;> rcases hxy with ⟨a2, b2⟩ | ⟨b2, a2⟩
    · exact .inl ⟨by rw [← a2, a1], by rw [← b2, b1]⟩
    · exact .inr ⟨by rw [← b2, b1], by rw [← a2, a1]⟩
    · exact .inr ⟨by rw [← a2, a1], by rw [← b2, b1]⟩
    · exact .inl ⟨by rw [← b2, b1], by rw [← a2, a1]⟩
  have hqi : ∀ i j, i < d → j < d → q i = q j → i = j := fun i j hi hj2 e => by
    have h1 := (h.step j hj2).2
    rw [← e] at h1
    rcases hends i hi _ _ h1 with ⟨e1, e2⟩ | ⟨e1, e2⟩
    · rcases Nat.lt_trichotomy i j with c | c | c
      · exact absurd e1.symm (h.apart i j c (by omega))
      · exact c
      · exact absurd e1 (h.apart j i c (by omega))
    · rcases Nat.lt_trichotomy (i + 1) j with c | c | c
      · exact absurd e1.symm (h.apart (i + 1) j c (by omega))
      · exact absurd e2.symm (h.apart i (j + 1) (by omega) (by omega))
      · rcases Nat.lt_trichotomy j (i + 1) with c2 | c2 | c2
        · exact absurd e1 (h.apart j (i + 1) c2 (by omega))
        · omega
        · omega
  have hqp : ∀ i, i < d → q i ≠ p := fun i hi e => by
    have hj' := hj
    rw [← e] at hj'
    rcases hends i hi _ _ hj' with ⟨e1, e2⟩ | ⟨e1, e2⟩
    · rw [← h.at'] at e1
      exact absurd e1.symm (h.apart i d hi (Nat.le_refl _))
    · rw [← h.at'] at e1
      rcases Nat.lt_or_ge (i + 1) d with c | c
      · exact absurd e1.symm (h.apart (i + 1) d c (Nat.le_refl _))
      · have : i = d - 1 := by omega
        exact hb (by omega) (by rw [← this]; exact e.symm)
  refine ⟨by rw [if_neg (by omega)], fun i hi => ?_, hstep, fun i j hij hj2 => ?_⟩
  · split
    · exact h.range i (by assumption)
    · exact hv
  · rw [if_pos (by omega)]
    rcases Nat.lt_or_ge j (d + 1) with c | c
    · rw [if_pos (by omega)]; exact h.apart i j hij (by omega)
    · obtain rfl : j = d + 1 := by omega
      rw [if_neg (by omega)]
      intro e
      -- from i on it would go round
      refine no_round hg hs hf (m := d + 1 - i) (by omega) (fun t => if i + t ≤ d then f (i + t) else v) (fun t => if i + t < d then q (i + t) else p) ?_ (fun t ht => ?_) fun t t' ht ht' e2 => ?_
      · rw [if_pos (by omega), if_neg (by omega)]; exact e
      · have := hstep (i + t) (by omega)
        rwa [show i + (t + 1) = i + t + 1 by omega]
      · rcases Nat.lt_or_ge (i + t) d with c1 | c1 <;> rcases Nat.lt_or_ge (i + t') d with c2 | c2
        · rw [if_pos c1, if_pos c2] at e2
          have := hqi _ _ c1 c2 e2; omega
        · rw [if_pos c1, if_neg (by omega)] at e2
          exact absurd e2 (hqp _ c1)
        · rw [if_neg (by omega), if_pos c2] at e2
          exact absurd e2.symm (hqp _ c2)
        · omega
end
/-! ### The path -/
abbrev PS := Bool × List Int
def otherE (e : S3) (u : Int) : Int := e.a + e.b - u
def stP (l : List S3) (s : List Int) (rec : Int → Int → PS) (u bf : Int) (r : PS) (j : Nat) : PS :=
  if r.1 = true then r else
  if s.getD j 0 = bf ∨ ((edgeAt l (s.getD j 0)).a ≠ u ∧ (edgeAt l (s.getD j 0)).b ≠ u) then r else
  if (rec (otherE (edgeAt l (s.getD j 0)) u) (s.getD j 0)).1 = true then (true, s.getD j 0 :: (rec (otherE (edgeAt l (s.getD j 0)) u) (s.getD j 0)).2) else r
def pathR (l : List S3) (s : List Int) (b : Int) : Nat → Int → Int → PS
  | 0, _, _ => (false, [])
  | n + 1, u, bf => if u = b then (true, []) else foldN (stP l s (pathR l s b n) u bf) (false, []) s.length
def pathN (l : List S3) (s : List Int) (b : Int) (n : Nat) (u bf : Int) (j : Nat) : PS := foldN (stP l s (pathR l s b n) u bf) (false, []) j
section
variable {l : List S3} {s : List Int} {b u bf : Int} {n j : Nat}
theorem pathR_here (h : u = b) : pathR l s b (n + 1) u bf = (true, []) := by rw [pathR, if_pos h]
theorem pathR_eq (h : ¬ u = b) : pathR l s b (n + 1) u bf = pathN l s b n u bf s.length := by rw [pathR, if_neg h]; rfl
theorem pathN_zero : pathN l s b n u bf 0 = (false, []) := rfl
theorem pathN_succ (j : Nat) : pathN l s b n u bf (j + 1) = stP l s (pathR l s b n) u bf (pathN l s b n u bf j) j := rfl
theorem pathN_stop (h : (pathN l s b n u bf j).1 = true) : ∀ d, pathN l s b n u bf (j + d) = pathN l s b n u bf j
  | 0 => rfl
  | d + 1 => by rw [← Nat.add_assoc, pathN_succ, pathN_stop h d, stP, if_pos h]
theorem pathN_end (hu : ¬ u = b) (hj : j ≤ s.length) (h : (pathN l s b n u bf j).1 = true) : pathR l s b (n + 1) u bf = pathN l s b n u bf j := by
  rw [pathR_eq hu]
  have := pathN_stop h (s.length - j)
  rwa [show j + (s.length - j) = s.length by omega] at this
theorem pathN_skip (h : pathN l s b n u bf j = (false, [])) (hc : s.getD j 0 = bf ∨ ((edgeAt l (s.getD j 0)).a ≠ u ∧ (edgeAt l (s.getD j 0)).b ≠ u)) : pathN l s b n u bf (j + 1) = (false, []) := by
  rw [pathN_succ, h, stP, if_neg (by simp), if_pos hc]
theorem pathN_yes (h : pathN l s b n u bf j = (false, [])) (hc : ¬ (s.getD j 0 = bf ∨ ((edgeAt l (s.getD j 0)).a ≠ u ∧ (edgeAt l (s.getD j 0)).b ≠ u))) (hr : (pathR l s b n (otherE (edgeAt l (s.getD j 0)) u) (s.getD j 0)).1 = true) :
    pathN l s b n u bf (j + 1) = (true, s.getD j 0 :: (pathR l s b n (otherE (edgeAt l (s.getD j 0)) u) (s.getD j 0)).2) := by
  rw [pathN_succ, h, stP, if_neg (by simp), if_neg hc, if_pos hr]
theorem pathN_no (h : pathN l s b n u bf j = (false, [])) (hc : ¬ (s.getD j 0 = bf ∨ ((edgeAt l (s.getD j 0)).a ≠ u ∧ (edgeAt l (s.getD j 0)).b ≠ u))) (hr : (pathR l s b n (otherE (edgeAt l (s.getD j 0)) u) (s.getD j 0)).1 = false) :
    pathN l s b n u bf (j + 1) = (false, []) := by
  rw [pathN_succ, h, stP, if_neg (by simp), if_neg hc, if_neg (by rw [hr]; simp)]
end
theorem pathR_len (l : List S3) (s : List Int) (b : Int) : ∀ (n : Nat) (u bf : Int), (pathR l s b n u bf).2.length ≤ n
  | 0, u, bf => by simp [pathR]
  | n + 1, u, bf => by
    by_cases hu : u = b
    · rw [pathR_here hu]; simp
    · rw [pathR_eq hu]
      have key : ∀ j, (pathN l s b n u bf j).2.length ≤ n + 1 := by
        intro j
        induction j with
        | zero => simp [pathN_zero]
        | succ j ih =>
          rw [pathN_succ, stP]
          split
          · exact ih
          · split
            · exact ih
            · split
              · have := pathR_len l s b n (otherE (edgeAt l (s.getD j 0)) u) (s.getD j 0)
                rw [List.length_cons]; omega
              · exact ih
      exact key _
theorem pathR_none (l : List S3) (s : List Int) (b : Int) : ∀ (n : Nat) (u bf : Int), (pathR l s b n u bf).1 = false → (pathR l s b n u bf).2 = []
  | 0, u, bf, _ => rfl
  | n + 1, u, bf, h => by
    by_cases hu : u = b
    · rw [pathR_here hu] at h; cases h
    · rw [pathR_eq hu] at h ⊢
      have key : ∀ j, (pathN l s b n u bf j).1 = false → (pathN l s b n u bf j).2 = [] := by
        intro j
        induction j with
        | zero => intro _; rfl
        | succ j ih =>
          rw [pathN_succ, stP]
          split
          · rename_i h2; intro h3; rw [h2] at h3; cases h3
          · split
            · exact ih
            · split
              · intro h3; cases h3
              · exact ih
      exact key _ h
/-- The answers. -/
def piOk (l : List S3) (s : List Int) (a b : Int) : Bool := goodEdges l && someB s l.length && forB l s && btw 0 7 a && btw 0 7 b
def piB (l : List S3) (s : List Int) (a b : Int) : Bool := piOk l s a b && (pathR l s b 9 a (-1)).1
def piL (l : List S3) (s : List Int) (a b : Int) : List Int := if piOk l s a b = true then (pathR l s b 9 a (-1)).2 else []
theorem piL_le (l : List S3) (s : List Int) (a b : Int) : (piL l s a b).length ≤ 9 := by
  unfold piL
  split
  · exact pathR_len _ _ _ _ _ _
  · simp
theorem partsN_take (l : List S3) (s : List Int) (m : Nat) : ∀ k, k ≤ m → m ≤ s.length → partsN l (s.take m) k = partsN l s k
  | 0, _, _ => rfl
  | k + 1, hk, hm => by
    rw [partsN_succ, partsN_succ, partsN_take l s m k (by omega) hm]
    have e : (s.take m).getD k 0 = s.getD k 0 := by
      simp only [List.getD_eq_getElem?_getD]
      rw [List.getElem?_take, if_pos (by omega)]
    rw [e]
theorem someB_take {s : List Int} {n : Int} (h : someB s n = true) (k : Nat) : someB (s.take k) n = true := by
  simp only [someB, List.all_eq_true, List.mem_range] at h ⊢
  intro j hj
  rw [List.length_take] at hj
  have := h j (by omega)
  have e : ∀ i, i < k → (s.take k).getD i 0 = s.getD i 0 := fun i hi => by
    simp only [List.getD_eq_getElem?_getD]
    rw [List.getElem?_take, if_pos hi]
  simp only [someOk] at this ⊢
  rw [e j (by omega), e (j - 1) (by omega)]
  exact this
end YtnfcnocoehkgoaaAM
