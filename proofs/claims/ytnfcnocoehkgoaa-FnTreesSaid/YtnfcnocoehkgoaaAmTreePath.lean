/- Paths in a forest, and the least edge of a cut, in plain Lean. -/
import Derived.Test.YtnfcnocoehkgoaaAmTreeMath
set_option linter.unusedVariables false
set_option linter.unusedSimpArgs false
namespace YtnfcnocoehkgoaaAM

section
variable {l : List S3} {s t : List Int} {u v x b bf : Int}
/-- A way, an edge after the other. -/
inductive Walk (l : List S3) (s : List Int) : Int → List Int → Int → Prop
  | nil (u : Int) : Walk l s u [] u
  | cons {u x v k : Int} {w : List Int} (hk : k ∈ s) (hj : Joins (edgeAt l k) u x) (h : Walk l s x w v) : Walk l s u (k :: w) v
/-- It does not turn back. -/
def NB : Int → List Int → Prop
  | _, [] => True
  | bf, k :: w => k ≠ bf ∧ NB k w
theorem Walk.snoc {w : List Int} {k : Int} (h : Walk l s u w v) (hk : k ∈ s) (hj : Joins (edgeAt l k) v x) : Walk l s u (w ++ [k]) x := by
  induction h with
  | nil => exact .cons hk hj (.nil _)
  | cons h1 h2 _ ih => exact .cons h1 h2 (ih hj)
theorem Con.walk (h : Con l s u v) : ∃ w, Walk l s u w v := by
  induction h with
  | refl => exact ⟨[], .nil _⟩
  | step _ hk hj ih => obtain ⟨w, hw⟩ := ih; exact ⟨_, hw.snoc hk hj⟩
theorem Joins.same {e : S3} {a b c d : Int} (h : Joins e a b) (g : Joins e c d) : (c = a ∧ d = b) ∨ (c = b ∧ d = a) := by
  unfold Joins at h g; omega
/-- And so there is one that does not turn back. -/
theorem Walk.straight {w : List Int} (h : Walk l s u w v) : ∃ w' : List Int, Walk l s u w' v ∧ (match w' with | [] => True | k :: r => NB k r) := by
  induction h with
  | nil => exact ⟨[], .nil _, trivial⟩
  | @cons u x v k w hk hj _ ih =>
    obtain ⟨w', hw, hn⟩ := ih
    rcases w' with _ | ⟨k2, r⟩
    · exact ⟨[k], .cons hk hj hw, trivial⟩
    · by_cases e : k2 = k
      · subst e
        cases hw with
        | @cons _ y _ _ _ hk2 hj2 h2 =>
          have hy := Joins.same hj hj2
          have e2 : y = u := by omega
          subst e2
          refine ⟨r, h2, ?_⟩
          rcases r with _ | ⟨k3, r⟩
          · trivial
          · exact hn.2
      · exact ⟨k :: k2 :: r, .cons hk hj hw, ⟨e, hn⟩⟩
/-! ### In a forest it meets no node twice -/
theorem at_of_mem {k : Int} (h : k ∈ s) : ∃ p, p < s.length ∧ s.getD p 0 = k := by
  obtain ⟨i, hi, e⟩ := List.getElem_of_mem h
  exact ⟨i, hi, by rw [getD_get hi, e]⟩
theorem Walk.trail (hg : goodEdges l = true) (hs : someB s l.length = true) (hf : forB l s = true) {w : List Int} (h : Walk l s u w v) :
    ∀ (bf : Int) (d : Nat) (f : Nat → Int) (q : Nat → Nat), NB bf w → Trail l s u d f q → (0 < d → s.getD (q (d - 1)) 0 = bf) →
    ∃ f' q', Trail l s v (d + w.length) f' q' ∧ (∀ i, i ≤ d → f' i = f i) ∧ (∀ i, i < d → q' i = q i) ∧ ∀ i, i < w.length → s.getD (q' (d + i)) 0 = w.getD i 0 := by
  induction h with
  | nil => intro bf d f q _ ht _; exact ⟨f, q, ht, fun i _ => rfl, fun i _ => rfl, fun i hi => by simp at hi⟩
  | @cons u x v k w hk hj _ ih =>
    intro bf d f q hn ht hb
    obtain ⟨p, hp, e⟩ := at_of_mem hk
    have ht2 := ht.go hg hs hf hp (by rw [e]; exact hj) (fun h0 e2 => hn.1 (by rw [← e, e2, hb h0]))
    obtain ⟨f', q', h1, h2, h3, h4⟩ := ih k (d + 1) _ _ hn.2 ht2 (fun _ => by rw [Nat.add_sub_cancel, if_neg (by omega)]; exact e)
    refine ⟨f', q', by rw [List.length_cons, show d + (w.length + 1) = d + 1 + w.length by omega]; exact h1, fun i hi => by rw [h2 i (by omega), if_pos hi], fun i hi => by rw [h3 i (by omega), if_pos hi], fun i hi => ?_⟩
    rcases i with _ | i
    · rw [Nat.add_zero, h3 d (by omega), if_neg (by omega)]; exact e
    · have := h4 i (by rw [List.length_cons] at hi; omega)
      rw [show d + (i + 1) = d + 1 + i by omega, this]; rfl
/-- Its edges cost no more than what links the ends anyhow. -/
theorem path_cheap (hg : goodEdges l = true) (hs : someB s l.length = true) (hf : forB l s = true) (hin : InR l s) (hn : s.Nodup) {w : List Int} {c : Int} (hu : 0 ≤ u ∧ u ≤ 7) (hw : Walk l s u w v) (hb : NB bf w) (hc : Con l (low l s c) u v) :
    ∀ i, i < w.length → co l (w.getD i 0) ≤ c := by
  intro i hi
  rcases Int.lt_or_le c (co l (w.getD i 0)) with hlt | hle
  · exfalso
    obtain ⟨f, q, ht, h0, _, hq⟩ := hw.trail hg hs hf bf 0 (fun _ => u) (fun _ => 0) hb ⟨rfl, fun i _ => hu, fun i hi => by omega, fun i j h1 h2 => by omega⟩ (fun h => by omega)
    simp only [Nat.zero_add] at ht hq
    have hf0 := h0 0 (Nat.le_refl _)
    have hj := hq i hi
    have hst := ht.step i hi
    rw [hj] at hst
    generalize hjd : w.getD i 0 = j at *
    have hjm : j ∈ s := by rw [← hj, getD_get hst.1]; exact List.getElem_mem _
    have hot : ∀ k, k < w.length → k ≠ i → s.getD (q k) 0 ≠ j := fun k hk hne e => by
      have h2 := (ht.step k hk).2
      rw [e] at h2
      rcases Joins.same hst.2 h2 with ⟨a1, a2⟩ | ⟨a1, a2⟩
      · rcases Nat.lt_or_gt_of_ne hne with c1 | c1
        · exact ht.apart k i c1 (by omega) a1
        · exact ht.apart i k c1 (by omega) a1.symm
      · rcases Nat.lt_or_gt_of_ne hne with c1 | c1
        · exact ht.apart k (i + 1) (by omega) (by omega) a1
        · exact ht.apart i (k + 1) (by omega) (by omega) a2.symm
    have hm : ∀ k, k < w.length → k ≠ i → s.getD (q k) 0 ∈ s.erase j := fun k hk hne => (List.Nodup.mem_erase_iff hn).2 ⟨hot k hk hne, by rw [getD_get (ht.step k hk).1]; exact List.getElem_mem _⟩
    have c1 : ∀ k, k ≤ i → Con l (s.erase j) (f 0) (f k) := fun k => by
      induction k with
      | zero => intro _; exact .refl _
      | succ k ih => intro hk; exact .step (ih (by omega)) (hm k (by omega) (by omega)) (ht.step k (by omega)).2
    have c2 : ∀ k, i + 1 + k ≤ w.length → Con l (s.erase j) (f (i + 1)) (f (i + 1 + k)) := fun k => by
      induction k with
      | zero => intro _; exact .refl _
      | succ k ih => intro hk; exact .step (ih (by omega)) (hm (i + 1 + k) (by omega) (by omega)) (ht.step (i + 1 + k) (by omega)).2
    have e2 := c2 (w.length - (i + 1)) (by omega)
    rw [show i + 1 + (w.length - (i + 1)) = w.length by omega, ht.at'] at e2
    have e3 : Con l (s.erase j) u v := hc.mono fun k hk => by
      have := List.mem_filter.1 hk
      refine (List.Nodup.mem_erase_iff hn).2 ⟨fun e => ?_, this.1⟩
      have h5 := of_decide_eq_true this.2
      rw [e] at h5
      omega
    have e1 := c1 i (Nat.le_refl _)
    rw [hf0] at e1
    have e4 : Con l (s.erase j) (f i) (f (i + 1)) := (e1.symm.trans e3).trans e2.symm
    have hin2 : InR l (s.erase j) := fun k hk => hin k (List.mem_of_mem_erase hk)
    have e5 : labA l (s.erase j) (edgeAt l j).a = labA l (s.erase j) (edgeAt l j).b := by
      rcases hst.2 with ⟨a1, a2⟩ | ⟨a1, a2⟩
      · rw [a1, a2]; exact e4.lab hg hin2
      · rw [a1, a2]; exact (e4.lab hg hin2).symm
    have hf2 : forB l (s.erase j ++ [j]) = true := for_perm hg hin (fun k => by
      rw [List.mem_append, List.mem_singleton, List.Nodup.mem_erase_iff hn]
      constructor
      · intro h
        by_cases e : k = j
        · exact .inr e
        · exact .inl ⟨e, h⟩
      · rintro (h | h)
        · exact h.2
        · rw [h]; exact hjm) (by
      rw [List.length_append, List.length_erase_of_mem hjm, List.length_singleton]
      have := List.length_pos_of_mem hjm
      omega) hf
    rw [forB_snoc, e5] at hf2
    simp at hf2
  · exact hle
/-! ### What the search finds -/
section
variable {n j : Nat}
theorem pathN_none : ∀ j, (pathN l s b n u bf j).1 = false → pathN l s b n u bf j = (false, [])
  | 0, _ => rfl
  | j + 1, h => by
    rw [pathN_succ] at h ⊢
    unfold stP at h ⊢
    split at h
    · rename_i h1; rw [h1] at h; cases h
    · rename_i h1
      have ih := pathN_none j (by simpa using h1)
      rw [if_neg h1]
      split at h
      · rename_i h2; rw [if_pos h2]; exact ih
      · rename_i h2
        rw [if_neg h2]
        split at h
        · cases h
        · rename_i h3; rw [if_neg h3]; exact ih
theorem pathR_walk (hs : ∀ k, k < s.length → s.getD k 0 ∈ s) : ∀ (n : Nat) (u bf : Int), (pathR l s b n u bf).1 = true → Walk l s u (pathR l s b n u bf).2 b ∧ NB bf (pathR l s b n u bf).2
  | 0, u, bf, h => by cases h
  | n + 1, u, bf, h => by
    by_cases hu : u = b
    · rw [pathR_here hu, hu]; exact ⟨.nil _, trivial⟩
    · rw [pathR_eq hu] at h ⊢
      have key : ∀ j, j ≤ s.length → (pathN l s b n u bf j).1 = true → Walk l s u (pathN l s b n u bf j).2 b ∧ NB bf (pathN l s b n u bf j).2 := by
        intro j
        induction j with
        | zero => intro _ h; cases h
        | succ j ih =>
          intro hj h
          cases hp : (pathN l s b n u bf j).1 with
          | true =>
            have e := pathN_stop hp 1
            rw [e]; exact ih (by omega) hp
          | false =>
            have e0 := pathN_none j hp
            by_cases hc : s.getD j 0 = bf ∨ ((edgeAt l (s.getD j 0)).a ≠ u ∧ (edgeAt l (s.getD j 0)).b ≠ u)
            · rw [pathN_skip e0 hc] at h; cases h
            · cases hr : (pathR l s b n (otherE (edgeAt l (s.getD j 0)) u) (s.getD j 0)).1 with
              | false => rw [pathN_no e0 hc hr] at h; cases h
              | true =>
                rw [pathN_yes e0 hc hr]
                have hw := pathR_walk hs n _ _ hr
                rw [not_or] at hc
                refine ⟨.cons (hs j (by omega)) ?_ hw.1, hc.1, hw.2⟩
                unfold Joins otherE
                have := hc.2
                omega
      exact key s.length (Nat.le_refl _) h
theorem pathR_find {w : List Int} : ∀ (n : Nat) (u bf : Int), Walk l s u w b → NB bf w → w.length < n → (pathR l s b n u bf).1 = true := by
  induction w with
  | nil =>
    intro n u bf h _ hn
    cases h
    rcases n with _ | n
    · omega
    · rw [pathR_here rfl]
  | cons k w ih =>
    intro n u bf h hb hn
    rcases n with _ | n
    · omega
    by_cases hu : u = b
    · rw [pathR_here hu]
    · cases h with
      | @cons _ x _ _ _ hk hj h =>
        obtain ⟨p, hp, e⟩ := at_of_mem hk
        have hrec := ih n x k h hb.2 (by rw [List.length_cons] at hn; omega)
        have hx : otherE (edgeAt l k) u = x := by unfold otherE; unfold Joins at hj; omega
        have h1 : (pathN l s b n u bf (p + 1)).1 = true := by
          cases hp2 : (pathN l s b n u bf p).1 with
          | true => rw [pathN_stop hp2 1]; exact hp2
          | false =>
            rw [pathN_yes (pathN_none p hp2) (by rw [e]; have := hb.1; unfold Joins at hj; omega) (by rw [e, hx]; exact hrec)]
        have h2 := pathN_stop h1 (s.length - (p + 1))
        rw [show p + 1 + (s.length - (p + 1)) = s.length by omega] at h2
        rw [pathR_eq hu, h2]; exact h1
end
theorem Walk.same (h : Walk l s u [] v) : u = v := by cases h; rfl
theorem Walk.mem {w : List Int} (h : Walk l s u w v) : ∀ k ∈ w, k ∈ s := by
  induction h with
  | nil => intro k hk; cases hk
  | cons hk _ _ ih =>
    intro k2 h2
    rcases List.mem_cons.1 h2 with rfl | h2
    · exact hk
    · exact ih k2 h2
/-- The law of trees, for one edge that was left. -/
theorem tree_path (hg : goodEdges l = true) {k : Nat} (hk : k < l.length) :
    piB l (kruL l) (l.getD k ⟨0, 0, 0⟩).a (l.getD k ⟨0, 0, 0⟩).b = true ∧ (piL l (kruL l) (l.getD k ⟨0, 0, 0⟩).a (l.getD k ⟨0, 0, 0⟩).b).length ≠ 0 ∧
    ∀ j, j < (piL l (kruL l) (l.getD k ⟨0, 0, 0⟩).a (l.getD k ⟨0, 0, 0⟩).b).length → (0 ≤ (piL l (kruL l) (l.getD k ⟨0, 0, 0⟩).a (l.getD k ⟨0, 0, 0⟩).b).getD j 0 ∧ (piL l (kruL l) (l.getD k ⟨0, 0, 0⟩).a (l.getD k ⟨0, 0, 0⟩).b).getD j 0 < l.length) ∧
      (l.getD ((piL l (kruL l) (l.getD k ⟨0, 0, 0⟩).a (l.getD k ⟨0, 0, 0⟩).b).getD j 0).toNat ⟨0, 0, 0⟩).c ≤ (l.getD k ⟨0, 0, 0⟩).c := by
  have he := edge_at hg (k := (k : Int)) (by omega)
  have hsp := kru_spans hg (k : Int) (by omega)
  change (0 ≤ (l.getD k ⟨0, 0, 0⟩).a ∧ (l.getD k ⟨0, 0, 0⟩).a ≤ 7) ∧ (0 ≤ (l.getD k ⟨0, 0, 0⟩).b ∧ (l.getD k ⟨0, 0, 0⟩).b ≤ 7) ∧ (l.getD k ⟨0, 0, 0⟩).a ≠ (l.getD k ⟨0, 0, 0⟩).b ∧ 0 ≤ (l.getD k ⟨0, 0, 0⟩).c ∧ (l.getD k ⟨0, 0, 0⟩).c ≤ 1000 at he
  change Con l (low l (kruL l) (l.getD k ⟨0, 0, 0⟩).c) (l.getD k ⟨0, 0, 0⟩).a (l.getD k ⟨0, 0, 0⟩).b at hsp
  generalize l.getD k ⟨0, 0, 0⟩ = e at *
  have hs := kru_some hg
  have hf := kru_for hg
  have hin := kru_range hg
  have hok : piOk l (kruL l) e.a e.b = true := by
    unfold piOk
    rw [hg, hs, hf, btw_iff.2 he.1, btw_iff.2 he.2.1]; rfl
  have hpi := pi_yes hok
  have hcon : Con l (kruL l) e.a e.b := hsp.mono fun y hy => (List.mem_filter.1 hy).1
  obtain ⟨w0, hw0⟩ := hcon.walk
  obtain ⟨w, hw, hnb⟩ := hw0.straight
  have hnb2 : NB (-1) w := by
    rcases w with _ | ⟨k2, r⟩
    · trivial
    · refine ⟨?_, hnb⟩
      have := hin k2 (hw.mem k2 (by simp))
      omega
  obtain ⟨f, q, ht, _⟩ := hw.trail hg hs hf (-1) 0 (fun _ => e.a) (fun _ => 0) hnb2 ⟨rfl, fun i _ => he.1, fun i hi => by omega, fun i j h1 h2 => by omega⟩ (fun h => by omega)
  have h7 := ht.le
  have hfind := pathR_find (l := l) (s := kruL l) (b := e.b) 9 e.a (-1) hw hnb2 (by omega)
  have hwalk := pathR_walk (l := l) (s := kruL l) (b := e.b) (fun k hk => by rw [getD_get hk]; exact List.getElem_mem _) 9 e.a (-1) hfind
  have hch := path_cheap hg hs hf hin (kru_nodup hg) he.1 hwalk.1 hwalk.2 hsp
  rw [hpi.1, hpi.2]
  refine ⟨hfind, fun h0 => ?_, fun j hj => ⟨?_, hch j hj⟩⟩
  · have h1 := hwalk.1
    rw [List.eq_nil_of_length_eq_zero h0] at h1
    exact he.2.2.1 h1.same
  · exact hin _ (hwalk.1.mem _ (by rw [getD_get hj]; exact List.getElem_mem _))
/-! ### Cuts -/
def leastN (l : List S3) (c : List Int) (k : Nat) : Int := foldN (fun m j => if co l (c.getD j 0) < m then co l (c.getD j 0) else m) (co l (c.getD 0 0)) k
def foundN (l : List S3) (c K : List Int) (m : Int) (k : Nat) : Bool := foldN (fun b j => b || (decide (co l (c.getD j 0) = m) && hasB K (c.getD j 0))) false k
theorem leastN_zero (c : List Int) : leastN l c 0 = co l (c.getD 0 0) := rfl
theorem leastN_succ (c : List Int) (k : Nat) : leastN l c (k + 1) = if co l (c.getD k 0) < leastN l c k then co l (c.getD k 0) else leastN l c k := rfl
theorem foundN_zero (c K : List Int) (m : Int) : foundN l c K m 0 = false := rfl
theorem foundN_succ (c K : List Int) (m : Int) (k : Nat) : foundN l c K m (k + 1) = (foundN l c K m k || (decide (co l (c.getD k 0) = m) && hasB K (c.getD k 0))) := rfl
theorem leastN_yes {c : List Int} {k : Nat} (h : (l.getD (c.getD k 0).toNat ⟨0, 0, 0⟩).c < leastN l c k) : (l.getD (c.getD k 0).toNat ⟨0, 0, 0⟩).c = leastN l c (k + 1) := by rw [leastN_succ]; exact (if_pos h).symm
theorem leastN_no {c : List Int} {k : Nat} (h : ¬ (l.getD (c.getD k 0).toNat ⟨0, 0, 0⟩).c < leastN l c k) : leastN l c k = leastN l c (k + 1) := by rw [leastN_succ]; exact (if_neg h).symm
theorem found_yes {c K : List Int} {m : Int} {k : Nat} (h : foundN l c K m k = true) : true = foundN l c K m (k + 1) := by rw [foundN_succ, h]; rfl
theorem found_eq {c K : List Int} {m : Int} {k : Nat} (h : foundN l c K m k = false) (e : (l.getD (c.getD k 0).toNat ⟨0, 0, 0⟩).c = m) : hasB K (c.getD k 0) = foundN l c K m (k + 1) := by
  have e : co l (c.getD k 0) = m := e
  rw [foundN_succ, h, decide_eq_true e]; rfl
theorem found_ne {c K : List Int} {m : Int} {k : Nat} (h : foundN l c K m k = false) (e : ¬ (l.getD (c.getD k 0).toNat ⟨0, 0, 0⟩).c = m) : false = foundN l c K m (k + 1) := by
  have e : ¬ co l (c.getD k 0) = m := e
  rw [foundN_succ, h, decide_eq_false e]; rfl
theorem leastN_le (c : List Int) : ∀ k j, j < k → leastN l c k ≤ co l (c.getD j 0)
  | 0, j, h => by omega
  | k + 1, j, h => by
    rw [leastN_succ]
    rcases Nat.lt_or_ge j k with e | e
    · have := leastN_le c k j e
      split <;> omega
    · have : j = k := by omega
      subst this
      split <;> omega
theorem leastN_at (c : List Int) (h : 0 < c.length) : ∀ k, k ≤ c.length → ∃ j, j < c.length ∧ leastN l c k = co l (c.getD j 0)
  | 0, _ => ⟨0, h, rfl⟩
  | k + 1, hk => by
    obtain ⟨j, hj, e⟩ := leastN_at c h k (by omega)
    rw [leastN_succ]
    split
    · exact ⟨k, by omega, rfl⟩
    · exact ⟨j, hj, e⟩
theorem foundN_of (c K : List Int) (m : Int) {j : Nat} (hm : co l (c.getD j 0) = m) (hK : hasB K (c.getD j 0) = true) : ∀ k, j < k → foundN l c K m k = true
  | 0, h => by omega
  | k + 1, h => by
    rw [foundN_succ]
    rcases Nat.lt_or_ge j k with e | e
    · rw [foundN_of c K m hm hK k e]; rfl
    · have : j = k := by omega
      subst this
      rw [hm, hK]; simp
theorem cuts_mem (s : List Int) : ∀ (k : Nat) (x : Int), x ∈ cutsN l s k ↔ 0 ≤ x ∧ x < k ∧ cutB l s x.toNat = true
  | 0, x => by
    constructor
    · intro h; cases h
    · intro h; omega
  | k + 1, x => by
    have ih := cuts_mem s k x
    rw [cutsN_succ]
    split
    · rename_i hc
      rw [List.mem_append, List.mem_singleton, ih]
      constructor
      · rintro (h | rfl)
        · exact ⟨h.1, by omega, h.2.2⟩
        · exact ⟨by omega, by omega, hc⟩
      · intro h
        by_cases e : x = (k : Int)
        · exact .inr e
        · exact .inl ⟨h.1, by omega, h.2.2⟩
    · rename_i hc
      rw [ih]
      constructor
      · intro h; exact ⟨h.1, by omega, h.2.2⟩
      · intro h
        refine ⟨h.1, ?_, h.2.2⟩
        by_cases e : x = (k : Int)
        · subst e; exact absurd h.2.2 hc
        · omega
/-- The least edge of a cut is in the forest. -/
theorem cut_found (hg : goodEdges l = true) (s : List Int) (h0 : 0 < (cutsN l s l.length).length) : foundN l (cutsN l s l.length) (kruL l) (leastN l (cutsN l s l.length) (cutsN l s l.length).length) (cutsN l s l.length).length = true := by
  generalize hc : cutsN l s l.length = c at *
  obtain ⟨j, hj, e⟩ := leastN_at (l := l) c h0 c.length (Nat.le_refl _)
  have hm : c.getD j 0 ∈ cutsN l s l.length := by rw [hc, getD_get hj]; exact List.getElem_mem _
  have hx := (cuts_mem s l.length _).1 hm
  have hsp := kru_spans hg (c.getD j 0) ⟨hx.1, hx.2.1⟩
  have hcr : hasB s (edgeAt l (c.getD j 0)).a ≠ hasB s (edgeAt l (c.getD j 0)).b := by
    have h2 : (hasB s (edgeAt l (c.getD j 0)).a != hasB s (edgeAt l (c.getD j 0)).b) = true := hx.2.2
    simpa using h2
  obtain ⟨k, hk, hkx⟩ := con_cross (P := hasB s) hsp hcr
  have hk2 := List.mem_filter.1 hk
  have hkr := kru_range hg k hk2.1
  have hkc : k ∈ cutsN l s l.length := (cuts_mem s l.length k).2 ⟨hkr.1, hkr.2, by
    show (hasB s (edgeAt l k).a != hasB s (edgeAt l k).b) = true
    simpa using hkx⟩
  rw [hc] at hkc
  obtain ⟨i, hi, ei⟩ := at_of_mem hkc
  have h1 := leastN_le (l := l) c c.length i hi
  have h2 := of_decide_eq_true hk2.2
  rw [ei] at h1
  refine foundN_of c _ _ (j := i) ?_ ?_ c.length hi
  · rw [ei]; omega
  · rw [ei]; exact hasB_iff.2 hk2.1
end
end YtnfcnocoehkgoaaAM
