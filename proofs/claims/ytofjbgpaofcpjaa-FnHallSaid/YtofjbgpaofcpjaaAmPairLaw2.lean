/- Kőnig, Berge and Hall, the counting. In plain Lean. -/
import Derived.Test.YtofjbgpaofcpjaaAmPairLaw
set_option linter.unusedVariables false
set_option linter.unusedSimpArgs false
namespace YtofjbgpaofcpjaaAM
section
variable {ll : List (List Int)} {mt : List Int} {n : Nat} {m : Int}
/-- What is reached stays where each right one has its owner. -/
structure QU (ll : List (List Int)) (mt : List Int) (U : Int → Prop) (s : QS) : Prop where
  l1 : ∀ x ∈ s.1, ∀ w ∈ ll.getD x.toNat [], U w
  r1 : ∀ r ∈ s.2, U r
  l2 : ∀ x ∈ s.1, mt.getD x.toNat 0 = -1 ∨ mt.getD x.toNat 0 ∈ s.2
  r2 : ∀ r ∈ s.2, 0 ≤ ownI mt r ∧ ownI mt r ∈ s.1
def Owned (ll : List (List Int)) (mt : List Int) (U : Int → Prop) : Prop := ∀ r, U r → 0 ≤ r ∧ ∃ k, k < mt.length ∧ mt.getD k 0 = r ∧ ∀ w ∈ ll.getD k [], U w
theorem Owned.own (hm : Mt ll mt) {U : Int → Prop} (hU : Owned ll mt U) {r : Int} (h : U r) : 0 ≤ ownI mt r ∧ (ownI mt r).toNat < mt.length ∧ mt.getD (ownI mt r).toNat 0 = r ∧ ∀ w ∈ ll.getD (ownI mt r).toNat [], U w := by
  obtain ⟨h0, k, hk, e, hw⟩ := hU r h
  have ho : 0 ≤ ownI mt r := Classical.byContradiction fun c => own_neg c k hk e
  have h1 := own_at ho
  have : (ownI mt r).toNat = k := hm.inj _ _ h1.1 hk (by rw [h1.2]; omega) (by rw [h1.2, e])
  exact ⟨ho, h1.1, h1.2, by rw [this]; exact hw⟩
theorem QU.step (hm : Mt ll mt) {U : Int → Prop} (hU : Owned ll mt U) {s : QS} (h : QU ll mt U s) {w : List Int} (hw : ∀ x ∈ w, U x) {j : Nat} (hj : j < w.length) : QU ll mt U (stQ mt w s j) := by
  have hu := hw _ (at_mem hj)
  obtain ⟨o1, o2, o3, o4⟩ := hU.own hm hu
  unfold stQ
  split
  · exact h
  · refine ⟨fun x hx => ?_, fun r hr => ?_, fun x hx => ?_, fun r hr => ?_⟩
    · dsimp only at hx
      split at hx
      · rcases List.mem_append.1 hx with hx | hx
        · exact h.l1 x hx
        · rw [List.mem_singleton] at hx; subst hx; exact o4
      · exact h.l1 x hx
    · rcases List.mem_append.1 hr with hr | hr
      · exact h.r1 r hr
      · rw [List.mem_singleton] at hr; subst hr; exact hu
    · have old : ∀ y ∈ s.1, mt.getD y.toNat 0 = -1 ∨ mt.getD y.toNat 0 ∈ s.2 ++ [w.getD j 0] := fun y hy => (h.l2 y hy).imp id fun hx => List.mem_append.2 (.inl hx)
      dsimp only at hx
      split at hx
      · rcases List.mem_append.1 hx with hx | hx
        · exact old x hx
        · rw [List.mem_singleton] at hx; subst hx; exact .inr (by rw [o3]; simp)
      · exact old x hx
    · have sub : ∀ y, y ∈ s.1 → y ∈ (if 0 ≤ ownI mt (w.getD j 0) ∧ hasB s.1 (ownI mt (w.getD j 0)) = false then s.1 ++ [ownI mt (w.getD j 0)] else s.1) := fun y hy => by
        split
        · exact List.mem_append.2 (.inl hy)
        · exact hy
      rcases List.mem_append.1 hr with hr | hr
      · exact ⟨(h.r2 r hr).1, sub _ (h.r2 r hr).2⟩
      · rw [List.mem_singleton] at hr; subst hr
        refine ⟨o1, ?_⟩
        show _ ∈ (if 0 ≤ ownI mt (w.getD j 0) ∧ hasB s.1 (ownI mt (w.getD j 0)) = false then s.1 ++ [ownI mt (w.getD j 0)] else s.1)
        split
        · simp
        · rename_i hc
          cases hb : hasB s.1 (ownI mt (w.getD j 0)) with
          | true => exact hasB_iff.1 hb
          | false => exact absurd ⟨o1, hb⟩ hc
theorem QU.fold (hm : Mt ll mt) {U : Int → Prop} (hU : Owned ll mt U) {s : QS} (h : QU ll mt U s) {w : List Int} (hw : ∀ x ∈ w, U x) : ∀ j, j ≤ w.length → QU ll mt U (foldN (stQ mt w) s j)
  | 0, _ => h
  | j + 1, hj => (QU.fold hm hU h hw j (by omega)).step hm hU hw (by omega)
theorem QU.all (hm : Mt ll mt) {U : Int → Prop} (hU : Owned ll mt U) (hf : ∀ i, i < mt.length → mt.getD i 0 = -1 → ∀ w ∈ ll.getD i [], U w) : ∀ k, QU ll mt U (qN ll mt k)
  | 0 => by
    have hfr := freeN_inv (mt := mt) mt.length
    have hx : ∀ x ∈ freeN mt mt.length, (x.toNat < mt.length) ∧ mt.getD x.toNat 0 = -1 := fun x hx => by
      have h1 := hfr.2.1 x hx
      refine ⟨by omega, (hfr.2.2 x.toNat (by omega)).2 ?_⟩
      rw [show ((x.toNat : Nat) : Int) = x by omega]; exact hx
    exact ⟨fun x h => hf x.toNat (hx x h).1 (hx x h).2, (fun r h => by cases h), fun x h => .inl (hx x h).2, (fun r h => by cases h)⟩
  | k + 1 => by
    have ih := QU.all hm hU hf k
    rw [qN_succ, rowQ]
    split
    · rename_i hk
      exact ih.fold hm hU (ih.l1 _ (at_mem hk)) _ (Nat.le_refl _)
    · exact ih
/-- Whom nobody could do better for: what he asked for, and whom. -/
theorem best_owned {m : Int} (hw : Wish m ll) (hm8 : m ≤ 8) (hm : Mt ll mt) (h : impB ll mt = false) : ∃ U : Int → Prop, Owned ll mt U ∧ ∀ i, i < mt.length → mt.getD i 0 = -1 → ∀ w ∈ ll.getD i [], U w := by
  rcases imp_cases ll mt with ⟨_, _, hn⟩ | ⟨k, _, _, _, h2, _⟩
  · refine ⟨fun r => ∃ i, i < mt.length ∧ mt.getD i 0 = -1 ∧ r ∈ (tryA ll mt i).2.2, fun r ⟨i, hi, hfi, hr⟩ => ?_, fun i hi hfi w hwm => ⟨i, hi, hfi, ?_⟩⟩
    · have hno : (tryA ll mt i).1 = false := by
        have := hn i hi
        simp only [impAt, hfi, decide_true, Bool.true_and] at this
        exact this
      have I := askR_inv hw 9 i mt [] (.nil m)
      have S := (askR_no hw hm8 9 i mt [] (.nil m) (by simp) hno).2 r hr (by simp)
      obtain ⟨k, hk, e, hkw⟩ := S
      exact ⟨(I.ok.range r hr).1, k, hk, e, fun w hwk => ⟨i, hi, hfi, hkw w hwk⟩⟩
    · have hno : (tryA ll mt i).1 = false := by
        have := hn i hi
        simp only [impAt, hfi, decide_true, Bool.true_and] at this
        exact this
      exact (askR_no hw hm8 9 i mt [] (.nil m) (by simp) hno).1 w hwm
  · rw [h] at h2; cases h2
/-! ### What is reached is shut -/
theorem foldQ_mono {w : List Int} {s : QS} {j : Nat} : ∀ k, j ≤ k → (foldN (stQ mt w) s j).1 <+: (foldN (stQ mt w) s k).1 ∧ (foldN (stQ mt w) s j).2 <+: (foldN (stQ mt w) s k).2
  | 0, h => by
    have : j = 0 := by omega
    subst this; exact ⟨List.prefix_refl _, List.prefix_refl _⟩
  | k + 1, h => by
    rcases Nat.lt_or_ge k j with c | c
    · have : j = k + 1 := by omega
      subst this; exact ⟨List.prefix_refl _, List.prefix_refl _⟩
    · have ih := foldQ_mono (w := w) (s := s) k c
      have st := stQ_pre (mt := mt) (w := w) (s := foldN (stQ mt w) s k) (j := k)
      exact ⟨ih.1.trans st.1, ih.2.trans st.2⟩
theorem foldQ_got {w : List Int} {s : QS} {j : Nat} (hj : j < w.length) : w.getD j 0 ∈ (foldN (stQ mt w) s w.length).2 := by
  have h1 : w.getD j 0 ∈ (foldN (stQ mt w) s (j + 1)).2 := by
    show w.getD j 0 ∈ (stQ mt w (foldN (stQ mt w) s j) j).2
    unfold stQ
    split
    · rename_i h; exact hasB_iff.1 h
    · simp
  exact (foldQ_mono w.length (by omega : j + 1 ≤ w.length)).2.subset h1
theorem qN_pre (k : Nat) : (qN ll mt k).1 <+: (qN ll mt (k + 1)).1 ∧ (qN ll mt k).2 <+: (qN ll mt (k + 1)).2 := by
  rw [qN_succ, rowQ]
  split
  · exact foldQ_pre _
  · exact ⟨List.prefix_refl _, List.prefix_refl _⟩
theorem qN_got : ∀ i j, j < i → j < (qN ll mt i).1.length → ∀ w ∈ ll.getD ((qN ll mt i).1.getD j 0).toNat [], w ∈ (qN ll mt i).2
  | 0, j, h, _, _, _ => by omega
  | i + 1, j, hj, hjl, w, hw => by
    have hp := qN_pre (ll := ll) (mt := mt) i
    rcases Nat.lt_or_ge i (qN ll mt i).1.length with hi | hi
    · have hj2 : j < (qN ll mt i).1.length := by omega
      rw [pre_getD hp.1 hj2] at hw
      rcases Nat.lt_or_ge j i with c | c
      · exact hp.2.subset (qN_got i j c hj2 w hw)
      · have : j = i := by omega
        subst this
        obtain ⟨q, hq, e⟩ := mem_at hw
        rw [qN_succ, rowQ, if_pos hi, ← e]
        exact foldQ_got hq
    · have e2 : qN ll mt (i + 1) = qN ll mt i := by rw [qN_succ, rowQ, if_neg (by omega)]
      rw [e2] at hw hjl ⊢
      exact qN_got i j (by omega) hjl w hw
theorem reach_shut (hmt : mt.length = n) (hw : Wish m ll) (hn : n ≤ 8) (hm : m ≤ 8) {x : Int} (hx : x ∈ (reachQ ll mt).1) : ∀ w ∈ ll.getD x.toNat [], w ∈ (reachQ ll mt).2 := fun w hwm => by
  have I : QInv n m (reachQ ll mt) := qN_inv hmt hw 8
  obtain ⟨j, hj, e⟩ := mem_at hx
  have := (I.len hn hm).1
  exact qN_got 8 j (by omega) hj w (by show w ∈ ll.getD ((reachQ ll mt).1.getD j 0).toNat []; rw [e]; exact hwm)
/-! ### Counting -/
theorem free_count (mt : List Int) : frees mt = ((rangeI mt.length).filter fun x => decide (mt.getD x.toNat 0 = -1)).length := by
  have e : mt = (rangeI mt.length).map fun x => mt.getD x.toNat 0 := by
    apply List.ext_getElem
    · simp
    · intro i h1 h2
      simp [rangeI, h1]
  have : frees mt = ((rangeI mt.length).map fun x => mt.getD x.toNat 0).countP fun x => decide (x = -1) := by rw [← e]; rfl
  rw [this, List.countP_map, List.countP_eq_length_filter]; rfl
theorem same_len {a b : List Int} (ha : a.Nodup) (hb : b.Nodup) (h : ∀ x, x ∈ a ↔ x ∈ b) : a.length = b.length :=
  Nat.le_antisymm (nod_sub_len ha fun x hx => (h x).1 hx) (nod_sub_len hb fun x hx => (h x).2 hx)
theorem split_len (p : Int → Bool) : ∀ (l : List Int), l.length = (l.filter p).length + (l.filter fun x => !p x).length
  | [] => rfl
  | x :: l => by
    have := split_len p l
    cases h : p x <;> simp [h] <;> omega
theorem rangeI_nodup' (n : Nat) : (rangeI n).Nodup := (rangeI_rise n).imp fun h => by omega
structure Reach (ll : List (List Int)) (mt : List Int) (L R : List Int) : Prop where
  n1 : L.Nodup
  r1 : ∀ x ∈ L, 0 ≤ x ∧ x < mt.length
  n2 : R.Nodup
  free : ∀ i, i < mt.length → mt.getD i 0 = -1 → (i : Int) ∈ L
  shut : ∀ x ∈ L, ∀ w ∈ ll.getD x.toNat [], w ∈ R
  l2 : ∀ x ∈ L, mt.getD x.toNat 0 = -1 ∨ mt.getD x.toNat 0 ∈ R
  r2 : ∀ r ∈ R, 0 ≤ r ∧ 0 ≤ ownI mt r ∧ ownI mt r ∈ L
theorem reach_of (hmt : mt.length = n) (hw : Wish m ll) (hn : n ≤ 8) (hm8 : m ≤ 8) (hm : Mt ll mt) (h : impB ll mt = false) : Reach ll mt (reachQ ll mt).1 (reachQ ll mt).2 := by
  obtain ⟨U, hU, hf⟩ := best_owned hw hm8 hm h
  have I : QInv n m (reachQ ll mt) := qN_inv hmt hw 8
  have Q : QU ll mt U (reachQ ll mt) := QU.all hm hU hf 8
  refine ⟨I.n1, fun x hx => by have := I.r1 x hx; omega, I.n2, fun i hi hfi => ?_, fun x hx => reach_shut hmt hw hn hm8 hx, Q.l2, fun r hr => ⟨(I.r2 r hr).1, Q.r2 r hr⟩⟩
  exact (qN_free (ll := ll) (mt := mt) 8).subset (((freeN_inv (mt := mt) mt.length).2.2 i hi).1 hfi)
theorem Reach.count {L R : List Int} (h : Reach ll mt L R) (hm : Mt ll mt) : L.length = R.length + frees mt := by
  rw [split_len (fun x => decide (mt.getD x.toNat 0 = -1)) L, free_count]
  have e1 : (L.filter fun x => decide (mt.getD x.toNat 0 = -1)).length = ((rangeI mt.length).filter fun x => decide (mt.getD x.toNat 0 = -1)).length := by
    refine same_len (h.n1.filter _) ((rangeI_nodup' _).filter _) fun x => ?_
    rw [List.mem_filter, List.mem_filter, rangeI_mem]
    refine ⟨fun ⟨a, b⟩ => ⟨h.r1 x a, b⟩, fun ⟨a, b⟩ => ⟨?_, b⟩⟩
    have := h.free x.toNat (by omega) (by simpa using b)
    rwa [show ((x.toNat : Nat) : Int) = x by omega] at this
  have e2 : (L.filter fun x => !decide (mt.getD x.toNat 0 = -1)).length = R.length := by
    have hb : ∀ x ∈ L.filter fun x => !decide (mt.getD x.toNat 0 = -1), x ∈ L ∧ mt.getD x.toNat 0 ≠ -1 := fun x hx => by
      rw [List.mem_filter] at hx; exact ⟨hx.1, by simpa using hx.2⟩
    rw [← List.length_map (as := L.filter fun x => !decide (mt.getD x.toNat 0 = -1)) (fun x => mt.getD x.toNat 0)]
    refine same_len ?_ h.n2 fun r => ?_
    · refine List.pairwise_map.2 ((h.n1.filter _).imp_of_mem fun {a b} ha hbb hne e => ?_)
      have ha' := hb a ha
      have hb' := hb b hbb
      have ra := h.r1 a ha'.1
      have rb := h.r1 b hb'.1
      have := hm.inj a.toNat b.toNat (by omega) (by omega) ha'.2 e
      exact hne (by omega)
    · rw [List.mem_map]
      constructor
      · rintro ⟨x, hx, rfl⟩
        exact (h.l2 x (hb x hx).1).resolve_left (hb x hx).2
      · intro hr
        obtain ⟨r0, o1, o2⟩ := h.r2 r hr
        have ho := own_at o1
        refine ⟨ownI mt r, ?_, ho.2⟩
        rw [List.mem_filter]
        exact ⟨o2, by rw [ho.2]; simp; omega⟩
  omega
/-- Pairs. -/
def prs (mt : List Int) : Nat := mt.countP fun x => decide (0 ≤ x)
theorem prs_frees : ∀ (mt : List Int), (∀ x ∈ mt, -1 ≤ x) → prs mt + frees mt = mt.length
  | [], _ => rfl
  | x :: l, h => by
    have ih := prs_frees l fun y hy => h y (by simp [hy])
    have := h x (by simp)
    unfold prs frees at *
    simp only [List.countP_cons, List.length_cons, decide_eq_true_eq]
    by_cases c : x = -1
    · rw [if_pos c, if_neg (by omega)]; omega
    · rw [if_neg c, if_pos (by omega)]; omega
theorem mt_low (hw : Wish m ll) (hm : Mt ll mt) : ∀ x ∈ mt, -1 ≤ x := fun x hx => by
  obtain ⟨j, hj, e⟩ := mem_at hx
  by_cases c : x = -1
  · omega
  · have h1 := hm.has j hj (by rw [e]; exact c)
    rw [e] at h1
    obtain ⟨q, hq, e2⟩ := mem_at h1
    have := hw j q hq
    omega
theorem prs_list (mt : List Int) : prs mt = ((rangeI mt.length).filter fun x => decide (0 ≤ mt.getD x.toNat 0)).length := by
  have e : mt = (rangeI mt.length).map fun x => mt.getD x.toNat 0 := by
    apply List.ext_getElem
    · simp
    · intro i h1 h2
      simp [rangeI, h1]
  have : prs mt = ((rangeI mt.length).map fun x => mt.getD x.toNat 0).countP fun x => decide (0 ≤ x) := by rw [← e]; rfl
  rw [this, List.countP_map, List.countP_eq_length_filter]; rfl
/-- No match has more pairs than it takes to be in all. -/
theorem match_le_cover (hm : Mt ll mt) {a b : List Int} (hc : ∀ i, i < mt.length → (i : Int) ∈ a ∨ ∀ w ∈ ll.getD i [], w ∈ b) : prs mt ≤ a.length + b.length := by
  rw [prs_list, split_len (fun x => hasB a x)]
  have hb : ∀ x ∈ (rangeI mt.length).filter fun x => decide (0 ≤ mt.getD x.toNat 0), (0 ≤ x ∧ x < mt.length) ∧ 0 ≤ mt.getD x.toNat 0 := fun x hx => by
    rw [List.mem_filter, rangeI_mem] at hx; exact ⟨hx.1, by simpa using hx.2⟩
  have e1 : (((rangeI mt.length).filter fun x => decide (0 ≤ mt.getD x.toNat 0)).filter fun x => hasB a x).length ≤ a.length :=
    nod_sub_len (((rangeI_nodup' _).filter _).filter _) fun x hx => hasB_iff.1 (List.mem_filter.1 hx).2
  have e2 : (((rangeI mt.length).filter fun x => decide (0 ≤ mt.getD x.toNat 0)).filter fun x => !hasB a x).length ≤ b.length := by
    rw [← List.length_map (as := ((rangeI mt.length).filter fun x => decide (0 ≤ mt.getD x.toNat 0)).filter fun x => !hasB a x) (fun x => mt.getD x.toNat 0)]
    refine nod_sub_len ?_ fun r hr => ?_
    · refine List.pairwise_map.2 ((((rangeI_nodup' _).filter _).filter _).imp_of_mem fun {x y} hx hy hne e => ?_)
      have hx' := hb x (List.mem_filter.1 hx).1
      have hy' := hb y (List.mem_filter.1 hy).1
      have := hm.inj x.toNat y.toNat (by omega) (by omega) (by omega) e
      exact hne (by omega)
    · obtain ⟨x, hx, rfl⟩ := List.mem_map.1 hr
      have hx' := hb x (List.mem_filter.1 hx).1
      have hna : x ∉ a := by have := (List.mem_filter.1 hx).2; simp at this; exact hasB_false.1 this
      rcases hc x.toNat (by omega) with h1 | h1
      · rw [show ((x.toNat : Nat) : Int) = x by omega] at h1; exact absurd h1 hna
      · exact h1 _ (hm.has x.toNat (by omega) (by omega))
  omega
end
theorem some_mem {s : List Int} {n : Nat} (hr : s.Pairwise (· < ·)) (hm : ∀ x ∈ s, 0 ≤ x ∧ x < n) : someB s n = true := by
  unfold someB
  rw [List.all_eq_true]
  intro i hi
  have hi2 : i < s.length := by simpa using hi
  have h1 := hm (s.getD i 0) (by rw [getD_get hi2]; exact List.getElem_mem _)
  simp only [someOk, Bool.and_eq_true, Bool.or_eq_true, decide_eq_true_eq]
  rcases Nat.eq_zero_or_pos i with h0 | h0
  · exact ⟨h1, .inl h0⟩
  · have := List.pairwise_iff_getElem.1 hr (i - 1) i (by omega) hi2 (by omega)
    rw [← getD_get (d := (0 : Int)) hi2, ← getD_get (d := (0 : Int)) (by omega : i - 1 < s.length)] at this
    exact ⟨h1, .inr this⟩
/-! ### What the laws ask -/
structure PairEnd (n m : Int) (ll : List (List Int)) : Prop where
  len : ((bestM' ll n.toNat).length : Int) = n
  ok : Mt ll (bestM' ll n.toNat)
  is : isMatch n m ll (bestM' ll n.toNat) = true
  no : impB ll (bestM' ll n.toNat) = false
  reach : Reach ll (bestM' ll n.toNat) (rcQ n m ll).1 (rcQ n m ll).2
  cover : isCover n m ll (coA n m ll) (coR n m ll) = true
  pairs : (coA n m ll).length + (coR n m ll).length = prs (bestM' ll n.toNat)
theorem pair_end {n m : Int} {ll : List (List Int)} (hg : goodP n m ll = true) : PairEnd n m ll := by
  have hw := goodP_wish hg
  have hl := goodP_len hg
  have hb := bestM_len hw n.toNat
  have hm : Mt ll (bestM' ll n.toNat) := best_mt hw n.toNat 8
  have hno := best_max hw (n := n.toNat) (by omega)
  have hr : Reach ll (bestM' ll n.toNat) (rcQ n m ll).1 (rcQ n m ll).2 := reach_of hb hw (by omega) (by omega) hm hno
  have hI := rcQ_inv hg
  have hc := hr.count hm
  have hp := prs_frees _ (mt_low hw hm)
  have hA : (coA n m ll) = (rangeI n.toNat).filter (fun x => !hasB (rcQ n m ll).1 x) := by rw [coA, if_pos hg]
  have hR : (coR n m ll) = sortI (rcQ n m ll).2 := by rw [coR, if_pos hg]
  refine ⟨by rw [hb]; omega, hm, mt_isMatch hg (by rw [hb]; omega) hm, hno, hr, ?_, ?_⟩
  · simp only [isCover, coverOk, coverB, Bool.and_eq_true, List.all_eq_true, List.mem_range]
    refine ⟨⟨⟨hg, ?_⟩, ?_⟩, fun k hk => ?_⟩
    · have := some_mem (n := n.toNat) (s := coA n m ll) (by rw [hA]; exact (rangeI_rise _).filter _) fun x hx => by rw [hA] at hx; exact rangeI_mem.1 (List.mem_filter.1 hx).1
      rwa [show ((n.toNat : Nat) : Int) = n by omega] at this
    · have := some_mem (n := m.toNat) (s := coR n m ll) (by rw [hR]; exact sortI_rise hI.n2) fun x hx => by rw [hR] at hx; have := hI.r2 x (sortI_mem.1 hx); omega
      rwa [show ((m.toNat : Nat) : Int) = m by omega] at this
    · simp only [coverAt, Bool.or_eq_true, Bool.not_eq_true']
      by_cases c : (k : Int) ∈ (rcQ n m ll).1
      · refine .inr ?_
        rw [List.any_eq_false]
        intro x hx
        have := hr.shut k c x (by rw [Int.toNat_natCast]; exact hx)
        rw [hR, hasB_sortI, hasB_iff.2 this]; simp
      · refine .inl (hasB_iff.2 ?_)
        rw [hA, List.mem_filter, rangeI_mem, hasB_false.2 c]
        exact ⟨by omega, rfl⟩
  · have e1 := split_len (fun x => hasB (rcQ n m ll).1 x) (rangeI n.toNat)
    have e2 : ((rangeI n.toNat).filter fun x => hasB (rcQ n m ll).1 x).length = (rcQ n m ll).1.length := by
      refine same_len ((rangeI_nodup' _).filter _) hI.n1 fun x => ?_
      rw [List.mem_filter, rangeI_mem, hasB_iff]
      exact ⟨fun h => h.2, fun h => ⟨hI.r1 x h, h⟩⟩
    rw [hA, hR, sortI_len]
    rw [rangeI_length, e2] at e1
    omega
/-- Whoever has none wants, with some others, fewer than they are. -/
theorem hall {n m : Int} {ll : List (List Int)} (h : shB n m ll = true) {wanted : List Int} (hn : wanted.Nodup) (hs : ∀ x ∈ wanted, ∃ i ∈ shL n m ll, x ∈ ll.getD i.toNat []) : wanted.length < (shL n m ll).length := by
  simp only [shB, Bool.and_eq_true, decide_eq_true_eq] at h
  have he := pair_end h.1
  have hc := he.reach.count he.ok
  have hL : shL n m ll = sortI (rcQ n m ll).1 := by rw [shL, if_pos h.1]
  have h1 : wanted.length ≤ (rcQ n m ll).2.length := nod_sub_len hn fun x hx => by
    obtain ⟨i, hi, hw⟩ := hs x hx
    rw [hL] at hi
    exact he.reach.shut i (sortI_mem.1 hi) x hw
  have h2 : 0 < frees (bestM' ll n.toNat) := by
    have := short_iff (n := n) (m := m) (ll := ll) |>.2 h.2
    have hfi := freeN_inv (mt := bestM' ll n.toNat) (bestM' ll n.toNat).length
    rw [free_count]
    obtain ⟨x, hx⟩ := List.length_pos_iff_exists_mem.1 this
    refine List.length_pos_iff_exists_mem.2 ⟨x, ?_⟩
    have h3 := hfi.2.1 x hx
    rw [List.mem_filter, rangeI_mem]
    exact ⟨h3, by rw [decide_eq_true_eq]; exact (hfi.2.2 x.toNat (by omega)).2 (by rw [show ((x.toNat : Nat) : Int) = x by omega]; exact hx)⟩
  rw [hL, sortI_len]
  omega
end YtofjbgpaofcpjaaAM
