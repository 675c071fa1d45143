/- Menger: ways that share no link, and the links that cut them. In plain Lean. -/
import Derived.Test.YtafalojjbghlhaaAmLinkWays2
import Derived.Test.YtafalojjbghlhaaAmFlowLaw
import Derived.Test.YtafalojjbghlhaaAmReachModels
import Derived.Test.YtafalojjbghlhaaAmMooreMath
set_option linter.unusedVariables false
set_option linter.unusedSimpArgs false
namespace YtafalojjbghlhaaAM
section
variable {l : List S2} {f t : Int} {w : List Int}
/-! ### The way that is left of a walk -/
theorem sg_at {P : Nat} (hp : ∀ d, d < P → (sgN l w d).1 < w.length) : ∀ p, p ≤ P → ∀ q, q < p → (sgN l w p).2.getD q 0 = w.getD (lstI l w (sgN l w q).1) 0
  | 0, _, q, hq => by omega
  | p + 1, h, q, hq => by
    have hl := (sgN_inv (l := l) (w := w) (p := p) fun d hd => hp d (by omega)).2.2
    rw [sgN_go (hp p (by omega))]
    simp only []
    rw [getD_snoc, hl]
    rcases Nat.lt_or_ge q p with c | c
    · rw [if_pos c]; exact sg_at hp p (by omega) q c
    · have e : q = p := by omega
      rw [if_neg (by omega), if_pos e, e]
theorem sg_mono {P : Nat} (hp : ∀ d, d < P → (sgN l w d).1 < w.length) : ∀ q p, p < q → q ≤ P → lstI l w (sgN l w p).1 < (sgN l w q).1
  | 0, p, h, _ => by omega
  | q + 1, p, h, hq => by
    have e := sgN_go (hp q (by omega))
    have h1 : (sgN l w (q + 1)).1 = lstI l w (sgN l w q).1 + 1 := by rw [e]
    have h2 := (lstI_lt (l := l) (w := w) (hp q (by omega))).1
    rcases Nat.lt_or_ge p q with c | c
    · have := sg_mono hp q p c (by omega)
      omega
    · have e2 : p = q := by omega
      subst e2; omega
theorem at_ne (h : WDone l f t w) {P : Nat} (hp : ∀ d, d < P → (sgN l w d).1 < w.length) {p q : Nat} (hpq : p < q) (hq : q ≤ P) : atS l t w p ≠ atS l t w q := by
  have h1 := hp p (by omega)
  have h2 := sg_mono hp q p hpq hq
  have h3 := (lstN_spec l w (sgN l w p).1 (w.length - ((sgN l w p).1 + 1))).2.2.2
  have h4 := (lstI_lt (l := l) (w := w) h1)
  have e1 : atS l t w p = fromW l w (sgN l w p).1 := by rw [atS, if_pos h1]
  rw [e1]
  by_cases c : (sgN l w q).1 < w.length
  · have e2 : atS l t w q = fromW l w (sgN l w q).1 := by rw [atS, if_pos c]
    rw [e2]
    exact Ne.symm (h3 _ h2 (by omega))
  · have e2 : atS l t w q = t := by rw [atS, if_neg c]
    rw [e2]
    exact (h.from' _ h1).1
theorem sg_way (ha : linkAsk l f t = true) (h : WDone l f t w) : isWay l f t (sgE l w) = true ∧ 0 < (sgE l w).length ∧ ∀ x ∈ sgE l w, x ∈ w := by
  obtain ⟨hg, hf, ht, hft, _⟩ := linkAsk_spec ha
  obtain ⟨P, hP, hp⟩ := sg_ex l w
  have hE := sg_end hp hP
  have hI := sgN_inv hp
  have hlen : (sgE l w).length = P := by rw [← hE]; exact hI.2.2
  have hx : ∀ q, q < P → (sgE l w).getD q 0 = w.getD (lstI l w (sgN l w q).1) 0 := fun q hq => by rw [← hE]; exact sg_at hp P (Nat.le_refl _) q hq
  have hlast := fun q hq => h.last hg (p := q) (hp q hq)
  have hatW : ∀ k, k ≤ P → atW l f (sgE l w) k = atS l t w k := fun k hk => by
    cases k with
    | zero => exact h.start.symm
    | succ k =>
      show (l.getD ((sgE l w).getD k 0).toNat ⟨0, 0⟩).b = _
      rw [hx k (by omega)]
      exact (hlast k (by omega)).2.2.2.2
  have hto : ∀ k, k < P → toW l (sgE l w) k = atS l t w (k + 1) := fun k hk => hatW (k + 1) hk
  refine ⟨?_, ?_, fun x hx' => ?_⟩
  · simp only [isWay, wayOk, Bool.and_eq_true, List.all_eq_true, List.mem_range, decide_eq_true_eq, hlen]
    refine ⟨⟨⟨ha, fun k hk => ?_⟩, fun k hk => ?_⟩, ?_⟩
    · simp only [idxB, Bool.and_eq_true, decide_eq_true_eq]
      rw [hx k hk]
      exact (hlast k hk).2.2.2.1
    · simp only [okW, Bool.and_eq_true, decide_eq_true_eq, Bool.not_eq_true']
      refine ⟨?_, hasB_false.2 ?_⟩
      · rw [hatW k (by omega), hx k hk]
        have h2 := (lstN_spec l w (sgN l w k).1 (w.length - ((sgN l w k).1 + 1))).2.2.1
        have e1 : atS l t w k = fromW l w (sgN l w k).1 := by rw [atS, if_pos (hp k hk)]
        rw [e1]
        exact h2
      · rw [hto k hk]
        unfold seenW
        intro hm
        rcases List.mem_cons.1 hm with hm | hm
        · exact at_ne h hp (p := 0) (q := k + 1) (by omega) (by omega) (by rw [h.start]; exact hm.symm)
        · obtain ⟨j, hj, e⟩ := List.mem_map.1 hm
          have hj2 : j < k := List.mem_range.1 hj
          rw [hto j (by omega)] at e
          exact at_ne h hp (p := j + 1) (q := k + 1) (by omega) (by omega) e
    · rw [hatW P (Nat.le_refl _)]
      exact h.stop.2 hP
  · rw [hlen]
    rcases Nat.eq_zero_or_pos P with c | c
    · subst c
      exact absurd h.pos hP
    · exact c
  · rw [← hE] at hx'
    exact sgN_mem P x hx'
/-! ### Ways -/
theorem way_parts (h : isWay l f t w = true) : linkAsk l f t = true ∧ (∀ k, k < w.length → idxB l w k = true) ∧ (∀ k, k < w.length → okW l f w k = true) ∧ atW l f w w.length = t := by
  simp only [isWay, wayOk, Bool.and_eq_true, List.all_eq_true, List.mem_range, decide_eq_true_eq] at h
  exact ⟨h.1.1.1, h.1.1.2, h.1.2, h.2⟩
theorem way_ne (h : isWay l f t w = true) : w ≠ [] := fun e => by
  subst e
  have h1 := way_parts h
  exact (linkAsk_spec h1.1).2.2.2.1 h1.2.2.2
theorem way_nodup (h : isWay l f t w = true) : w.Nodup := by
  have h1 := way_parts h
  rw [List.Nodup, List.pairwise_iff_getElem]
  intro i j hi hj hij e
  have h2 := h1.2.2.1 j hj
  simp only [okW, Bool.and_eq_true, decide_eq_true_eq, Bool.not_eq_true'] at h2
  refine hasB_false.1 h2.2 ?_
  have : toW l w j = toW l w i := by
    show (l.getD (w.getD j 0).toNat ⟨0, 0⟩).b = (l.getD (w.getD i 0).toNat ⟨0, 0⟩).b
    rw [getD_get hj, getD_get hi, e]
  rw [this]
  unfold seenW
  exact List.mem_cons_of_mem _ (List.mem_map.2 ⟨i, List.mem_range.2 hij, rfl⟩)
theorem way_step (h : isWay l f t w = true) {k : Nat} (hk : k < w.length) : (0 ≤ w.getD k 0 ∧ w.getD k 0 < l.length) ∧ (l.getD (w.getD k 0).toNat ⟨0, 0⟩).a = atW l f w k ∧ (l.getD (w.getD k 0).toNat ⟨0, 0⟩).b = atW l f w (k + 1) := by
  have h1 := way_parts h
  have h2 := h1.2.1 k hk
  have h3 := h1.2.2.1 k hk
  simp only [idxB, Bool.and_eq_true, decide_eq_true_eq] at h2
  simp only [okW, Bool.and_eq_true, decide_eq_true_eq] at h3
  exact ⟨h2, h3.1, rfl⟩
/-- A way leads out of what it begins in. -/
theorem way_cross (h : isWay l f t w = true) (C : Int → Prop) (hf : C f) (ht : ¬ C t) : ∃ k, k < w.length ∧ C (l.getD (w.getD k 0).toNat ⟨0, 0⟩).a ∧ ¬ C (l.getD (w.getD k 0).toNat ⟨0, 0⟩).b := by
  refine Classical.byContradiction fun hn => ht ?_
  have key : ∀ k, k ≤ w.length → C (atW l f w k) := fun k => by
    induction k with
    | zero => intro _; exact hf
    | succ k ih =>
      intro hk
      have h1 := way_step h (k := k) (by omega)
      refine Classical.byContradiction fun hc => hn ⟨k, by omega, ?_, ?_⟩
      · rw [h1.2.1]; exact ih (by omega)
      · rw [h1.2.2]; exact hc
  rw [← (way_parts h).2.2.2]
  exact key _ (Nat.le_refl _)
theorem way_len (h : isWay l f t w = true) : w.length ≤ 20 := by
  have h1 := way_nodup h
  have h2 := goodLinks_len (linkAsk_spec (way_parts h).1).1
  have := nod_len l.length w h1 fun x hx => by
    obtain ⟨k, hk, rfl⟩ := List.getElem_of_mem hx
    have := (way_step h hk).1
    rwa [getD_get hk] at this
  omega
/-! ### The walks take each link once -/
theorem set_zero {a : List Int} {i k : Nat} (h : a.getD k 0 = 0) : (a.set i 0).getD k 0 = 0 := by
  rw [List.getD_eq_getElem?_getD, List.getElem?_set]
  split
  · split <;> rfl
  · rw [← List.getD_eq_getElem?_getD]; exact h
theorem wk_zero (l : List S2) (f t : Int) (fl : List Int) {k : Nat} (h : fl.getD k 0 = 0) : ∀ j, (wkN l f t fl j).fl.getD k 0 = 0
  | 0 => h
  | j + 1 => by
    have ih := wk_zero l f t fl h j
    rw [wkN_succ, stK]
    split
    · exact ih
    · exact set_zero ih
theorem wk_had (hg : goodLinks l = true) {m : Int} {fl : List Int} (h : FlOk l f t m fl) (hf : 0 ≤ f ∧ f < 8) (hm : 1 ≤ m) : ∀ j, (∀ d, d < j → ¬ (wkN l f t fl d).at' = t) → ∀ x ∈ (wkN l f t fl j).way, fl.getD x.toNat 0 ≠ 0
  | 0, _, x, hx => by rw [wkN_zero] at hx; simp at hx
  | j + 1, hj, x, hx => by
    have hi := wk_inv hg h hf hm j fun d hd => hj d (by omega)
    rw [wkN_go (hj j (by omega))] at hx
    rcases List.mem_append.1 hx with hx | hx
    · exact wk_had hg h hf hm j (fun d hd => hj d (by omega)) x hx
    · rw [List.mem_singleton] at hx
      subst hx
      intro e
      have h1 := hi.hit hm (hj j (by omega))
      rw [Int.toNat_natCast] at e
      have := wk_zero l f t fl e j
      omega
end
section
variable {l : List S2} {f t : Int}
structure Wa (l : List S2) (f t : Int) (fl : List Int) (x : List Int) : Prop where
  way : isWay l f t x = true
  had : ∀ k ∈ x, fl.getD k.toNat 0 ≠ 0
  out : ∀ k ∈ x, (wkE l f t fl).fl.getD k.toNat 0 = 0
theorem wa_one (ha : linkAsk l f t = true) {m : Int} {fl : List Int} (h : FlOk l f t m fl) (hm : 1 ≤ m) : Wa l f t fl (sgE l (wkE l f t fl).way) ∧ ∀ k, fl.getD k 0 = 0 → (wkE l f t fl).fl.getD k 0 = 0 := by
  obtain ⟨hg, hf, ht, hft, _⟩ := linkAsk_spec ha
  have hW := wk_way hg h (by omega) hft hm
  obtain ⟨j, h1, h2⟩ := wk_ex hg h (by omega) hm
  have e := wk_end hg h (by omega) hm h2 h1
  have hs := sg_way ha hW
  have hi := wk_inv hg h (by omega) hm j h2
  refine ⟨⟨hs.1, fun k hk => ?_, fun k hk => ?_⟩, fun k hk => ?_⟩
  · have := hs.2.2 k hk
    rw [e] at this
    exact wk_had hg h (by omega) hm j h2 k this
  · have := hs.2.2 k hk
    rw [e] at this ⊢
    exact (hi.wr k this).2.2
  · rw [e]; exact wk_zero l f t fl hk j
/-- The ways share nothing. -/
theorem wa_all (ha : linkAsk l f t = true) : ∀ j, j ≤ waV l f t → (∀ x ∈ waR l f t j, isWay l f t x = true) ∧ (waR l f t j).flatten.Nodup ∧ ∀ k ∈ (waR l f t j).flatten, (waF l f t j).getD k.toNat 0 = 0
  | 0, _ => by rw [waR_zero]; simp
  | j + 1, hj => by
    obtain ⟨hg, hf, ht, hft, _⟩ := linkAsk_spec ha
    obtain ⟨i1, i2, i3⟩ := wa_all ha j (by omega)
    have hok := (wa_ok hg hf hft (j := j) (by omega)).1
    obtain ⟨hw, hz⟩ := wa_one ha hok (by omega)
    rw [waR_succ, waF_succ]
    refine ⟨fun x hx => ?_, ?_, fun k hk => ?_⟩
    · rcases List.mem_append.1 hx with hx | hx
      · exact i1 x hx
      · rw [List.mem_singleton] at hx; subst hx; exact hw.way
    · rw [List.flatten_append, List.nodup_append]
      refine ⟨i2, by simpa using way_nodup hw.way, fun a h1 b h2 e => ?_⟩
      have h2' : b ∈ sgE l (wkE l f t (waF l f t j)).way := by simpa using h2
      subst e
      exact hw.had a h2' (i3 a h1)
    · rw [List.flatten_append] at hk
      rcases List.mem_append.1 hk with hk | hk
      · exact hz _ (i3 k hk)
      · exact hw.out k (by simpa using hk)
/-! ### The cut -/
theorem fc_mem {s : List Int} {x : Int} : ∀ k, x ∈ fcN l s k ↔ ∃ j : Nat, j < k ∧ x = j ∧ acrossB l s j = true
  | 0 => by rw [fcN_zero]; simp
  | k + 1 => by
    rw [fcN_succ]
    split
    · rename_i h
      rw [List.mem_append, fc_mem k, List.mem_singleton]
      constructor
      · rintro (⟨j, h1, h2⟩ | rfl)
        · exact ⟨j, by omega, h2⟩
        · exact ⟨k, by omega, rfl, h⟩
      · rintro ⟨j, h1, h2, h3⟩
        rcases Nat.lt_or_ge j k with c | c
        · exact .inl ⟨j, c, h2, h3⟩
        · have : j = k := by omega
          subst this; exact .inr h2
    · rename_i h
      rw [fc_mem k]
      constructor
      · rintro ⟨j, h1, h2⟩; exact ⟨j, by omega, h2⟩
      · rintro ⟨j, h1, h2, h3⟩
        rcases Nat.lt_or_ge j k with c | c
        · exact ⟨j, c, h2, h3⟩
        · have : j = k := by omega
          subst this; exact absurd h3 h
theorem fc_rise (s : List Int) : ∀ k, (fcN l s k).Pairwise (· < ·)
  | 0 => by rw [fcN_zero]; exact List.Pairwise.nil
  | k + 1 => by
    rw [fcN_succ]
    split
    · rw [List.pairwise_append]
      refine ⟨fc_rise s k, List.pairwise_singleton _ _, fun a ha b hb => ?_⟩
      rw [List.mem_singleton] at hb
      obtain ⟨j, h1, h2, _⟩ := (fc_mem k).1 ha
      omega
    · exact fc_rise s k
theorem fc_count (s : List Int) : ∀ k, k ≤ l.length → foldTo (cutStep s) 0 (pipesOf l) k = ((fcN l s k).length : Nat)
  | 0, _ => by rw [foldTo_zero, fcN_zero]; rfl
  | k + 1, hk => by
    have ih := fc_count s k (by omega)
    have hk2 : k < (pipesOf l).length := by rw [pipesOf_len]; omega
    rw [foldTo_succ _ _ _ hk2, ih, fcN_succ]
    have e : (pipesOf l)[k] = ⟨(l.getD k ⟨0, 0⟩).a, (l.getD k ⟨0, 0⟩).b, 1⟩ := by
      have := pipesOf_at (l := l) (k := k) (by omega)
      rwa [getD_get hk2] at this
    rw [e]
    simp only [cutStep, acrossB]
    have key : ∀ (p q : Bool), (if p = true ∧ q = false then ((fcN l s k).length : Int) + 1 else ((fcN l s k).length : Int)) = ((if (p && !q) = true then fcN l s k ++ [(k : Int)] else fcN l s k).length : Nat) := fun p q => by
      cases p <;> cases q <;> simp
    exact key _ _
structure CutEnd (l : List S2) (f t : Int) : Prop where
  len : (fcL l f t).length = waV l f t
  rise : someB (fcL l f t) l.length = true
  meet : ∀ x, isWay l f t x = true → ∃ k ∈ x, k ∈ fcL l f t
  shut : t ∉ rcM l (fcL l f t) f
theorem cut_end (ha : linkAsk l f t = true) : CutEnd l f t := by
  obtain ⟨hg, hf, ht, hft, hgp, hask⟩ := linkAsk_spec ha
  have he := flow_end hask
  have e : fcL l f t = fcN l (sideM (pipesOf l) f t) l.length := by rw [fcL, if_pos ha]
  have hx : ∀ k, k < l.length → hasB (sideM (pipesOf l) f t) (l.getD k ⟨0, 0⟩).a = true → hasB (sideM (pipesOf l) f t) (l.getD k ⟨0, 0⟩).b = false → (k : Int) ∈ fcL l f t := fun k hk h1 h2 => by
    rw [e, fc_mem]; exact ⟨k, hk, rfl, by unfold acrossB; rw [h1, h2]; rfl⟩
  refine ⟨?_, ?_, fun x hw => ?_, fun hm => ?_⟩
  · have h1 := fc_count (l := l) (sideM (pipesOf l) f t) l.length (Nat.le_refl _)
    have h2 : foldTo (cutStep (sideM (pipesOf l) f t)) 0 (pipesOf l) l.length = cutM (pipesOf l) (sideM (pipesOf l) f t) := by unfold cutM; rw [pipesOf_len]
    rw [h2, he.cut] at h1
    rw [e]
    unfold waV
    omega
  · rw [e]
    exact some_mem (fc_rise _ _) fun x hx' => by obtain ⟨j, h1, h2, _⟩ := (fc_mem _).1 hx'; omega
  · obtain ⟨k, hk, h1, h2⟩ := way_cross hw (fun v => v ∈ sideM (pipesOf l) f t) (hasB_iff.1 he.hasU) (hasB_false.1 he.noT)
    have hs := way_step hw hk
    refine ⟨x.getD k 0, by rw [getD_get hk]; exact List.getElem_mem hk, ?_⟩
    have := hx (x.getD k 0).toNat (by omega) (hasB_iff.2 h1) (hasB_false.2 h2)
    rwa [show (((x.getD k 0).toNat : Nat) : Int) = x.getD k 0 by omega] at this
  · rw [rcM, sortI_mem] at hm
    have hI := RcInv.outer (wo := fcL l f t) hg hf 8
    have := hI.low (fun v => v ∈ sideM (pipesOf l) f t) ⟨hasB_iff.1 he.hasU, fun k hk hen h1 => by
      cases h2 : hasB (sideM (pipesOf l) f t) (l.getD k ⟨0, 0⟩).b with
      | true => exact hasB_iff.1 h2
      | false =>
        have := hx k hk (hasB_iff.2 h1) h2
        simp only [enB, Bool.not_eq_true'] at hen
        exact absurd this (hasB_false.1 hen)⟩ t hm
    exact hasB_false.1 he.noT this
theorem many_hits (p : Int → Bool) : ∀ (ll : List (List Int)), (∀ x ∈ ll, ∃ k ∈ x, p k = true) → ll.length ≤ (ll.flatten.filter p).length
  | [], _ => Nat.zero_le _
  | x :: ll, h => by
    have ih := many_hits p ll fun y hy => h y (by simp [hy])
    obtain ⟨k, hk, hp⟩ := h x (by simp)
    have : 0 < (x.filter p).length := List.length_pos_iff_exists_mem.2 ⟨k, List.mem_filter.2 ⟨hk, hp⟩⟩
    rw [List.flatten_cons, List.filter_append, List.length_append, List.length_cons]
    omega
/-- With fewer links cut than there are ways apart, one is left. -/
theorem fewer_reach (ha : linkAsk l f t = true) {wo : List Int} (h : wo.length < waV l f t) : t ∈ rcM l wo f := by
  obtain ⟨hg, hf, ht, hft, hgp, hask⟩ := linkAsk_spec ha
  refine Classical.byContradiction fun hn => ?_
  rw [rcM, sortI_mem] at hn
  have hc := rc_closed (wo := wo) hg hf
  obtain ⟨h1, h2, _⟩ := wa_all ha (waV l f t) (Nat.le_refl _)
  have hm := many_hits (fun k => hasB wo k) (waR l f t (waV l f t)) fun x hx => by
    obtain ⟨k, hk, c1, c2⟩ := way_cross (h1 x hx) (fun v => v ∈ rcN l wo f 8) hc.1 hn
    have hs := way_step (h1 x hx) hk
    refine ⟨x.getD k 0, by rw [getD_get hk]; exact List.getElem_mem hk, ?_⟩
    cases hb : hasB wo (x.getD k 0) with
    | true => rfl
    | false =>
      have := hc.2 (x.getD k 0).toNat (by omega) (by simp only [enB, Bool.not_eq_true']; rw [show (((x.getD k 0).toNat : Nat) : Int) = x.getD k 0 by omega]; exact hb) c1
      exact absurd this c2
  rw [waR_len] at hm
  have h3 := nod_sub_len (S := (waR l f t (waV l f t)).flatten.filter fun k => hasB wo k) (T := wo) (h2.filter _) fun x hx => hasB_iff.1 (List.mem_filter.1 hx).2
  omega
theorem waV_le (ha : linkAsk l f t = true) : waV l f t ≤ 20 := by
  have h1 := (cut_end ha).len
  have := fcL_le l f t
  omega
/-- A way leads to where it is told. -/
theorem way_reach {w : List Int} (h : isWay l f t w = true) : t ∈ rcM l [] f := by
  obtain ⟨hg, hf, _⟩ := linkAsk_spec (way_parts h).1
  refine Classical.byContradiction fun hn => ?_
  rw [rcM, sortI_mem] at hn
  have hc := rc_closed (wo := []) hg hf
  obtain ⟨k, hk, c1, c2⟩ := way_cross h (fun v => v ∈ rcN l [] f 8) hc.1 hn
  exact c2 (hc.2 _ (by have := (way_step h hk).1; omega) rfl c1)
/-- One left out. -/
theorem erase_next {c : List Int} {i k : Nat} (hk : k < c.length) (h : k ≠ i) : (c.take (k + 1)).eraseIdx i = (c.take k).eraseIdx i ++ [c.getD k 0] := by
  rw [List.take_succ_eq_append_getElem hk, getD_get hk]
  rcases Nat.lt_or_ge i k with c1 | c1
  · rw [List.eraseIdx_append_of_lt_length (by simp; omega)]
  · rw [List.eraseIdx_of_length_le (by simp; omega), List.eraseIdx_of_length_le (by simp; omega)]
theorem erase_skip {c : List Int} {k : Nat} (hk : k < c.length) : (c.take (k + 1)).eraseIdx k = (c.take k).eraseIdx k := by
  rw [List.take_succ_eq_append_getElem hk, List.eraseIdx_append_of_length_le (by simp; omega), List.eraseIdx_of_length_le (l := c.take k) (by rw [List.length_take]; omega)]
  simp [List.length_take, Nat.min_eq_left (Nat.le_of_lt hk)]
end
end YtafalojjbghlhaaAM
