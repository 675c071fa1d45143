/- Kőnig, Berge and Hall: what the matches that are told come to. In plain Lean. -/
import Derived.Test.YtofjbgpaofcpjaaAmMatchModels
import Derived.Test.YtofjbgpaofcpjaaAmMooreMath
set_option linter.unusedVariables false
set_option linter.unusedSimpArgs false
namespace YtofjbgpaofcpjaaAM
/-! ### Owners -/
theorem own_at {mt : List Int} {r : Int} (h : 0 ≤ ownI mt r) : (ownI mt r).toNat < mt.length ∧ mt.getD (ownI mt r).toNat 0 = r := by
  unfold ownI idxF at *
  cases e : mt.findIdx? (fun x => decide (x = r)) with
  | none => rw [e] at h; simp at h
  | some k =>
    obtain ⟨hk, hp, _⟩ := List.findIdx?_eq_some_iff_getElem.1 e
    simp only [Int.toNat_natCast]
    exact ⟨hk, by rw [getD_get hk]; simpa using hp⟩
theorem own_neg {mt : List Int} {r : Int} (h : ¬ 0 ≤ ownI mt r) : ∀ k, k < mt.length → mt.getD k 0 ≠ r := fun k hk e => by
  refine h ?_
  unfold ownI idxF
  cases e2 : mt.findIdx? (fun x => decide (x = r)) with
  | none =>
    rw [List.findIdx?_eq_none_iff] at e2
    have := e2 mt[k] (List.getElem_mem hk)
    rw [getD_get hk] at e
    simp [e] at this
  | some k => simp only []; omega
theorem mem_at {w : List Int} {x : Int} (h : x ∈ w) : ∃ q, q < w.length ∧ w.getD q 0 = x := by
  obtain ⟨q, hq, e⟩ := List.getElem_of_mem h
  exact ⟨q, hq, by rw [getD_get hq]; exact e⟩
theorem at_mem {w : List Int} {q : Nat} (h : q < w.length) : w.getD q 0 ∈ w := by rw [getD_get h]; exact List.getElem_mem h
/-! ### Matches -/
structure Mt (ll : List (List Int)) (mt : List Int) : Prop where
  has : ∀ j, j < mt.length → mt.getD j 0 ≠ -1 → mt.getD j 0 ∈ ll.getD j []
  inj : ∀ i j, i < mt.length → j < mt.length → mt.getD i 0 ≠ -1 → mt.getD i 0 = mt.getD j 0 → i = j
theorem set_at {l : List Int} {i j : Nat} {x : Int} (h : i < l.length) : (l.set i x).getD j 0 = if i = j then x else l.getD j 0 := by
  rw [List.getD_eq_getElem?_getD, List.getElem?_set, List.getD_eq_getElem?_getD]
  by_cases e : i = j
  · subst e; simp [h]
  · simp [e]
theorem Mt.set {ll : List (List Int)} {mt : List Int} (hm : Mt ll mt) {i : Nat} {w : Int} (hi : i < mt.length) (hw : w ∈ ll.getD i []) (hn : ∀ j, j < mt.length → mt.getD j 0 ≠ w) : Mt ll (mt.set i w) where
  has j hj h := by
    rw [List.length_set] at hj
    rw [set_at hi] at h ⊢
    split
    · rename_i e; subst e; exact hw
    · rename_i e; rw [if_neg e] at h; exact hm.has j hj h
  inj a b ha hb h e := by
    rw [List.length_set] at ha hb
    rw [set_at hi] at h e
    rw [set_at hi] at e
    by_cases e1 : i = a
    · by_cases e2 : i = b
      · omega
      · rw [if_pos e1, if_neg e2] at e; exact absurd e.symm (hn b hb)
    · by_cases e2 : i = b
      · rw [if_neg e1, if_pos e2] at e; exact absurd e (hn a ha)
      · rw [if_neg e1] at h; rw [if_neg e1, if_neg e2] at e; exact hm.inj a b ha hb h e
structure AskYes (ll : List (List Int)) (i : Nat) (mt aa mt' : List Int) : Prop where
  ok : Mt ll mt'
  new : mt'.getD i 0 ∉ aa ∧ mt'.getD i 0 ≠ -1
  old : ∀ j, j < mt.length → j ≠ i → mt'.getD j 0 = mt.getD j 0 ∨ (mt'.getD j 0 ∉ aa ∧ mt'.getD j 0 ≠ -1)
  keep : ∀ j, j < mt.length → j ≠ i → (mt.getD j 0 = -1 ∨ mt.getD j 0 ∈ aa) → mt'.getD j 0 = mt.getD j 0
theorem AskYes.of {ll : List (List Int)} {i : Nat} {mt aa mt' : List Int} {w : Int} {k : Nat} {ab : List Int} (hm : Mt ll mt) (hi : i < mt.length) (hc : mt.getD i 0 = -1 ∨ mt.getD i 0 ∈ aa) (hab : ∀ x ∈ aa, x ∈ ab) (hw : w ∈ ll.getD i []) (hw0 : 0 ≤ w) (hwa : w ∉ ab)
    (hk : k < mt.length) (hkw : mt.getD k 0 = w) (hl : mt'.length = mt.length) (h : AskYes ll k mt (w :: ab) mt') : AskYes ll i mt aa (mt'.set i w) := by
  have hik : i ≠ k := fun e => by
    subst e
    rcases hc with hc | hc
    · omega
    · rw [hkw] at hc; exact hwa (hab w hc)
  have hn : ∀ j, j < mt'.length → mt'.getD j 0 ≠ w := fun j hj e => by
    by_cases c : j = k
    · subst c; exact h.new.1 (by rw [e]; simp)
    · rcases h.old j (by omega) c with h1 | h1
      · exact c (hm.inj j k (by omega) hk (by omega) (by omega))
      · exact h1.1 (by rw [e]; simp)
  have hi' : i < mt'.length := by omega
  refine ⟨h.ok.set hi' hw hn, ?_, fun j hj hji => ?_, fun j hj hji hcj => ?_⟩
  · rw [set_at hi', if_pos rfl]; exact ⟨fun hm => hwa (hab w hm), by omega⟩
  · rw [set_at hi', if_neg (Ne.symm hji)]
    by_cases c : j = k
    · subst c; exact .inr ⟨fun hm => h.new.1 (List.mem_cons_of_mem _ (hab _ hm)), h.new.2⟩
    · rcases h.old j hj c with h1 | h1
      · exact .inl h1
      · exact .inr ⟨fun hm => h1.1 (List.mem_cons_of_mem _ (hab _ hm)), h1.2⟩
  · rw [set_at hi', if_neg (Ne.symm hji)]
    have hjk : j ≠ k := fun e => by
      subst e
      rcases hcj with hcj | hcj
      · omega
      · rw [hkw] at hcj; exact hwa (hab w hcj)
    exact h.keep j hj hjk (hcj.imp id fun hx => List.mem_cons_of_mem _ (hab _ hx))
theorem askR_yes {m : Int} {ll : List (List Int)} (hw : Wish m ll) : ∀ (f i : Nat) (mt aa : List Int), AsOk m aa → Mt ll mt → i < mt.length → (mt.getD i 0 = -1 ∨ mt.getD i 0 ∈ aa) → (askR ll f i mt aa).1 = true → AskYes ll i mt aa (askR ll f i mt aa).2.1
  | 0, i, mt, aa, _, _, _, _, h => by cases h
  | f + 1, i, mt, aa, ha, hm, hi, hc, h => by
    have key : ∀ k, k ≤ (ll.getD i []).length → (askN ll f i mt aa k).1 = true → AskYes ll i mt aa (askN ll f i mt aa k).2.1 := by
      intro k
      induction k with
      | zero => intro _ h; cases h
      | succ k ih =>
        intro hk ht
        have s := askN_inv hw f i mt aa ha k (by omega)
        have hr := hw i k (by omega)
        have hmem : (ll.getD i []).getD k 0 ∈ ll.getD i [] := at_mem (by omega)
        cases h1 : (askN ll f i mt aa k).1 with
        | true =>
          have e : askN ll f i mt aa (k + 1) = askN ll f i mt aa k := by rw [askN_succ, stepW, if_pos h1]
          rw [e]; exact ih (by omega) h1
        | false =>
          have hs := s.same h1
          cases h2 : hasB (askN ll f i mt aa k).2.2 ((ll.getD i []).getD k 0) with
          | true => rw [askN_skip h1 h2] at ht; rw [h1] at ht; cases ht
          | false =>
            have hna := hasB_false.1 h2
            have ok2 := s.ok.cons hr hna
            by_cases h3 : ownI (askN ll f i mt aa k).2.1 ((ll.getD i []).getD k 0) < 0
            · rw [askN_free h1 h2 h3]
              rw [hs] at h3 ⊢
              have hn := own_neg (mt := mt) (r := (ll.getD i []).getD k 0) (by omega)
              refine ⟨hm.set hi hmem hn, ?_, fun j hj hji => ?_, fun j hj hji _ => ?_⟩
              · rw [set_at hi, if_pos rfl]; exact ⟨fun hx => hna (s.sub _ hx), by omega⟩
              · rw [set_at hi, if_neg (Ne.symm hji)]; exact .inl rfl
              · rw [set_at hi, if_neg (Ne.symm hji)]
            · cases h4 : (recT ll f i mt aa k).1 with
              | false => rw [askN_no h1 h2 h3 h4, h4] at ht; cases ht
              | true =>
                rw [askN_yes h1 h2 h3 h4]
                have hr4 : (askR ll f (ownI mt ((ll.getD i []).getD k 0)).toNat mt ((ll.getD i []).getD k 0 :: (askN ll f i mt aa k).2.2)).1 = true := by
                  have := h4; unfold recT at this; rw [hs] at this; exact this
                have e5 : (recT ll f i mt aa k).2.1 = (askR ll f (ownI mt ((ll.getD i []).getD k 0)).toNat mt ((ll.getD i []).getD k 0 :: (askN ll f i mt aa k).2.2)).2.1 := by unfold recT; rw [hs]
                rw [hs] at h3
                have hown := own_at (mt := mt) (r := (ll.getD i []).getD k 0) (by omega)
                have hA := askR_yes hw f (ownI mt ((ll.getD i []).getD k 0)).toNat mt ((ll.getD i []).getD k 0 :: (askN ll f i mt aa k).2.2) ok2 hm hown.1 (.inr (by rw [hown.2]; simp)) hr4
                have hlen := (askR_inv hw f (ownI mt ((ll.getD i []).getD k 0)).toNat mt ((ll.getD i []).getD k 0 :: (askN ll f i mt aa k).2.2) ok2).len
                rw [e5]
                exact AskYes.of hm hi hc s.sub hmem hr.1 hna hown.1 hown.2 hlen hA
    have := key (ll.getD i []).length (Nat.le_refl _)
    rw [← askR_eq] at this
    exact this h
/-- What was asked in vain is shut. -/
def Shut (ll : List (List Int)) (mt aa ab : List Int) : Prop := ∀ r ∈ ab, r ∉ aa → ∃ k, k < mt.length ∧ mt.getD k 0 = r ∧ ∀ w ∈ ll.getD k [], w ∈ ab
theorem askR_no {m : Int} {ll : List (List Int)} (hw : Wish m ll) (hm8 : m ≤ 8) : ∀ (f i : Nat) (mt aa : List Int), AsOk m aa → 9 ≤ f + aa.length → (askR ll f i mt aa).1 = false → (∀ w ∈ ll.getD i [], w ∈ (askR ll f i mt aa).2.2) ∧ Shut ll mt aa (askR ll f i mt aa).2.2
  | 0, i, mt, aa, ha, h9, _ => by have := ha.len hm8; omega
  | f + 1, i, mt, aa, ha, h9, h => by
    have key : ∀ k, k ≤ (ll.getD i []).length → (askN ll f i mt aa k).1 = false → (∀ q, q < k → (ll.getD i []).getD q 0 ∈ (askN ll f i mt aa k).2.2) ∧ Shut ll mt aa (askN ll f i mt aa k).2.2 := by
      intro k
      induction k with
      | zero => intro _ _; exact ⟨fun q hq => by omega, fun r h1 h2 => absurd h1 h2⟩
      | succ k ih =>
        intro hk ht
        have s := askN_inv hw f i mt aa ha k (by omega)
        have hr := hw i k (by omega)
        cases h1 : (askN ll f i mt aa k).1 with
        | true =>
          have e : askN ll f i mt aa (k + 1) = askN ll f i mt aa k := by rw [askN_succ, stepW, if_pos h1]
          rw [e, h1] at ht; cases ht
        | false =>
          have hs := s.same h1
          obtain ⟨i1, i2⟩ := ih (by omega) h1
          cases h2 : hasB (askN ll f i mt aa k).2.2 ((ll.getD i []).getD k 0) with
          | true =>
            rw [askN_skip h1 h2]
            refine ⟨fun q hq => ?_, i2⟩
            rcases Nat.lt_or_ge q k with c | c
            · exact i1 q c
            · have : q = k := by omega
              subst this; exact hasB_iff.1 h2
          | false =>
            have hna := hasB_false.1 h2
            have ok2 := s.ok.cons hr hna
            by_cases h3 : ownI (askN ll f i mt aa k).2.1 ((ll.getD i []).getD k 0) < 0
            · rw [askN_free h1 h2 h3] at ht; cases ht
            · cases h4 : (recT ll f i mt aa k).1 with
              | true => rw [askN_yes h1 h2 h3 h4] at ht; cases ht
              | false =>
                rw [askN_no h1 h2 h3 h4]
                have e5 : recT ll f i mt aa k = askR ll f (ownI mt ((ll.getD i []).getD k 0)).toNat mt ((ll.getD i []).getD k 0 :: (askN ll f i mt aa k).2.2) := by unfold recT; rw [hs]
                rw [hs] at h3
                have hown := own_at (mt := mt) (r := (ll.getD i []).getD k 0) (by omega)
                have hgr := s.grow
                have hA := askR_no hw hm8 f (ownI mt ((ll.getD i []).getD k 0)).toNat mt ((ll.getD i []).getD k 0 :: (askN ll f i mt aa k).2.2) ok2 (by rw [List.length_cons]; omega) (by rw [← e5]; exact h4)
                have hsub := (askR_inv hw f (ownI mt ((ll.getD i []).getD k 0)).toNat mt ((ll.getD i []).getD k 0 :: (askN ll f i mt aa k).2.2) ok2).sub
                rw [e5]
                refine ⟨fun q hq => ?_, fun r h5 h6 => ?_⟩
                · rcases Nat.lt_or_ge q k with c | c
                  · exact hsub _ (List.mem_cons_of_mem _ (i1 q c))
                  · have : q = k := by omega
                    subst this; exact hsub _ (by simp)
                · by_cases c : r ∈ (ll.getD i []).getD k 0 :: (askN ll f i mt aa k).2.2
                  · rcases List.mem_cons.1 c with c | c
                    · subst c; exact ⟨_, hown.1, hown.2, hA.1⟩
                    · obtain ⟨k', a1, a2, a3⟩ := i2 r c h6
                      exact ⟨k', a1, a2, fun w hw' => hsub _ (List.mem_cons_of_mem _ (a3 w hw'))⟩
                  · exact hA.2 r h5 c
    have := key (ll.getD i []).length (Nat.le_refl _)
    rw [← askR_eq] at this
    obtain ⟨h1, h2⟩ := this h
    exact ⟨fun w hw' => by obtain ⟨q, hq, e⟩ := mem_at hw'; rw [← e]; exact h1 q hq, h2⟩
/-! ### One pair more -/
theorem frees_eq : ∀ (a b : List Int), a.length = b.length → ∀ i, i < a.length → a.getD i 0 = -1 → b.getD i 0 ≠ -1 → (∀ j, j ≠ i → (a.getD j 0 = -1 ↔ b.getD j 0 = -1)) → frees b + 1 = frees a
  | [], _, _, i, hi, _, _, _ => by simp at hi
  | _ :: _, [], h, _, _, _, _, _ => by simp at h
  | x :: a, y :: b, h, i, hi, h1, h2, h3 => by
    have hl : a.length = b.length := by simpa using h
    unfold frees
    simp only [List.countP_cons, decide_eq_true_eq]
    cases i with
    | zero =>
      simp only [List.getD_cons_zero] at h1 h2
      rw [if_pos h1, if_neg h2]
      have e : ∀ (p q : List Int), p.length = q.length → (∀ j, p.getD j 0 = -1 ↔ q.getD j 0 = -1) → p.countP (fun x => decide (x = -1)) = q.countP (fun x => decide (x = -1)) := by
        intro p
        induction p with
        | nil => intro q hq _; cases q with
          | nil => rfl
          | cons _ _ => simp at hq
        | cons x p ih =>
          intro q hq hh
          cases q with
          | nil => simp at hq
          | cons y q =>
            have h0 := hh 0
            simp only [List.getD_cons_zero] at h0
            have := ih q (by simpa using hq) fun j => by simpa using hh (j + 1)
            simp only [List.countP_cons, decide_eq_true_eq]
            rw [this]
            by_cases c : x = -1
            · rw [if_pos c, if_pos (h0.1 c)]
            · rw [if_neg c, if_neg fun c2 => c (h0.2 c2)]
      have := e a b hl fun j => by have := h3 (j + 1) (by omega); simpa using this
      omega
    | succ i =>
      have ih := frees_eq a b hl i (by simpa using hi) (by simpa using h1) (by simpa using h2) fun j hj => by have := h3 (j + 1) (by omega); simpa using this
      have h0 := h3 0 (by omega)
      simp only [List.getD_cons_zero] at h0
      unfold frees at ih
      by_cases c : x = -1
      · rw [if_pos c, if_pos (h0.1 c)]; omega
      · rw [if_neg c, if_neg fun c2 => c (h0.2 c2)]; omega
structure More (ll : List (List Int)) (mt mt' : List Int) : Prop where
  len : mt'.length = mt.length
  ok : Mt ll mt'
  one : frees mt' + 1 = frees mt
  keep : ∀ j, mt.getD j 0 ≠ -1 → mt'.getD j 0 ≠ -1
theorem imp_more {m : Int} {ll : List (List Int)} (hw : Wish m ll) {mt : List Int} (hm : Mt ll mt) (h : impB ll mt = true) : More ll mt (impO ll mt) := by
  rcases imp_cases ll mt with ⟨h2, _, _⟩ | ⟨k, hk, _, h3, _, h2⟩
  · rw [h2] at h; cases h
  · rw [h2]
    simp only [impAt, Bool.and_eq_true, decide_eq_true_eq] at h3
    have I := askR_inv hw 9 k mt [] (.nil m)
    have Y := askR_yes hw 9 k mt [] (.nil m) hm hk (.inl h3.1) h3.2
    refine ⟨I.len, Y.ok, frees_eq mt _ I.len.symm k hk h3.1 Y.new.2 fun j hj => ⟨fun hx => ?_, fun hx => ?_⟩, I.keep⟩
    · rcases Nat.lt_or_ge j mt.length with c | c
      · show (askR ll 9 k mt []).2.1.getD j 0 = -1
        rw [Y.keep j c hj (.inl hx)]; exact hx
      · rw [List.getD_eq_getElem?_getD, List.getElem?_eq_none c] at hx; simp at hx
    · exact Classical.byContradiction fun hne => I.keep j hne hx
theorem Mt.none (ll : List (List Int)) (n : Nat) : Mt ll (List.replicate n (-1)) := by
  have e : ∀ j, j < (List.replicate n (-1 : Int)).length → (List.replicate n (-1 : Int)).getD j 0 = -1 := fun j hj => by rw [getD_get hj]; simp
  exact ⟨fun j hj h => absurd (e j hj) h, fun i j hi _ h _ => absurd (e i hi) h⟩
theorem best_mt {m : Int} {ll : List (List Int)} (hw : Wish m ll) (n : Nat) : ∀ j, Mt ll (bestN ll n j)
  | 0 => Mt.none ll n
  | j + 1 => by
    have ih := best_mt hw n j
    rw [bestN_succ']
    cases h : impB ll (bestN ll n j) with
    | true => exact (imp_more hw ih h).ok
    | false => rw [imp_stay h]; exact ih
theorem isMatch_mt {n m : Int} {ll : List (List Int)} {mt : List Int} (h : isMatch n m ll mt = true) : Mt ll mt := by
  simp only [isMatch, matchB, Bool.and_eq_true, List.all_eq_true, List.mem_range] at h
  have hk : ∀ k, k < mt.length → mt.getD k 0 ≠ -1 → mt.getD k 0 ∈ ll.getD k [] ∧ mt.getD k 0 ∉ mt.take k := fun k hk hne => by
    have := h.2 k hk
    simp only [matchAt, Bool.or_eq_true, Bool.and_eq_true, decide_eq_true_eq, Bool.not_eq_true'] at this
    rcases this with h1 | ⟨h1, h2⟩
    · exact absurd h1 hne
    · exact ⟨hasB_iff.1 h1, hasB_false.1 h2⟩
  have key : ∀ i j, i < j → j < mt.length → mt.getD j 0 ≠ -1 → mt.getD i 0 ≠ mt.getD j 0 := fun i j hij hj hne e => by
    refine (hk j hj hne).2 ?_
    rw [← e, getD_get (by omega : i < mt.length)]
    exact List.mem_iff_getElem.2 ⟨i, by simp; omega, by simp⟩
  refine ⟨fun j hj hne => (hk j hj hne).1, fun i j hi hj hne e => ?_⟩
  rcases Nat.lt_trichotomy i j with c | c | c
  · exact absurd e (key i j c hj (by rw [← e]; exact hne))
  · exact c
  · exact absurd e.symm (key j i c hi hne)
theorem mt_isMatch {n m : Int} {ll : List (List Int)} {mt : List Int} (hg : goodP n m ll = true) (hl : (mt.length : Int) = n) (h : Mt ll mt) : isMatch n m ll mt = true := by
  simp only [isMatch, matchOk, matchB, Bool.and_eq_true, List.all_eq_true, List.mem_range, decide_eq_true_eq]
  refine ⟨⟨hg, hl⟩, fun k hk => ?_⟩
  simp only [matchAt, Bool.or_eq_true, Bool.and_eq_true, decide_eq_true_eq, Bool.not_eq_true']
  by_cases c : mt.getD k 0 = -1
  · exact .inl c
  · refine .inr ⟨hasB_iff.2 (h.has k hk c), hasB_false.2 fun hx => ?_⟩
    obtain ⟨i, hi, e⟩ := List.mem_iff_getElem.1 hx
    rw [List.length_take] at hi
    rw [List.getElem_take] at e
    have := h.inj k i hk (by omega) c (by rw [getD_get (by omega : i < mt.length)]; exact e.symm)
    omega
end YtofjbgpaofcpjaaAM
