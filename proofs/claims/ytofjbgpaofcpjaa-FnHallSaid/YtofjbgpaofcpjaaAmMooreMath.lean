/- The fewest late jobs (Moore and Hodgson), in plain Lean. -/
import Derived.Test.YtofjbgpaofcpjaaAmJobMath
set_option linter.unusedVariables false
set_option linter.unusedSimpArgs false
namespace YtofjbgpaofcpjaaAM

section
variable (L D : Int → Int)
/-- Each job of the list is in time, one behind the other. -/
def InTime (F : List Int) : Prop := ∀ a k b, F = a ++ k :: b → sumL L a + L k ≤ D k
/-- The last one of those that are the longest. -/
def longN (T : List Int) (j : Nat) : Nat := foldN (fun i j => if L (T.getD i 0) ≤ L (T.getD j 0) then j else i) 0 j
def longI (T : List Int) : Nat := longN L T T.length
/-- One job more: where it is late the longest goes. -/
def mooS (T : List Int) (x : Int) : List Int := if sumL L T + L x ≤ D x then T ++ [x] else (T ++ [x]).eraseIdx (longI L (T ++ [x]))
def mooN (E : List Int) (k : Nat) : List Int := foldN (fun T i => mooS L D T (E.getD i 0)) [] k
variable {L D}
theorem longN_zero (T : List Int) : longN L T 0 = 0 := rfl
theorem longN_succ (T : List Int) (j : Nat) : longN L T (j + 1) = if L (T.getD (longN L T j) 0) ≤ L (T.getD j 0) then j else longN L T j := rfl
theorem longN_lt (T : List Int) : ∀ j, 0 < j → longN L T j < j
  | 0, h => by omega
  | j + 1, _ => by
    rw [longN_succ]
    split
    · omega
    · rcases Nat.eq_zero_or_pos j with rfl | h
      · rw [longN_zero]; omega
      · have := longN_lt T j h; omega
theorem longN_max (T : List Int) : ∀ j i, i < j → L (T.getD i 0) ≤ L (T.getD (longN L T j) 0)
  | 0, i, h => by omega
  | j + 1, i, h => by
    rw [longN_succ]
    split
    · rename_i h2
      rcases Nat.lt_or_ge i j with c | c
      · have := longN_max T j i c; omega
      · obtain rfl : i = j := by omega
        exact Int.le_refl _
    · rename_i h2
      rcases Nat.lt_or_ge i j with c | c
      · exact longN_max T j i c
      · obtain rfl : i = j := by omega
        omega
theorem mooN_zero (E : List Int) : mooN L D E 0 = [] := rfl
theorem mooN_succ (E : List Int) (k : Nat) : mooN L D E (k + 1) = mooS L D (mooN L D E k) (E.getD k 0) := rfl
/-- A list without its place i. -/
theorem erase_split {T : List Int} {i : Nat} (h : i < T.length) : T = T.take i ++ T.getD i 0 :: T.drop (i + 1) ∧ T.eraseIdx i = T.take i ++ T.drop (i + 1) := by
  refine ⟨?_, List.eraseIdx_eq_take_drop_succ _ _⟩
  rw [getD_get h, ← List.drop_eq_getElem_cons h, List.take_append_drop]
theorem nod_sub_len : ∀ {S T : List Int}, S.Nodup → (∀ x ∈ S, x ∈ T) → S.length ≤ T.length
  | [], T, _, _ => by simp
  | x :: S, T, hn, hs => by
    have hx : x ∈ T := hs x (by simp)
    have hn' := List.nodup_cons.1 hn
    have := nod_sub_len (S := S) (T := T.erase x) hn'.2 fun y hy => (List.mem_erase_of_ne (fun e : y = x => hn'.1 (by rw [← e]; exact hy))).2 (hs y (by simp [hy]))
    have h2 := List.length_erase_of_mem hx
    have h3 := List.length_pos_of_mem hx
    rw [List.length_cons]; omega
theorem more_than {S U : List Int} (hU : U.Nodup) (h : S.length < U.length) : ∃ z ∈ U, z ∉ S := by
  by_cases hc : ∃ z ∈ U, z ∉ S
  · exact hc
  · have : ∀ x ∈ U, x ∈ S := fun x hx => by
      by_cases h2 : x ∈ S
      · exact h2
      · exact absurd ⟨x, hx, h2⟩ hc
    have := nod_sub_len hU this
    omega
theorem InTime.sub {F G : List Int} (h : InTime L D G) (hs : F.Sublist G) (hL : ∀ k ∈ G, 0 ≤ L k) : InTime L D F := by
  intro a k b e
  subst e
  -- the same job in the greater list has no less ahead of it
  have key : ∀ (G : List Int) (a : List Int) (k : Int) (b : List Int), (a ++ k :: b).Sublist G → (∀ k ∈ G, 0 ≤ L k) → ∃ a' b', G = a' ++ k :: b' ∧ sumL L a ≤ sumL L a' := by
    intro G
    induction G with
    | nil => intro a k b hs _; have := hs.length_le; simp at this
    | cons y G ih =>
      intro a k b hs hL
      have hy := hL y (by simp)
      cases a with
      | nil =>
        rw [List.nil_append] at hs
        cases hs with
        | cons _ h2 =>
          obtain ⟨a', b', e, h3⟩ := ih [] k b h2 fun k hk => hL k (by simp [hk])
          exact ⟨y :: a', b', by rw [e]; rfl, by rw [sumL_cons]; omega⟩
        | cons_cons _ h2 => exact ⟨[], G, rfl, Int.le_refl _⟩
      | cons z a =>
        rw [List.cons_append] at hs
        cases hs with
        | cons _ h2 =>
          obtain ⟨a', b', e, h3⟩ := ih (z :: a) k b h2 fun k hk => hL k (by simp [hk])
          exact ⟨y :: a', b', by rw [e]; rfl, by rw [sumL_cons (L := L) y]; omega⟩
        | cons_cons _ h2 =>
          obtain ⟨a', b', e, h3⟩ := ih a k b h2 fun k hk => hL k (by simp [hk])
          exact ⟨y :: a', b', by rw [e]; rfl, by rw [sumL_cons, sumL_cons]; omega⟩
  obtain ⟨a', b', e, h2⟩ := key G a k b hs hL
  have := h a' k b' e
  omega
/-- What is known after some jobs in their order. -/
structure Moo (L D : Int → Int) (E : List Int) (T : List Int) : Prop where
  inT : InTime L D T
  sub : T.Sublist E
  best : ∀ F, F.Sublist E → InTime L D F → ∃ S : List Int, S.Nodup ∧ (∀ x ∈ S, x ∈ T) ∧ S.length = F.length ∧ sumL L S ≤ sumL L F
theorem InTime.snoc {T : List Int} {x : Int} (h : InTime L D T) (hx : sumL L T + L x ≤ D x) : InTime L D (T ++ [x]) := by
  intro a k b e
  rcases List.append_eq_append_iff.1 e with ⟨c, h1, h2⟩ | ⟨c, h1, h2⟩
  · cases c with
    | nil =>
      simp at h1 h2
      subst h1
      obtain ⟨rfl, _⟩ := h2
      exact hx
    | cons y c =>
      exfalso
      have := congrArg List.length h2
      simp at this
  · cases c with
    | nil =>
      simp at h1 h2
      subst h1
      obtain ⟨rfl, _⟩ := h2
      exact hx
    | cons y c =>
      rw [List.cons_append] at h2
      injection h2 with h3 h4
      subst h3
      exact h a k c h1
theorem InTime.last {T : List Int} {x : Int} (h : InTime L D (T ++ [x])) : sumL L T + L x ≤ D x := h T x [] rfl
/-- The last one of a list in time. -/
theorem InTime.total {T : List Int} (h : InTime L D T) (hne : T ≠ []) {d : Int} (hd : ∀ y ∈ T, D y ≤ d) : sumL L T ≤ d := by
  rcases List.eq_nil_or_concat T with rfl | ⟨a, y, rfl⟩
  · exact absurd rfl hne
  · rw [List.concat_eq_append] at *
    have := h.last
    have := hd y (by simp)
    rw [sumL_append, sumL_cons, sumL_nil]; omega
/-- A sublist of a list and one more. -/
theorem sub_snoc_cases {F E : List Int} {x : Int} (h : F.Sublist (E ++ [x])) : F.Sublist E ∨ ∃ G, F = G ++ [x] ∧ G.Sublist E := by
  obtain ⟨a, b, e, h1, h2⟩ := List.sublist_append_iff.1 h
  cases b with
  | nil => rw [List.append_nil] at e; subst e; exact .inl h1
  | cons y b =>
    cases h2 with
    | cons _ h3 => cases h3
    | cons_cons _ h3 =>
      cases h3
      exact .inr ⟨a, e, h1⟩
theorem Moo.step {E T : List Int} {x : Int} (h : Moo L D E T) (hn : (E ++ [x]).Nodup) (hL : ∀ y ∈ E ++ [x], 0 ≤ L y) (hD : ∀ y ∈ E, D y ≤ D x) : Moo L D (E ++ [x]) (mooS L D T x) := by
  have hTE : ∀ y ∈ T, y ∈ E := fun y hy => h.sub.subset hy
  have hxE : x ∉ E := fun hx => by
    have := (List.nodup_append.1 hn).2.2 x hx x (by simp)
    exact this rfl
  have hEn := (List.nodup_append.1 hn).1
  have hTn : T.Nodup := hEn.sublist h.sub
  have hUn : (T ++ [x]).Nodup := nodup_snoc hTn fun hx => hxE (hTE x hx)
  have hUsub : (T ++ [x]).Sublist (E ++ [x]) := h.sub.append (List.Sublist.refl _)
  -- what would be chosen of T and x together
  have big : ∀ F, F.Sublist (E ++ [x]) → InTime L D F → ∃ S : List Int, S.Nodup ∧ (∀ y ∈ S, y ∈ T ++ [x]) ∧ S.length = F.length ∧ sumL L S ≤ sumL L F ∧ (x ∉ F → S.length ≤ T.length) ∧ (x ∈ F → sumL L F ≤ D x) := fun F hF hFt => by
    rcases sub_snoc_cases hF with h1 | ⟨G, rfl, h1⟩
    · obtain ⟨S, s1, s2, s3, s4⟩ := h.best F h1 hFt
      exact ⟨S, s1, fun y hy => List.mem_append.2 (.inl (s2 y hy)), s3, s4, fun _ => nod_sub_len s1 s2, fun hx => absurd (h1.subset hx) hxE⟩
    · have hGt := hFt.sub (List.sublist_append_left G [x]) (fun k hk => hL k (hF.subset hk))
      obtain ⟨S, s1, s2, s3, s4⟩ := h.best G h1 hGt
      refine ⟨S ++ [x], nodup_snoc s1 fun hx => hxE (hTE x (s2 x hx)), fun y hy => ?_, by simp [s3], by rw [sumL_append, sumL_append]; omega, fun hx => absurd (by simp) hx, fun _ => ?_⟩
      · rcases List.mem_append.1 hy with h2 | h2
        · exact List.mem_append.2 (.inl (s2 y h2))
        · exact List.mem_append.2 (.inr h2)
      · have := hFt.last
        rw [sumL_append, sumL_cons, sumL_nil]; omega
  unfold mooS
  split
  · rename_i hc
    exact ⟨h.inT.snoc hc, hUsub, fun F hF hFt => by
      obtain ⟨S, s1, s2, s3, s4, _⟩ := big F hF hFt
      exact ⟨S, s1, s2, s3, s4⟩⟩
  · rename_i hc
    have hlen : 0 < (T ++ [x]).length := by simp
    have hi := longN_lt (L := L) (T ++ [x]) (T ++ [x]).length hlen
    have hmax := longN_max (L := L) (T ++ [x]) (T ++ [x]).length
    have hiE : longI L (T ++ [x]) < (T ++ [x]).length := hi
    obtain ⟨e1, e2⟩ := erase_split hiE
    have hy : (T ++ [x]).getD (longI L (T ++ [x])) 0 ∈ T ++ [x] := by rw [getD_get hiE]; exact List.getElem_mem _
    have hmx : ∀ z ∈ T ++ [x], L z ≤ L ((T ++ [x]).getD (longI L (T ++ [x])) 0) := fun z hz => by
      obtain ⟨j, hj, rfl⟩ := List.getElem_of_mem hz
      have := hmax j hj
      rwa [getD_get hj] at this
    -- who is left
    have hsubU : ((T ++ [x]).eraseIdx (longI L (T ++ [x]))).Sublist (T ++ [x]) := List.eraseIdx_sublist _ _
    have hleft : ∀ z ∈ T ++ [x], z ≠ (T ++ [x]).getD (longI L (T ++ [x])) 0 → z ∈ (T ++ [x]).eraseIdx (longI L (T ++ [x])) := fun z hz hne => by
      rw [e2]
      rw [e1] at hz
      rcases List.mem_append.1 hz with h1 | h1
      · exact List.mem_append.2 (.inl h1)
      · rcases List.mem_cons.1 h1 with h2 | h2
        · exact absurd h2 hne
        · exact List.mem_append.2 (.inr h2)
    refine ⟨?_, hsubU.trans hUsub, fun F hF hFt => ?_⟩
    · -- in time
      rcases Nat.lt_or_ge (longI L (T ++ [x])) T.length with c | c
      · have hne : T ≠ [] := by intro e; rw [e] at c; simp at c
        have f1 : (T ++ [x]).eraseIdx (longI L (T ++ [x])) = T.eraseIdx (longI L (T ++ [x])) ++ [x] := List.eraseIdx_append_of_lt_length c _
        rw [f1]
        refine (h.inT.sub (List.eraseIdx_sublist _ _) fun k hk => hL k (List.mem_append.2 (.inl (hTE k hk)))).snoc ?_
        have f2 : (T ++ [x]).getD (longI L (T ++ [x])) 0 = T.getD (longI L (T ++ [x])) 0 := by
          simp only [List.getD_eq_getElem?_getD]; rw [List.getElem?_append_left c]
        obtain ⟨g1, g2⟩ := erase_split c
        have f3 : sumL L T = sumL L (T.eraseIdx (longI L (T ++ [x]))) + L (T.getD (longI L (T ++ [x])) 0) := by
          conv => lhs; rw [g1]
          rw [g2, sumL_append, sumL_append, sumL_cons]; omega
        have f4 := hmx x (by simp)
        rw [f2] at f4
        have f5 := h.inT.total hne (d := D x) fun y hy => hD y (hTE y hy)
        omega
      · have c2 : longI L (T ++ [x]) = T.length := by simp at hiE; omega
        have f1 : (T ++ [x]).eraseIdx (longI L (T ++ [x])) = T := by
          rw [c2, List.eraseIdx_append_of_length_le (Nat.le_refl _), Nat.sub_self]; simp
        rw [f1]; exact h.inT
    · obtain ⟨S, s1, s2, s3, s4, s5, s6⟩ := big F hF hFt
      by_cases hyS : (T ++ [x]).getD (longI L (T ++ [x])) 0 ∈ S
      · -- another one in its place
        have hlt : S.length < (T ++ [x]).length := by
          rcases Nat.lt_or_ge S.length (T ++ [x]).length with hlt | hge
          · exact hlt
          · exfalso
            have hUS : ∀ z ∈ T ++ [x], z ∈ S := fun z hz => by
              by_cases h2 : z ∈ S
              · exact h2
              · exfalso
                have := nod_sub_len (S := S ++ [z]) (nodup_snoc s1 h2) (T := T ++ [x]) fun y hy => by
                  rcases List.mem_append.1 hy with h3 | h3
                  · exact s2 y h3
                  · simp at h3; rw [h3]; exact hz
                simp at this hge; omega
            have hsum := sumL_sub (L := L) _ S hUn hUS fun k hk => hL k (hUsub.subset (s2 k hk))
            rw [sumL_append, sumL_cons, sumL_nil] at hsum
            by_cases hxF : x ∈ F
            · have := s6 hxF; omega
            · have := s5 hxF; simp at hge; omega
        obtain ⟨z, hz, hzS⟩ := more_than hUn hlt
        refine ⟨S.erase ((T ++ [x]).getD (longI L (T ++ [x])) 0) ++ [z], nodup_snoc (s1.erase _) fun hm => hzS (List.mem_of_mem_erase hm), fun y hy => ?_, ?_, ?_⟩
        · rcases List.mem_append.1 hy with h3 | h3
          · refine hleft y (s2 y (List.mem_of_mem_erase h3)) fun e => ?_
            rw [e] at h3
            exact (List.Nodup.not_mem_erase s1) h3
          · simp at h3
            rw [h3]
            exact hleft z hz fun e => hzS (by rw [e]; exact hyS)
        · have g1 := List.length_erase_of_mem hyS
          have g2 := List.length_pos_of_mem hyS
          rw [List.length_append, g1, List.length_singleton, ← s3]; omega
        · have g1 := sumL_erase (L := L) hyS
          have g2 := hmx z hz
          rw [sumL_append, sumL_cons, sumL_nil]
          omega
      · exact ⟨S, s1, fun y hy => hleft y (s2 y hy) fun e => hyS (by rw [← e]; exact hy), s3, s4⟩
theorem mooN_moo {E : List Int} (hn : E.Nodup) (hL : ∀ y ∈ E, 0 ≤ L y) (hs : E.Pairwise (fun a b => D a ≤ D b)) : ∀ k, k ≤ E.length → Moo L D (E.take k) (mooN L D E k)
  | 0, _ => by
    rw [List.take_zero, mooN_zero]
    refine ⟨fun a k b e => by simp at e, List.Sublist.refl _, fun F hF _ => ?_⟩
    obtain rfl := List.sublist_nil.1 hF
    exact ⟨[], List.nodup_nil, (fun x hx => nomatch hx), rfl, Int.le_refl _⟩
  | k + 1, hk => by
    have ih := mooN_moo hn hL hs k (by omega)
    have e : E.take (k + 1) = E.take k ++ [E.getD k 0] := by
      rw [List.take_add_one, List.getElem?_eq_getElem (by omega), getD_get (by omega)]; rfl
    rw [mooN_succ, e]
    refine ih.step (by rw [← e]; exact hn.sublist (List.take_sublist _ _)) (fun y hy => hL y (by rw [← e] at hy; exact List.mem_of_mem_take hy)) fun y hy => ?_
    obtain ⟨j, hj, rfl⟩ := List.getElem_of_mem hy
    rw [List.length_take] at hj
    rw [List.getElem_take, getD_get (by omega)]
    exact (List.pairwise_iff_getElem.1 hs) j k (by omega) (by omega) (by omega)
/-- Whoever is in time, one behind the other in the order by due times, is no more than these. -/
theorem moore_best {E : List Int} (hn : E.Nodup) (hL : ∀ y ∈ E, 0 ≤ L y) (hs : E.Pairwise (fun a b => D a ≤ D b)) : InTime L D (mooN L D E E.length) ∧ (mooN L D E E.length).Sublist E ∧ ∀ F, F.Sublist E → InTime L D F → F.length ≤ (mooN L D E E.length).length := by
  have h := mooN_moo hn hL hs E.length (Nat.le_refl _)
  rw [List.take_of_length_le (Nat.le_refl _)] at h
  refine ⟨h.inT, h.sub, fun F hF hFt => ?_⟩
  obtain ⟨S, s1, s2, s3, _⟩ := h.best F hF hFt
  rw [← s3]
  exact nod_sub_len s1 s2
/-- The jobs of an order that are in time, and how many are not. -/
def onT (L D : Int → Int) : List Int → Int → List Int
  | [], _ => []
  | k :: o, t => if t + L k ≤ D k then k :: onT L D o (t + L k) else onT L D o (t + L k)
def lateN (L D : Int → Int) : List Int → Int → Nat
  | [], _ => 0
  | k :: o, t => (if t + L k ≤ D k then 0 else 1) + lateN L D o (t + L k)
theorem late_on (o : List Int) : ∀ t, lateN L D o t + (onT L D o t).length = o.length := by
  induction o with
  | nil => intro t; rfl
  | cons k o ih =>
    intro t
    have := ih (t + L k)
    simp only [lateN, onT]
    split <;> simp only [List.length_cons] <;> omega
theorem onT_sub (o : List Int) : ∀ t, (onT L D o t).Sublist o := by
  induction o with
  | nil => intro t; exact List.Sublist.refl _
  | cons k o ih =>
    intro t
    simp only [onT]
    split
    · exact (ih _).cons_cons _
    · exact (ih _).cons _
theorem onT_at {o : List Int} (hn : o.Nodup) : ∀ t a k b, o = a ++ k :: b → (k ∈ onT L D o t ↔ t + sumL L a + L k ≤ D k) := by
  induction o with
  | nil => intro t a k b e; simp at e
  | cons y o ih =>
    intro t a k b e
    have hn' := List.nodup_cons.1 hn
    cases a with
    | nil =>
      rw [List.nil_append] at e
      injection e with e1 e2
      subst e1 e2
      rw [sumL_nil, Int.add_zero]
      simp only [onT]
      have hno : ∀ t', y ∉ onT L D o t' := fun t' hm => hn'.1 ((onT_sub o t').subset hm)
      split
      · rename_i h; exact ⟨fun _ => h, fun _ => by simp⟩
      · rename_i h; exact ⟨fun hm => absurd hm (hno _), fun h2 => absurd h2 h⟩
    | cons z a =>
      rw [List.cons_append] at e
      injection e with e1 e2
      subst e1
      have hk : k ≠ y := fun e3 => hn'.1 (by rw [e2, ← e3]; simp)
      have := ih hn'.2 (t + L y) a k b e2
      rw [sumL_cons, show t + (L y + sumL L a) + L k = t + L y + sumL L a + L k by omega, ← this]
      simp only [onT]
      split
      · rw [List.mem_cons]; exact ⟨fun h => h.resolve_left hk, .inr⟩
      · exact Iff.rfl
/-- No order has more in time. -/
theorem moore {E o : List Int} (hE : E.Nodup) (hs : E.Pairwise (fun a b => D a ≤ D b)) (ho : o.Nodup) (hm : ∀ x, x ∈ o ↔ x ∈ E) (hL : ∀ k ∈ E, 0 ≤ L k) : (onT L D o 0).length ≤ (mooN L D E E.length).length := by
  have hF : (E.filter fun x => decide (x ∈ onT L D o 0)).Sublist E := List.filter_sublist
  have hlen : (onT L D o 0).length ≤ (E.filter fun x => decide (x ∈ onT L D o 0)).length := by
    refine nod_sub_len (ho.sublist (onT_sub o 0)) fun x hx => ?_
    rw [List.mem_filter]
    exact ⟨(hm x).1 ((onT_sub o 0).subset hx), by simpa using hx⟩
  refine Nat.le_trans hlen ((moore_best hE hL hs).2.2 _ hF ?_)
  intro a k b e
  have hmem : ∀ x ∈ a ++ [k], x ∈ E ∧ x ∈ onT L D o 0 := fun x hx => by
    have : x ∈ E.filter fun x => decide (x ∈ onT L D o 0) := by
      rw [e]
      rcases List.mem_append.1 hx with h | h
      · exact List.mem_append.2 (.inl h)
      · exact List.mem_append.2 (.inr (by simp at h; simp [h]))
    have := List.mem_filter.1 this
    exact ⟨this.1, by simpa using this.2⟩
  obtain ⟨a', k', b', e', h1, h2⟩ := last_of (fun x => x ∈ a ++ [k]) o ⟨k, (hm k).2 (hmem k (by simp)).1, by simp⟩
  have hFn := hE.sublist hF
  have hn : (a ++ [k]).Nodup := by
    rw [e, show a ++ k :: b = (a ++ [k]) ++ b by simp] at hFn
    exact (List.nodup_append.1 hFn).1
  have hsum : sumL L (a ++ [k]) ≤ sumL L (a' ++ [k']) := by
    refine sumL_sub _ _ hn (fun x hx => ?_) fun x hx => hL x ((hm x).1 ?_)
    · have hxo := (hm x).2 (hmem x hx).1
      rw [e', show a' ++ k' :: b' = (a' ++ [k']) ++ b' by simp] at hxo
      rcases List.mem_append.1 hxo with h | h
      · exact h
      · exact absurd hx (h2 x h)
    · rw [e', show a' ++ k' :: b' = (a' ++ [k']) ++ b' by simp]
      exact List.mem_append.2 (.inl hx)
  have hin := (onT_at ho 0 a' k' b' e').1 (hmem k' h1).2
  have hFs := hs.sublist hF
  have hdue : D k' ≤ D k := by
    rw [e] at hFs
    rcases List.mem_append.1 h1 with h | h
    · exact (List.pairwise_append.1 hFs).2.2 k' h k (by simp)
    · simp at h; rw [h]; exact Int.le_refl _
  rw [sumL_append, sumL_append, sumL_cons, sumL_cons, sumL_nil] at hsum
  omega
end
end YtofjbgpaofcpjaaAM
