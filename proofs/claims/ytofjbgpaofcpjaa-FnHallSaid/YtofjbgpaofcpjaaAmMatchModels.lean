/- Matches made greater by alternating ways, and what is reached from those without one, in plain Lean. -/
import Derived.Test.YtofjbgpaofcpjaaAmPairModels
import Derived.Test.YtofjbgpaofcpjaaAmPutModels
import Derived.Test.YtofjbgpaofcpjaaAmSortModels
set_option linter.unusedVariables false
set_option linter.unusedSimpArgs false
namespace YtofjbgpaofcpjaaAM

/-! ### What was asked -/
abbrev ownI (mt : List Int) (r : Int) : Int := idxF (fun x => decide (x = r)) mt
def maskL (n : Nat) (aa : List Int) : List Bool := (List.range n).map fun (i : Nat) => hasB aa (i : Int)
@[simp] theorem maskL_length (n : Nat) (aa : List Int) : (maskL n aa).length = n := by simp [maskL]
theorem maskL_get {n i : Nat} (h : i < n) (aa : List Int) : (maskL n aa).getD i false = hasB aa (i : Int) := by simp [maskL, h]
theorem maskL_nil (n : Nat) : maskL n [] = List.replicate n false := by
  apply List.ext_getElem
  · simp
  · intro i h1 h2
    simp [maskL, hasB]
theorem maskL_set {n : Nat} {r : Int} (h0 : 0 ≤ r) (hr : r < n) (aa : List Int) : maskL n (r :: aa) = (maskL n aa).set r.toNat true := by
  apply List.ext_getElem
  · simp
  · intro i h1 h2
    simp only [maskL, List.getElem_map, List.getElem_range, List.getElem_set]
    by_cases e : r.toNat = i
    · rw [if_pos e]
      exact hasB_iff.2 (List.mem_cons.2 (.inl (by omega)))
    · rw [if_neg e, Bool.eq_iff_iff, hasB_iff, hasB_iff, List.mem_cons]
      exact ⟨fun h => h.resolve_left (by omega), .inr⟩

structure AsOk (m : Int) (aa : List Int) : Prop where
  nodup : aa.Nodup
  range : ∀ x ∈ aa, 0 ≤ x ∧ x < m
theorem AsOk.nil (m : Int) : AsOk m [] := ⟨List.nodup_nil, fun x hx => by cases hx⟩
theorem AsOk.cons {m r : Int} {aa : List Int} (h : AsOk m aa) (h0 : 0 ≤ r ∧ r < m) (hn : r ∉ aa) : AsOk m (r :: aa) :=
  ⟨List.nodup_cons.2 ⟨hn, h.nodup⟩, fun x hx => by rcases List.mem_cons.1 hx with rfl | hx; exact h0; exact h.range x hx⟩
theorem AsOk.len {m : Int} {aa : List Int} (h : AsOk m aa) (hm : m ≤ 8) : aa.length ≤ 8 :=
  nod_len 8 aa h.nodup fun x hx => by have := h.range x hx; omega

/-! ### Asking -/
abbrev TS := Bool × List Int × List Int
def stepW (rec : Nat → List Int → List Int → TS) (i : Nat) (w : List Int) (s : TS) (k : Nat) : TS :=
  if s.1 = true then s else
  if hasB s.2.2 (w.getD k 0) = true then s else
  if ownI s.2.1 (w.getD k 0) < 0 then (true, s.2.1.set i (w.getD k 0), w.getD k 0 :: s.2.2) else
  if (rec (ownI s.2.1 (w.getD k 0)).toNat s.2.1 (w.getD k 0 :: s.2.2)).1 = true then
    (true, (rec (ownI s.2.1 (w.getD k 0)).toNat s.2.1 (w.getD k 0 :: s.2.2)).2.1.set i (w.getD k 0), (rec (ownI s.2.1 (w.getD k 0)).toNat s.2.1 (w.getD k 0 :: s.2.2)).2.2)
  else rec (ownI s.2.1 (w.getD k 0)).toNat s.2.1 (w.getD k 0 :: s.2.2)
def askR (ll : List (List Int)) : Nat → Nat → List Int → List Int → TS
  | 0, _, mt, aa => (false, mt, aa)
  | f + 1, i, mt, aa => foldN (stepW (askR ll f) i (ll.getD i [])) (false, mt, aa) (ll.getD i []).length
/-- After k of what is wanted. -/
def askN (ll : List (List Int)) (f i : Nat) (mt aa : List Int) (k : Nat) : TS := foldN (stepW (askR ll f) i (ll.getD i [])) (false, mt, aa) k
theorem askN_zero (ll : List (List Int)) (f i : Nat) (mt aa : List Int) : askN ll f i mt aa 0 = (false, mt, aa) := rfl
theorem askN_succ (ll : List (List Int)) (f i : Nat) (mt aa : List Int) (k : Nat) : askN ll f i mt aa (k + 1) = stepW (askR ll f) i (ll.getD i []) (askN ll f i mt aa k) k := rfl
theorem askR_eq (ll : List (List Int)) (f i : Nat) (mt aa : List Int) : askR ll (f + 1) i mt aa = askN ll f i mt aa (ll.getD i []).length := rfl
theorem askN_stop {ll : List (List Int)} {f i : Nat} {mt aa : List Int} {k : Nat} (h : (askN ll f i mt aa k).1 = true) : ∀ d, askN ll f i mt aa (k + d) = askN ll f i mt aa k
  | 0 => rfl
  | d + 1 => by
    have ih := askN_stop h d
    rw [← Nat.add_assoc, askN_succ, ih, stepW, if_pos h]
theorem askN_end {ll : List (List Int)} {f i : Nat} {mt aa : List Int} {k : Nat} (hk : k ≤ (ll.getD i []).length) (h : (askN ll f i mt aa k).1 = true) : askR ll (f + 1) i mt aa = askN ll f i mt aa k := by
  rw [askR_eq]
  have := askN_stop h ((ll.getD i []).length - k)
  rwa [show k + ((ll.getD i []).length - k) = (ll.getD i []).length by omega] at this
section
variable {ll : List (List Int)} {f i : Nat} {mt aa : List Int} {k : Nat}
theorem askN_skip (h : (askN ll f i mt aa k).1 = false) (ha : hasB (askN ll f i mt aa k).2.2 ((ll.getD i []).getD k 0) = true) : askN ll f i mt aa (k + 1) = askN ll f i mt aa k := by
  rw [askN_succ, stepW, if_neg (by rw [h]; simp), if_pos ha]
theorem askN_free (h : (askN ll f i mt aa k).1 = false) (ha : hasB (askN ll f i mt aa k).2.2 ((ll.getD i []).getD k 0) = false) (ho : ownI (askN ll f i mt aa k).2.1 ((ll.getD i []).getD k 0) < 0) :
    askN ll f i mt aa (k + 1) = (true, (askN ll f i mt aa k).2.1.set i ((ll.getD i []).getD k 0), (ll.getD i []).getD k 0 :: (askN ll f i mt aa k).2.2) := by
  rw [askN_succ, stepW, if_neg (by rw [h]; simp), if_neg (by rw [ha]; simp), if_pos ho]
/-- What the owner of the next one answers. -/
def recT (ll : List (List Int)) (f i : Nat) (mt aa : List Int) (k : Nat) : TS := askR ll f (ownI (askN ll f i mt aa k).2.1 ((ll.getD i []).getD k 0)).toNat (askN ll f i mt aa k).2.1 ((ll.getD i []).getD k 0 :: (askN ll f i mt aa k).2.2)
theorem askN_yes (h : (askN ll f i mt aa k).1 = false) (ha : hasB (askN ll f i mt aa k).2.2 ((ll.getD i []).getD k 0) = false) (ho : ¬ ownI (askN ll f i mt aa k).2.1 ((ll.getD i []).getD k 0) < 0) (ht : (recT ll f i mt aa k).1 = true) :
    askN ll f i mt aa (k + 1) = (true, (recT ll f i mt aa k).2.1.set i ((ll.getD i []).getD k 0), (recT ll f i mt aa k).2.2) := by
  rw [askN_succ, stepW, if_neg (by rw [h]; simp), if_neg (by rw [ha]; simp), if_neg ho]
  exact if_pos ht
theorem askN_no (h : (askN ll f i mt aa k).1 = false) (ha : hasB (askN ll f i mt aa k).2.2 ((ll.getD i []).getD k 0) = false) (ho : ¬ ownI (askN ll f i mt aa k).2.1 ((ll.getD i []).getD k 0) < 0) (ht : (recT ll f i mt aa k).1 = false) :
    askN ll f i mt aa (k + 1) = recT ll f i mt aa k := by
  rw [askN_succ, stepW, if_neg (by rw [h]; simp), if_neg (by rw [ha]; simp), if_neg ho]
  exact if_neg (show ¬ (recT ll f i mt aa k).1 = true by rw [ht]; simp)
end
theorem idxF_lt {α : Type} (p : α → Bool) (l : List α) : -1 ≤ idxF p l ∧ idxF p l < l.length := by
  unfold idxF
  cases h : l.findIdx? p with
  | none => simp only []; omega
  | some k =>
    obtain ⟨hk, _⟩ := List.findIdx?_eq_some_iff_getElem.1 h
    simp only []; omega

theorem maskL_at {n : Nat} {r : Int} (h0 : 0 ≤ r) (hr : r < n) (aa : List Int) : (maskL n aa).getD r.toNat false = hasB aa r := by
  rw [maskL_get (by omega), show ((r.toNat : Nat) : Int) = r by omega]

structure AskInv (m : Int) (i : Nat) (mt aa : List Int) (t : TS) : Prop where
  ok : AsOk m t.2.2
  len : t.2.1.length = mt.length
  grow : aa.length ≤ t.2.2.length
  sub : ∀ x ∈ aa, x ∈ t.2.2
  same : t.1 = false → t.2.1 = mt
  keep : ∀ j, mt.getD j 0 ≠ -1 → t.2.1.getD j 0 ≠ -1
  got : t.1 = true → i < mt.length → t.2.1.getD i 0 ≠ -1
/-- Wishes within bounds. -/
def Wish (m : Int) (ll : List (List Int)) : Prop := ∀ i k, k < (ll.getD i []).length → 0 ≤ (ll.getD i []).getD k 0 ∧ (ll.getD i []).getD k 0 < m
theorem set_keep {l : List Int} {i j : Nat} {r : Int} (hr : 0 ≤ r) (h : l.getD j 0 ≠ -1) : (l.set i r).getD j 0 ≠ -1 := by
  rcases Nat.lt_or_ge i l.length with c | c
  · rw [getD_setI c]; split <;> omega
  · rw [List.set_eq_of_length_le c]; exact h
theorem set_got {l : List Int} {i : Nat} {r : Int} (hr : 0 ≤ r) (h : i < l.length) : (l.set i r).getD i 0 ≠ -1 := by
  rw [getD_set_self h]; omega
theorem askR_inv {m : Int} {ll : List (List Int)} (hw : Wish m ll) : ∀ (f i : Nat) (mt aa : List Int), AsOk m aa → AskInv m i mt aa (askR ll f i mt aa)
  | 0, i, mt, aa, h => ⟨h, rfl, Nat.le_refl _, fun _ h => h, fun _ => rfl, fun _ h => h, fun h => by cases h⟩
  | f + 1, i, mt, aa, h => by
    have key : ∀ k, k ≤ (ll.getD i []).length → AskInv m i mt aa (askN ll f i mt aa k) := by
      intro k
      induction k with
      | zero => intro _; exact ⟨h, rfl, Nat.le_refl _, fun _ h => h, fun _ => rfl, fun _ h => h, fun h => by cases h⟩
      | succ k ih =>
        intro hk
        have s := ih (by omega)
        have hr := hw i k (by omega)
        cases h1 : (askN ll f i mt aa k).1 with
        | true => rw [askN_succ, stepW, if_pos h1]; exact s
        | false =>
          cases h2 : hasB (askN ll f i mt aa k).2.2 ((ll.getD i []).getD k 0) with
          | true => rw [askN_skip h1 h2]; exact s
          | false =>
            have ok2 := s.ok.cons hr (hasB_false.1 h2)
            by_cases h3 : ownI (askN ll f i mt aa k).2.1 ((ll.getD i []).getD k 0) < 0
            · rw [askN_free h1 h2 h3]
              refine ⟨ok2, by simp [s.len], by have := s.grow; simp; omega, fun x hx => List.mem_cons_of_mem _ (s.sub x hx), (fun h => by cases h), fun j hj => set_keep hr.1 (s.keep j hj), fun _ hi => set_got hr.1 (by rw [s.len]; exact hi)⟩
            · have t := askR_inv hw f (ownI (askN ll f i mt aa k).2.1 ((ll.getD i []).getD k 0)).toNat (askN ll f i mt aa k).2.1 ((ll.getD i []).getD k 0 :: (askN ll f i mt aa k).2.2) ok2
              have hs := s.same h1
              have hg := t.grow
              have hsg := s.grow
              rw [List.length_cons] at hg
              have e : askR ll f (ownI (askN ll f i mt aa k).2.1 ((ll.getD i []).getD k 0)).toNat (askN ll f i mt aa k).2.1 ((ll.getD i []).getD k 0 :: (askN ll f i mt aa k).2.2) = recT ll f i mt aa k := rfl
              rw [e] at t hg
              cases h4 : (recT ll f i mt aa k).1 with
              | true =>
                rw [askN_yes h1 h2 h3 h4]
                refine ⟨t.ok, by rw [List.length_set, t.len, s.len], by show aa.length ≤ (recT ll f i mt aa k).2.2.length; omega, fun x hx => t.sub x (List.mem_cons_of_mem _ (s.sub x hx)), (fun h => by cases h), fun j hj => set_keep hr.1 (t.keep j (s.keep j hj)), fun _ hi => set_got hr.1 (by rw [t.len, s.len]; exact hi)⟩
              | false =>
                rw [askN_no h1 h2 h3 h4]
                refine ⟨t.ok, by rw [t.len, s.len], by omega, fun x hx => t.sub x (List.mem_cons_of_mem _ (s.sub x hx)), fun _ => by rw [t.same h4, hs], fun j hj => t.keep j (s.keep j hj), fun h => by rw [h4] at h; cases h⟩
    rw [askR_eq]
    exact key _ (Nat.le_refl _)
theorem askN_inv {m : Int} {ll : List (List Int)} (hw : Wish m ll) (f i : Nat) (mt aa : List Int) (h : AsOk m aa) (k : Nat) (hk : k ≤ (ll.getD i []).length) : AskInv m i mt aa (askN ll f i mt aa k) := by
  induction k with
  | zero => exact ⟨h, rfl, Nat.le_refl _, fun _ h => h, fun _ => rfl, fun _ h => h, fun h => by cases h⟩
  | succ k ih =>
    have s := ih (by omega)
    have hr := hw i k (by omega)
    cases h1 : (askN ll f i mt aa k).1 with
    | true => rw [askN_succ, stepW, if_pos h1]; exact s
    | false =>
      cases h2 : hasB (askN ll f i mt aa k).2.2 ((ll.getD i []).getD k 0) with
      | true => rw [askN_skip h1 h2]; exact s
      | false =>
        have ok2 := s.ok.cons hr (hasB_false.1 h2)
        by_cases h3 : ownI (askN ll f i mt aa k).2.1 ((ll.getD i []).getD k 0) < 0
        · rw [askN_free h1 h2 h3]
          exact ⟨ok2, by simp [s.len], by have := s.grow; simp; omega, fun x hx => List.mem_cons_of_mem _ (s.sub x hx), (fun h => by cases h), fun j hj => set_keep hr.1 (s.keep j hj), fun _ hi => set_got hr.1 (by rw [s.len]; exact hi)⟩
        · have t : AskInv m _ (askN ll f i mt aa k).2.1 ((ll.getD i []).getD k 0 :: (askN ll f i mt aa k).2.2) (recT ll f i mt aa k) := askR_inv hw f (ownI (askN ll f i mt aa k).2.1 ((ll.getD i []).getD k 0)).toNat (askN ll f i mt aa k).2.1 ((ll.getD i []).getD k 0 :: (askN ll f i mt aa k).2.2) ok2
          have hs := s.same h1
          have hg := t.grow
          have hsg := s.grow
          rw [List.length_cons] at hg
          cases h4 : (recT ll f i mt aa k).1 with
          | true =>
            rw [askN_yes h1 h2 h3 h4]
            exact ⟨t.ok, by rw [List.length_set, t.len, s.len], by show aa.length ≤ (recT ll f i mt aa k).2.2.length; omega, fun x hx => t.sub x (List.mem_cons_of_mem _ (s.sub x hx)), (fun h => by cases h), fun j hj => set_keep hr.1 (t.keep j (s.keep j hj)), fun _ hi => set_got hr.1 (by rw [t.len, s.len]; exact hi)⟩
          | false =>
            rw [askN_no h1 h2 h3 h4]
            exact ⟨t.ok, by rw [t.len, s.len], by omega, fun x hx => t.sub x (List.mem_cons_of_mem _ (s.sub x hx)), fun _ => by rw [t.same h4, hs], fun j hj => t.keep j (s.keep j hj), fun h => by rw [h4] at h; cases h⟩
/-- Each good pairing's wishes are within bounds. -/
theorem goodP_wish {n m : Int} {ll : List (List Int)} (h : goodP n m ll = true) : Wish m ll := fun i k hk => by
  rcases Nat.lt_or_ge i ll.length with c | c
  · have h1 := goodP_row h c
    simp only [someB, List.all_eq_true, List.mem_range] at h1
    have := h1 k hk
    simp only [someOk, Bool.and_eq_true, decide_eq_true_eq] at this
    exact ⟨this.1.1, this.1.2⟩
  · rw [List.getD_eq_getElem?_getD, List.getElem?_eq_none c] at hk; simp at hk

/-! ### One pair more -/
def tryA (ll : List (List Int)) (mt : List Int) (i : Nat) : TS := askR ll 9 i mt []
def impAt (ll : List (List Int)) (mt : List Int) (i : Nat) : Bool := decide (mt.getD i 0 = -1) && (tryA ll mt i).1
def impB (ll : List (List Int)) (mt : List Int) : Bool := (List.range mt.length).any (impAt ll mt)
def impO (ll : List (List Int)) (mt : List Int) : List Int := match (List.range mt.length).find? (impAt ll mt) with | some i => (tryA ll mt i).2.1 | none => mt
theorem imp_here {ll : List (List Int)} {mt : List Int} {k : Nat} (hk : k < mt.length) (hb : ∀ j, j < k → impAt ll mt j = false) (hp : impAt ll mt k = true) : impB ll mt = true ∧ impO ll mt = (tryA ll mt k).2.1 := by
  have e : (List.range mt.length).find? (impAt ll mt) = some k := by
    rw [List.find?_range_eq_some]
    exact ⟨hp, List.mem_range.2 hk, fun j hj => by rw [hb j hj]; rfl⟩
  refine ⟨List.any_eq_true.2 ⟨k, List.mem_range.2 hk, hp⟩, ?_⟩
  rw [impO, e]
theorem imp_none {ll : List (List Int)} {mt : List Int} (hb : ∀ j, j < mt.length → impAt ll mt j = false) : impB ll mt = false ∧ impO ll mt = mt := by
  have e : (List.range mt.length).find? (impAt ll mt) = none := by
    rw [List.find?_range_eq_none]
    exact fun j hj => by rw [hb j hj]; rfl
  refine ⟨List.any_eq_false.2 fun x hx => by rw [hb x (List.mem_range.1 hx)]; simp, ?_⟩
  rw [impO, e]
theorem imp_cases (ll : List (List Int)) (mt : List Int) : (impB ll mt = false ∧ impO ll mt = mt ∧ ∀ j, j < mt.length → impAt ll mt j = false) ∨
    ∃ k, k < mt.length ∧ (∀ j, j < k → impAt ll mt j = false) ∧ impAt ll mt k = true ∧ impB ll mt = true ∧ impO ll mt = (tryA ll mt k).2.1 := by
  cases h : (List.range mt.length).find? (impAt ll mt) with
  | none =>
    rw [List.find?_range_eq_none] at h
    have hb : ∀ j, j < mt.length → impAt ll mt j = false := fun j hj => by simpa using h j hj
    exact .inl ⟨(imp_none hb).1, (imp_none hb).2, hb⟩
  | some k =>
    rw [List.find?_range_eq_some] at h
    have hk := List.mem_range.1 h.2.1
    have hb : ∀ j, j < k → impAt ll mt j = false := fun j hj => by simpa using h.2.2 j hj
    exact .inr ⟨k, hk, hb, h.1, (imp_here hk hb h.1).1, (imp_here hk hb h.1).2⟩
theorem imp_stay {ll : List (List Int)} {mt : List Int} (h : impB ll mt = false) : impO ll mt = mt := by
  rcases imp_cases ll mt with ⟨_, h2, _⟩ | ⟨k, _, _, _, h2, _⟩
  · exact h2
  · rw [h] at h2; cases h2
def frees (mt : List Int) : Nat := mt.countP fun x => decide (x = -1)
theorem frees_lt : ∀ (a b : List Int), a.length = b.length → (∀ j, a.getD j 0 ≠ -1 → b.getD j 0 ≠ -1) → frees b ≤ frees a ∧ ((∃ i, i < a.length ∧ a.getD i 0 = -1 ∧ b.getD i 0 ≠ -1) → frees b < frees a)
  | [], [], _, _ => ⟨Nat.le_refl _, fun ⟨i, hi, _⟩ => by simp at hi⟩
  | [], _ :: _, h, _ => by simp at h
  | _ :: _, [], h, _ => by simp at h
  | x :: a, y :: b, h, hk => by
    have ih := frees_lt a b (by simpa using h) fun j hj => by simpa using hk (j + 1) (by simpa using hj)
    have h0 := hk 0
    simp only [List.getD_cons_zero] at h0
    unfold frees at *
    simp only [List.countP_cons, decide_eq_true_eq]
    refine ⟨by split <;> split <;> omega, fun ⟨i, hi, h1, h2⟩ => ?_⟩
    cases i with
    | zero =>
      simp only [List.getD_cons_zero] at h1 h2
      rw [if_neg h2, if_pos h1]; omega
    | succ i =>
      have := ih.2 ⟨i, by simpa using hi, by simpa using h1, by simpa using h2⟩
      split <;> split <;> omega
theorem impO_len {m : Int} {ll : List (List Int)} (hw : Wish m ll) (mt : List Int) : (impO ll mt).length = mt.length := by
  rcases imp_cases ll mt with ⟨_, h, _⟩ | ⟨k, _, _, _, _, h⟩
  · rw [h]
  · rw [h]; exact (askR_inv hw 9 k mt [] (.nil m)).len
theorem imp_less {m : Int} {ll : List (List Int)} (hw : Wish m ll) {mt : List Int} (h : impB ll mt = true) : frees (impO ll mt) < frees mt := by
  rcases imp_cases ll mt with ⟨h2, _, _⟩ | ⟨k, hk, _, h3, _, h2⟩
  · rw [h2] at h; cases h
  · rw [h2]
    have I := askR_inv hw 9 k mt [] (.nil m)
    simp only [impAt, Bool.and_eq_true, decide_eq_true_eq] at h3
    exact (frees_lt mt _ I.len.symm I.keep).2 ⟨k, hk, h3.1, I.got h3.2 hk⟩

/-! ### As many pairs aa can be -/
def bestN (ll : List (List Int)) (n : Nat) (j : Nat) : List Int := foldN (fun mt _ => impO ll mt) (List.replicate n (-1)) j
def bestM' (ll : List (List Int)) (n : Nat) : List Int := bestN ll n 8
theorem bestN_zero' (ll : List (List Int)) (n : Nat) : bestN ll n 0 = List.replicate n (-1) := rfl
theorem bestN_succ' (ll : List (List Int)) (n j : Nat) : bestN ll n (j + 1) = impO ll (bestN ll n j) := rfl
theorem bestN_len' {m : Int} {ll : List (List Int)} (hw : Wish m ll) (n : Nat) : ∀ j, (bestN ll n j).length = n
  | 0 => by simp [bestN_zero']
  | j + 1 => by rw [bestN_succ', impO_len hw, bestN_len' hw n j]
theorem bestM_len {m : Int} {ll : List (List Int)} (hw : Wish m ll) (n : Nat) : (bestM' ll n).length = n := bestN_len' hw n 8
theorem best_bound {m : Int} {ll : List (List Int)} (hw : Wish m ll) {n : Nat} : ∀ j, (∀ d, d < j → impB ll (bestN ll n d) = true) → frees (bestN ll n j) + j ≤ n
  | 0, _ => by
    have := List.countP_le_length (p := fun x : Int => decide (x = -1)) (l := bestN ll n 0)
    rw [bestN_zero', List.length_replicate] at this
    exact this
  | j + 1, h => by
    have ih := best_bound hw (n := n) j fun d hd => h d (by omega)
    have := imp_less hw (h j (by omega))
    rw [bestN_succ']; omega
theorem best_still {ll : List (List Int)} {n j : Nat} (h : impB ll (bestN ll n j) = false) : ∀ d, bestN ll n (j + d) = bestN ll n j
  | 0 => rfl
  | d + 1 => by
    rw [← Nat.add_assoc, bestN_succ', best_still h d]
    rcases imp_cases ll (bestN ll n j) with ⟨_, h, _⟩ | ⟨k, _, _, _, h2, _⟩
    · exact h
    · rw [h] at h2; cases h2
theorem best_end {m : Int} {ll : List (List Int)} (hw : Wish m ll) {n j : Nat} (hn : n ≤ 8) (hb : ∀ d, d < j → impB ll (bestN ll n d) = true) (h : impB ll (bestN ll n j) = false) : bestN ll n j = bestM' ll n := by
  have := best_bound hw (n := n) j hb
  have e := best_still h (8 - j)
  rw [show j + (8 - j) = 8 by omega] at e
  exact e.symm
theorem best_max {m : Int} {ll : List (List Int)} (hw : Wish m ll) {n : Nat} (hn : n ≤ 8) : impB ll (bestM' ll n) = false := by
  -- were all of the first nine steps a pair more, there were too few without one
  cases h : impB ll (bestM' ll n) with
  | false => rfl
  | true =>
    exfalso
    have hall : ∀ d, d < 9 → impB ll (bestN ll n d) = true := fun d hd => by
      cases h2 : impB ll (bestN ll n d) with
      | true => rfl
      | false =>
        have e := best_still h2 (8 - d)
        rw [show d + (8 - d) = 8 by omega] at e
        have : bestM' ll n = bestN ll n d := e
        rw [this, h2] at h; cases h
    have := best_bound hw (n := n) 9 hall
    omega

/-! ### What is reached from those without one -/
def freeN (mt : List Int) (k : Nat) : List Int := foldN (fun s i => if mt.getD i 0 = -1 then s ++ [(i : Int)] else s) [] k
theorem freeN_zero (mt : List Int) : freeN mt 0 = [] := rfl
theorem freeN_succ (mt : List Int) (k : Nat) : freeN mt (k + 1) = if mt.getD k 0 = -1 then freeN mt k ++ [(k : Int)] else freeN mt k := rfl
abbrev QS := List Int × List Int
def stQ (mt w : List Int) (s : QS) (j : Nat) : QS :=
  if hasB s.2 (w.getD j 0) = true then s else
  (if 0 ≤ ownI mt (w.getD j 0) ∧ hasB s.1 (ownI mt (w.getD j 0)) = false then s.1 ++ [ownI mt (w.getD j 0)] else s.1, s.2 ++ [w.getD j 0])
def rowQ (ll : List (List Int)) (mt : List Int) (s : QS) (k : Nat) : QS := if k < s.1.length then foldN (stQ mt (ll.getD (s.1.getD k 0).toNat [])) s (ll.getD (s.1.getD k 0).toNat []).length else s
def qN (ll : List (List Int)) (mt : List Int) (k : Nat) : QS := foldN (rowQ ll mt) (freeN mt mt.length, []) k
def inQ (ll : List (List Int)) (mt : List Int) (k j : Nat) : QS := foldN (stQ mt (ll.getD ((qN ll mt k).1.getD k 0).toNat [])) (qN ll mt k) j
def reachQ (ll : List (List Int)) (mt : List Int) : QS := qN ll mt 8
structure QInv (n : Nat) (m : Int) (s : QS) : Prop where
  n1 : s.1.Nodup
  r1 : ∀ x ∈ s.1, 0 ≤ x ∧ x < n
  n2 : s.2.Nodup
  r2 : ∀ x ∈ s.2, 0 ≤ x ∧ x < m
theorem QInv.len {n : Nat} {m : Int} {s : QS} (h : QInv n m s) (hn : n ≤ 8) (hm : m ≤ 8) : s.1.length ≤ 8 ∧ s.2.length ≤ 8 :=
  ⟨nod_len 8 _ h.n1 fun x hx => by have := h.r1 x hx; omega, nod_len 8 _ h.n2 fun x hx => by have := h.r2 x hx; omega⟩
theorem nodup_snoc {l : List Int} {x : Int} (h : l.Nodup) (hx : x ∉ l) : (l ++ [x]).Nodup := by
  rw [List.nodup_append]
  refine ⟨h, by simp, fun a ha b hb => ?_⟩
  simp at hb
  subst hb
  exact fun e => hx (e ▸ ha)
section
variable {ll : List (List Int)} {mt : List Int} {n : Nat} {m : Int}
theorem qN_zero : qN ll mt 0 = (freeN mt mt.length, []) := rfl
theorem qN_succ (k : Nat) : qN ll mt (k + 1) = rowQ ll mt (qN ll mt k) k := rfl
theorem inQ_zero (k : Nat) : inQ ll mt k 0 = qN ll mt k := rfl
theorem inQ_succ (k j : Nat) : inQ ll mt k (j + 1) = stQ mt (ll.getD ((qN ll mt k).1.getD k 0).toNat []) (inQ ll mt k j) j := rfl
theorem inQ_all {k : Nat} (h : k < (qN ll mt k).1.length) : inQ ll mt k (ll.getD ((qN ll mt k).1.getD k 0).toNat []).length = qN ll mt (k + 1) := by
  rw [qN_succ, rowQ, if_pos h]; rfl
theorem inQ_skip {k j : Nat} (h : hasB (inQ ll mt k j).2 ((ll.getD ((qN ll mt k).1.getD k 0).toNat []).getD j 0) = true) : inQ ll mt k (j + 1) = inQ ll mt k j := by
  rw [inQ_succ, stQ, if_pos h]
theorem inQ_both {k j : Nat} (h : hasB (inQ ll mt k j).2 ((ll.getD ((qN ll mt k).1.getD k 0).toNat []).getD j 0) = false) (h0 : 0 ≤ ownI mt ((ll.getD ((qN ll mt k).1.getD k 0).toNat []).getD j 0))
    (h1 : hasB (inQ ll mt k j).1 (ownI mt ((ll.getD ((qN ll mt k).1.getD k 0).toNat []).getD j 0)) = false) :
    inQ ll mt k (j + 1) = ((inQ ll mt k j).1 ++ [ownI mt ((ll.getD ((qN ll mt k).1.getD k 0).toNat []).getD j 0)], (inQ ll mt k j).2 ++ [(ll.getD ((qN ll mt k).1.getD k 0).toNat []).getD j 0]) := by
  rw [inQ_succ, stQ, if_neg (by rw [h]; simp), if_pos ⟨h0, h1⟩]
theorem inQ_right {k j : Nat} (h : hasB (inQ ll mt k j).2 ((ll.getD ((qN ll mt k).1.getD k 0).toNat []).getD j 0) = false)
    (h1 : ¬ 0 ≤ ownI mt ((ll.getD ((qN ll mt k).1.getD k 0).toNat []).getD j 0) ∨ hasB (inQ ll mt k j).1 (ownI mt ((ll.getD ((qN ll mt k).1.getD k 0).toNat []).getD j 0)) = true) :
    inQ ll mt k (j + 1) = ((inQ ll mt k j).1, (inQ ll mt k j).2 ++ [(ll.getD ((qN ll mt k).1.getD k 0).toNat []).getD j 0]) := by
  rw [inQ_succ, stQ, if_neg (by rw [h]; simp), if_neg]
  rintro ⟨a, b⟩
  rcases h1 with h1 | h1
  · exact h1 a
  · rw [b] at h1; cases h1
theorem qN_stop {k : Nat} (h : (qN ll mt k).1.length ≤ k) : ∀ d, qN ll mt (k + d) = qN ll mt k
  | 0 => rfl
  | d + 1 => by
    have ih := qN_stop h d
    rw [← Nat.add_assoc, qN_succ, ih, rowQ, if_neg (by omega)]
theorem q_end {k : Nat} (hk : k ≤ 8) (h : (qN ll mt k).1.length ≤ k) : qN ll mt k = reachQ ll mt := by
  have := qN_stop h (8 - k)
  rw [show k + (8 - k) = 8 by omega] at this
  exact this.symm
theorem freeN_inv : ∀ k, (freeN mt k).Nodup ∧ (∀ x ∈ freeN mt k, 0 ≤ x ∧ x < k) ∧ ∀ i, i < k → (mt.getD i 0 = -1 ↔ (i : Int) ∈ freeN mt k)
  | 0 => ⟨by simp [freeN_zero], by simp [freeN_zero], fun i h => by omega⟩
  | k + 1 => by
    obtain ⟨h1, h2, h3⟩ := freeN_inv k
    rw [freeN_succ]
    split
    · rename_i hc
      refine ⟨nodup_snoc h1 fun h => by have := h2 _ h; omega, fun x hx => ?_, fun i hi => ?_⟩
      · rcases List.mem_append.1 hx with h | h
        · have := h2 x h; omega
        · simp at h; omega
      · rcases Nat.lt_or_ge i k with c | c
        · rw [h3 i c, List.mem_append]
          exact ⟨.inl, fun h => h.resolve_right (by simp; omega)⟩
        · obtain rfl : i = k := by omega
          exact ⟨fun _ => List.mem_append.2 (.inr (by simp)), fun _ => hc⟩
    · rename_i hc
      refine ⟨h1, fun x hx => by have := h2 x hx; omega, fun i hi => ?_⟩
      rcases Nat.lt_or_ge i k with c | c
      · exact h3 i c
      · obtain rfl : i = k := by omega
        exact ⟨fun h => absurd h hc, fun h => by have := h2 _ h; omega⟩
theorem stQ_inv (hmt : mt.length = n) {w : List Int} (hw : ∀ j, j < w.length → 0 ≤ w.getD j 0 ∧ w.getD j 0 < m) {s : QS} (h : QInv n m s) {j : Nat} (hj : j < w.length) : QInv n m (stQ mt w s j) := by
  unfold stQ
  split
  · exact h
  · rename_i hc
    have hr : w.getD j 0 ∉ s.2 := fun e => hc (hasB_iff.2 e)
    have h2 : ∀ x ∈ s.2 ++ [w.getD j 0], 0 ≤ x ∧ x < m := fun x hx => by
      rcases List.mem_append.1 hx with h3 | h3
      · exact h.r2 x h3
      · simp only [List.mem_cons, List.not_mem_nil, or_false] at h3
        rw [h3]; exact hw j hj
    refine ⟨?_, ?_, nodup_snoc h.n2 hr, h2⟩
    · simp only []
      split
      · rename_i hc2; exact nodup_snoc h.n1 (hasB_false.1 hc2.2)
      · exact h.n1
    · simp only []
      split
      · rename_i hc2
        intro x hx
        rcases List.mem_append.1 hx with h3 | h3
        · exact h.r1 x h3
        · simp only [List.mem_cons, List.not_mem_nil, or_false] at h3
          have := idxF_lt (fun x => decide (x = w.getD j 0)) mt
          rw [h3]
          exact ⟨hc2.1, by rw [← hmt]; exact this.2⟩
      · exact h.r1
theorem foldQ_inv (hmt : mt.length = n) {w : List Int} (hw : ∀ j, j < w.length → 0 ≤ w.getD j 0 ∧ w.getD j 0 < m) {s : QS} (h : QInv n m s) : ∀ j, j ≤ w.length → QInv n m (foldN (stQ mt w) s j)
  | 0, _ => h
  | j + 1, hj => stQ_inv hmt hw (foldQ_inv hmt hw h j (by omega)) (by omega)
theorem qN_inv (hmt : mt.length = n) (hw : Wish m ll) : ∀ k, QInv n m (qN ll mt k)
  | 0 => ⟨(freeN_inv mt.length).1, fun x hx => by have := (freeN_inv mt.length).2.1 x hx; omega, by simp [qN_zero], by simp [qN_zero]⟩
  | k + 1 => by
    have ih := qN_inv hmt hw k
    rw [qN_succ, rowQ]
    split
    · exact foldQ_inv hmt (hw _) ih _ (Nat.le_refl _)
    · exact ih
theorem inQ_inv (hmt : mt.length = n) (hw : Wish m ll) {k j : Nat} (hj : j ≤ (ll.getD ((qN ll mt k).1.getD k 0).toNat []).length) : QInv n m (inQ ll mt k j) :=
  foldQ_inv hmt (hw _) (qN_inv hmt hw k) j hj
/-- What is there stays where it is. -/
theorem stQ_pre {w : List Int} {s : QS} {j : Nat} : s.1 <+: (stQ mt w s j).1 ∧ s.2 <+: (stQ mt w s j).2 := by
  unfold stQ
  split
  · exact ⟨List.prefix_refl _, List.prefix_refl _⟩
  · refine ⟨?_, List.prefix_append _ _⟩
    simp only []
    split
    · exact List.prefix_append _ _
    · exact List.prefix_refl _
theorem foldQ_pre {w : List Int} {s : QS} : ∀ j, s.1 <+: (foldN (stQ mt w) s j).1 ∧ s.2 <+: (foldN (stQ mt w) s j).2
  | 0 => ⟨List.prefix_refl _, List.prefix_refl _⟩
  | j + 1 => ⟨(foldQ_pre j).1.trans stQ_pre.1, (foldQ_pre j).2.trans stQ_pre.2⟩
theorem pre_getD {a b : List Int} (h : a <+: b) {k : Nat} (hk : k < a.length) : b.getD k 0 = a.getD k 0 := by
  obtain ⟨c, rfl⟩ := h
  simp only [List.getD_eq_getElem?_getD]
  rw [List.getElem?_append_left hk]
/-- Row k of the queue, inside its own round. -/
theorem inQ_at {k j : Nat} (hk : k < (qN ll mt k).1.length) : (inQ ll mt k j).1.getD k 0 = (qN ll mt k).1.getD k 0 ∧ k < (inQ ll mt k j).1.length := by
  have h := (foldQ_pre (mt := mt) (w := ll.getD ((qN ll mt k).1.getD k 0).toNat []) (s := qN ll mt k) j).1
  exact ⟨pre_getD h hk, Nat.lt_of_lt_of_le hk h.length_le⟩
end
/-! ### The answers -/
def rangeI (n : Nat) : List Int := (List.range n).map fun (i : Nat) => (i : Int)
@[simp] theorem rangeI_length (n : Nat) : (rangeI n).length = n := by simp [rangeI]
theorem rangeI_zero : rangeI 0 = [] := rfl
theorem rangeI_mem {n : Nat} {x : Int} : x ∈ rangeI n ↔ 0 ≤ x ∧ x < n := by
  simp only [rangeI, List.mem_map, List.mem_range]
  exact ⟨fun ⟨i, h, e⟩ => by omega, fun h => ⟨x.toNat, by omega, by omega⟩⟩
theorem rangeI_rise (n : Nat) : (rangeI n).Pairwise (· < ·) := by
  unfold rangeI
  rw [List.pairwise_map]
  exact List.pairwise_lt_range.imp fun h => by omega
theorem rangeI_succ (n : Nat) : rangeI (n + 1) = rangeI n ++ [(n : Int)] := by simp [rangeI, List.range_succ]
theorem rangeI_getD {n i : Nat} (h : i < n) (d : Int) : (rangeI n).getD i d = i := by simp [rangeI, h]
theorem sort_filter {s : List Int} {n : Nat} (h : s.Nodup) (hr : ∀ x ∈ s, 0 ≤ x ∧ x < n) : sortI s = (rangeI n).filter (hasB s) := by
  refine rise_eq (sortI_rise h) ((rangeI_rise n).filter _) fun x => ?_
  rw [sortI_mem, List.mem_filter, rangeI_mem, hasB_iff]
  exact ⟨fun hx => ⟨hr x hx, hx⟩, fun hx => hx.2⟩
theorem hasB_sortI (s : List Int) (x : Int) : hasB (sortI s) x = hasB s x := by
  rw [Bool.eq_iff_iff, hasB_iff, hasB_iff, sortI_mem]
/-- What is reached from those without one, of the greatest match. -/
def rcQ (n m : Int) (ll : List (List Int)) : QS := reachQ ll (bestM' ll n.toNat)
theorem rcQ_inv {n m : Int} {ll : List (List Int)} (h : goodP n m ll = true) : QInv n.toNat m (rcQ n m ll) := qN_inv (bestN_len' (goodP_wish h) _ 8) (goodP_wish h) 8
theorem rcQ_len {n m : Int} {ll : List (List Int)} (h : goodP n m ll = true) : (rcQ n m ll).1.length ≤ 8 ∧ (rcQ n m ll).2.length ≤ 8 := by
  have := goodP_len h
  exact (rcQ_inv h).len (by omega) (by omega)
def shL (n m : Int) (ll : List (List Int)) : List Int := if goodP n m ll = true then sortI (rcQ n m ll).1 else []
def shB (n m : Int) (ll : List (List Int)) : Bool := goodP n m ll && decide (0 < (rcQ n m ll).1.length)
def coA (n m : Int) (ll : List (List Int)) : List Int := if goodP n m ll = true then (rangeI n.toNat).filter (fun x => !hasB (rcQ n m ll).1 x) else []
def coR (n m : Int) (ll : List (List Int)) : List Int := if goodP n m ll = true then sortI (rcQ n m ll).2 else []
theorem freeN_none {ll : List (List Int)} {mt : List Int} (h : freeN mt mt.length = []) : ∀ k, qN ll mt k = ([], [])
  | 0 => by rw [qN_zero, h]
  | k + 1 => by rw [qN_succ, freeN_none h k, rowQ, if_neg (by simp)]
theorem qN_free {ll : List (List Int)} {mt : List Int} : ∀ k, freeN mt mt.length <+: (qN ll mt k).1
  | 0 => by rw [qN_zero]; exact List.prefix_refl _
  | k + 1 => by
    rw [qN_succ, rowQ]
    split
    · exact (qN_free k).trans (foldQ_pre _).1
    · exact qN_free k
theorem short_any {ll : List (List Int)} {mt : List Int} : (0 < (freeN mt mt.length).length ↔ 0 < (reachQ ll mt).1.length) := by
  constructor
  · intro h
    have := (qN_free (ll := ll) (mt := mt) 8).length_le
    exact Nat.lt_of_lt_of_le h this
  · intro h
    rcases Nat.eq_zero_or_pos (freeN mt mt.length).length with h2 | h2
    · have e : qN ll mt 8 = ([], []) := freeN_none (List.eq_nil_of_length_eq_zero h2) 8
      rw [reachQ, e] at h; simp at h
    · exact h2
theorem short_iff {n m : Int} {ll : List (List Int)} : (0 < (freeN (bestM' ll n.toNat) (bestM' ll n.toNat).length).length ↔ 0 < (rcQ n m ll).1.length) := short_any
theorem shB_of {n m : Int} {ll : List (List Int)} (hg : goodP n m ll = true) (k : Nat) (hk : k = n.toNat) : decide ((0 : Int) < ((freeN (bestM' ll n.toNat) k).length : Int)) = shB n m ll := by
  have e : (bestM' ll n.toNat).length = n.toNat := bestN_len' (goodP_wish hg) _ 8
  have h := short_iff (n := n) (m := m) (ll := ll)
  subst hk
  rw [e] at h
  rw [shB, hg, Bool.true_and, decide_eq_decide, ← h]
  omega
theorem coR_eq {n m : Int} {ll : List (List Int)} (hg : goodP n m ll = true) : sortI (rcQ n m ll).2 = (rangeI m.toNat).filter (fun x => hasB (rcQ n m ll).2 x) := by
  refine sort_filter (rcQ_inv hg).n2 fun x hx => ?_
  have := (rcQ_inv hg).r2 x hx
  have := goodP_len hg
  omega
theorem shL_le (n m : Int) (ll : List (List Int)) : (shL n m ll).length ≤ 8 := by
  unfold shL
  split
  · rename_i h; rw [sortI_len]; exact (rcQ_len h).1
  · simp
theorem coA_le (n m : Int) (ll : List (List Int)) : (coA n m ll).length ≤ 8 := by
  unfold coA
  split
  · rename_i h
    have h1 := List.length_filter_le (fun x => !hasB (rcQ n m ll).1 x) (rangeI n.toNat)
    have := goodP_len h
    rw [rangeI_length] at h1
    omega
  · simp
theorem coR_le (n m : Int) (ll : List (List Int)) : (coR n m ll).length ≤ 8 := by
  unfold coR
  split
  · rename_i h; rw [sortI_len]; exact (rcQ_len h).2
  · simp
theorem sort_put' {s : List Int} {b : Int} (hn : s.Nodup) (hb : b ∉ s) : putL b (sortI s) = sortI (s ++ [b]) := by
  refine rise_eq (putL_rise (sortI_rise hn)) (sortI_rise (nodup_snoc hn hb)) fun x => ?_
  rw [putL_mem, sortI_mem, sortI_mem, List.mem_append, List.mem_singleton, or_comm]
theorem sort_take {s : List Int} (h : s.Nodup) {k : Nat} (hk : k < s.length) : putL (s.getD k 0) (sortI (s.take k)) = sortI (s.take (k + 1)) ∧ Rise (sortI (s.take k)) := by
  have h1 : (s.take k).Nodup := h.sublist (List.take_sublist _ _)
  have h2 : s.getD k 0 ∉ s.take k := fun hm => by
    obtain ⟨i, hi, e⟩ := List.getElem_of_mem hm
    rw [List.length_take] at hi
    rw [List.getElem_take, getD_get hk] at e
    have := (List.pairwise_iff_getElem.1 h) i k (by omega) hk (by omega)
    exact this e
  rw [sort_put' h1 h2, List.take_add_one, List.getElem?_eq_getElem hk, getD_get hk]
  exact ⟨rfl, sortI_rise h1⟩
theorem sortI_nil' : sortI [] = [] := rfl
/-- Those of the first k numbers. -/
def selN (q : Int → Bool) (k : Nat) : List Int := (rangeI k).filter q
theorem selN_zero (q : Int → Bool) : selN q 0 = [] := rfl
theorem selN_yes {q : Int → Bool} {k : Nat} (h : q (k : Int) = true) : selN q (k + 1) = selN q k ++ [(k : Int)] := by
  rw [selN, rangeI_succ, List.filter_append, List.filter_cons, h]; rfl
theorem selN_no {q : Int → Bool} {k : Nat} (h : q (k : Int) = false) : selN q (k + 1) = selN q k := by
  rw [selN, rangeI_succ, List.filter_append, List.filter_cons, h]; simp [selN]
theorem selN_le (q : Int → Bool) (k : Nat) : (selN q k).length ≤ k := by
  have := List.length_filter_le q (rangeI k)
  rwa [rangeI_length] at this
/-- The answers. -/
def imOk (n m : Int) (ll : List (List Int)) (mt : List Int) : Bool := isMatch n m ll mt && impB ll mt
def imL (n m : Int) (ll : List (List Int)) (mt : List Int) : List Int := if imOk n m ll mt = true then impO ll mt else []
def impR (ll : List (List Int)) (mt : List Int) : List Int := if impB ll mt = true then impO ll mt else []
def maL (n m : Int) (ll : List (List Int)) : List Int := if goodP n m ll = true then bestM' ll n.toNat else []
theorem imL_le (n m : Int) (ll : List (List Int)) (mt : List Int) : (imL n m ll mt).length ≤ 8 := by
  unfold imL
  split
  · rename_i h
    simp only [imOk, isMatch, matchOk, Bool.and_eq_true, decide_eq_true_eq] at h
    rw [impO_len (goodP_wish h.1.1.1)]
    have := goodP_len h.1.1.1
    omega
  · simp
theorem maL_le (n m : Int) (ll : List (List Int)) : (maL n m ll).length ≤ 8 := by
  unfold maL
  split
  · rename_i h
    unfold bestM'
    rw [bestN_len' (goodP_wish h)]
    have := goodP_len h
    omega
  · simp
end YtofjbgpaofcpjaaAM
