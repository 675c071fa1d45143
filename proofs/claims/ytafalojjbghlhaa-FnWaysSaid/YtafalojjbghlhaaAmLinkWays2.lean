/- A walk made straight; the rounds. -/
import Derived.Test.YtafalojjbghlhaaAmLinkWays
set_option linter.unusedVariables false
set_option linter.unusedSimpArgs false
namespace YtafalojjbghlhaaAM

abbrev fromW (l : List S2) (w : List Int) (i : Nat) : Int := (l.getD (w.getD i 0).toNat ⟨0, 0⟩).a
def lstN (l : List S2) (w : List Int) (i q : Nat) : Nat := foldN (fun a x => if fromW l w (i + 1 + x) = fromW l w i then i + 1 + x else a) i q
def lstI (l : List S2) (w : List Int) (i : Nat) : Nat := lstN l w i (w.length - (i + 1))
theorem lstN_zero (l : List S2) (w : List Int) (i : Nat) : lstN l w i 0 = i := rfl
theorem lstN_succ (l : List S2) (w : List Int) (i q : Nat) : lstN l w i (q + 1) = if fromW l w (i + 1 + q) = fromW l w i then i + 1 + q else lstN l w i q := rfl
theorem lstN_spec (l : List S2) (w : List Int) (i : Nat) : ∀ q, i ≤ lstN l w i q ∧ lstN l w i q ≤ i + q ∧ fromW l w (lstN l w i q) = fromW l w i ∧ ∀ x, lstN l w i q < x → x ≤ i + q → fromW l w x ≠ fromW l w i
  | 0 => ⟨Nat.le_refl _, Nat.le_refl _, rfl, fun x h1 h2 => by rw [lstN_zero] at h1; omega⟩
  | q + 1 => by
    obtain ⟨h1, h2, h3, h4⟩ := lstN_spec l w i q
    rw [lstN_succ]
    split
    · rename_i c
      exact ⟨by omega, by omega, c, fun x h5 h6 => by omega⟩
    · rename_i c
      refine ⟨h1, by omega, h3, fun x h5 h6 => ?_⟩
      rcases Nat.lt_or_ge (i + q) x with d | d
      · obtain rfl : x = i + 1 + q := by omega
        exact c
      · exact h4 x h5 d
theorem lstN_all {l : List S2} {w : List Int} {i q : Nat} (h : q = w.length - (i + 1)) : lstN l w i q = lstI l w i := by rw [h]; rfl
theorem all_next {P : Nat → Prop} {p : Nat} (h : ∀ d, d < p → P d) (hp : P p) : ∀ d, d < p + 1 → P d := fun d hd => by
  rcases Nat.lt_or_ge d p with c | c
  · exact h d c
  · obtain rfl : d = p := by omega
    exact hp
theorem sub_oneL (x : Int) : sub [x] 0 1 = [x] := rfl
theorem sub_wholeL {l : List Int} {n : Nat} (h : l.length = n) : sub l 0 n = l := by subst h; simp [sub]
def sgS (l : List S2) (w : List Int) (s : Nat × List Int) : Nat × List Int := if s.1 < w.length then (lstI l w s.1 + 1, s.2 ++ [w.getD (lstI l w s.1) 0]) else s
def sgN (l : List S2) (w : List Int) (p : Nat) : Nat × List Int := foldN (fun s _ => sgS l w s) (0, []) p
def sgE (l : List S2) (w : List Int) : List Int := (sgN l w w.length).2
theorem sgN_zero (l : List S2) (w : List Int) : sgN l w 0 = (0, []) := rfl
theorem sgN_succ (l : List S2) (w : List Int) (p : Nat) : sgN l w (p + 1) = sgS l w (sgN l w p) := rfl
section
variable {l : List S2} {w : List Int} {p : Nat}
theorem sgN_go (h : (sgN l w p).1 < w.length) : sgN l w (p + 1) = (lstI l w (sgN l w p).1 + 1, (sgN l w p).2 ++ [w.getD (lstI l w (sgN l w p).1) 0]) := by rw [sgN_succ, sgS, if_pos h]
theorem sgN_stop (h : ¬ (sgN l w p).1 < w.length) : ∀ d, sgN l w (p + d) = sgN l w p
  | 0 => rfl
  | d + 1 => by rw [← Nat.add_assoc, sgN_succ, sgN_stop h d, sgS, if_neg h]
theorem lstI_lt {i : Nat} (h : i < w.length) : i ≤ lstI l w i ∧ lstI l w i < w.length := by
  have := lstN_spec l w i (w.length - (i + 1))
  unfold lstI; omega
theorem sgN_inv (hp : ∀ d, d < p → (sgN l w d).1 < w.length) : p ≤ (sgN l w p).1 ∧ (sgN l w p).1 ≤ w.length ∧ (sgN l w p).2.length = p := by
  induction p with
  | zero => rw [sgN_zero]; simp
  | succ p ih =>
    have ih := ih fun d hd => hp d (by omega)
    have h := hp p (by omega)
    have := lstI_lt (l := l) h
    rw [sgN_go h]
    refine ⟨by simp only []; omega, by simp only []; omega, ?_⟩
    simp only [List.length_append, List.length_singleton]; omega
theorem sg_end (hp : ∀ d, d < p → (sgN l w d).1 < w.length) (h : ¬ (sgN l w p).1 < w.length) : (sgN l w p).2 = sgE l w := by
  have := sgN_inv hp
  have e := sgN_stop h (w.length - p)
  rw [sgE, show w.length = p + (w.length - p) by omega, e]
theorem sg_ex (l : List S2) (w : List Int) : ∃ p, ¬ (sgN l w p).1 < w.length ∧ ∀ d, d < p → (sgN l w d).1 < w.length := by
  have key : ∀ j, (∃ d, d < j ∧ ¬ (sgN l w d).1 < w.length ∧ ∀ e, e < d → (sgN l w e).1 < w.length) ∨ ∀ d, d < j → (sgN l w d).1 < w.length := by
    intro j
    induction j with
    | zero => exact .inr fun d hd => by omega
    | succ j ih =>
      rcases ih with ⟨d, h1, h2⟩ | ih
      · exact .inl ⟨d, by omega, h2⟩
      · by_cases c : (sgN l w j).1 < w.length
        · refine .inr fun d hd => ?_
          rcases Nat.lt_or_ge d j with c1 | c1
          · exact ih d c1
          · obtain rfl : d = j := by omega
            exact c
        · exact .inl ⟨j, by omega, c, ih⟩
  rcases key (w.length + 2) with ⟨d, _, h1, h2⟩ | h1
  · exact ⟨d, h1, h2⟩
  · have := sgN_inv (p := w.length + 1) fun d hd => h1 d (by omega)
    omega
theorem sgE_len (l : List S2) (w : List Int) : (sgE l w).length ≤ w.length := by
  obtain ⟨p, h1, h2⟩ := sg_ex l w
  have := sgN_inv h2
  rw [← sg_end h2 h1, this.2.2]; omega
theorem sgN_mem : ∀ p, ∀ x ∈ (sgN l w p).2, x ∈ w
  | 0, x, hx => by rw [sgN_zero] at hx; cases hx
  | p + 1, x, hx => by
    by_cases h : (sgN l w p).1 < w.length
    · rw [sgN_go h] at hx
      rcases List.mem_append.1 hx with hx | hx
      · exact sgN_mem p x hx
      · simp only [List.mem_singleton] at hx
        subst hx
        have := (lstI_lt (l := l) h).2
        rw [getD_get this]; exact List.getElem_mem this
    · rw [sgN_succ, sgS, if_neg h] at hx
      exact sgN_mem p x hx
end
/-! ### The last link from each node -/
def lasL (l : List S2) (w : List Int) : List Int := w.foldl (fun a k => a.set (l.getD k.toNat ⟨0, 0⟩).a.toNat k) (List.replicate 8 0)
theorem lasL_nil (l : List S2) : lasL l [] = List.replicate 8 0 := rfl
theorem lasL_snoc (l : List S2) (w : List Int) (k : Int) : lasL l (w ++ [k]) = (lasL l w).set (l.getD k.toNat ⟨0, 0⟩).a.toNat k := by simp [lasL]
theorem fold_len (l : List S2) : ∀ (w a : List Int), (w.foldl (fun a k => a.set (l.getD k.toNat ⟨0, 0⟩).a.toNat k) a).length = a.length
  | [], a => rfl
  | k :: w, a => by rw [List.foldl_cons, fold_len l w, List.length_set]
theorem lasL_len (l : List S2) (w : List Int) : (lasL l w).length = 8 := by rw [lasL, fold_len]; rfl
theorem las_rev {l : List S2} (v : List Int) : ∀ q, q < v.reverse.length → (∀ x, x < v.reverse.length → 0 ≤ fromW l v.reverse x ∧ fromW l v.reverse x < 8) → (∀ x, q < x → x < v.reverse.length → fromW l v.reverse x ≠ fromW l v.reverse q) →
    (lasL l v.reverse).getD (fromW l v.reverse q).toNat 0 = v.reverse.getD q 0 := by
  induction v with
  | nil => intro q hq; simp at hq
  | cons k v ih =>
    intro q hq hr hx
    rw [List.reverse_cons] at *
    rw [List.length_append, List.length_singleton] at *
    have hk := hr v.reverse.length (by omega)
    have hkk : fromW l (v.reverse ++ [k]) v.reverse.length = (l.getD k.toNat ⟨0, 0⟩).a := by
      unfold fromW; rw [getD_snoc, if_neg (by omega), if_pos rfl]
    have hlt : ∀ x, x < v.reverse.length → fromW l (v.reverse ++ [k]) x = fromW l v.reverse x := fun x hx => by
      unfold fromW; rw [getD_snoc, if_pos hx]
    rw [lasL_snoc, getD_setI (by rw [lasL_len]; rw [hkk] at hk; omega)]
    rcases Nat.lt_or_ge q v.reverse.length with c | c
    · have h1 := hx v.reverse.length c (by omega)
      have h2 := hr q (by omega)
      rw [hkk] at h1 hk
      rw [if_neg (by omega), hlt q c, getD_snoc, if_pos c]
      refine ih q c (fun x hx' => by rw [← hlt x hx']; exact hr x (by omega)) (fun x h3 h4 => ?_)
      have := hx x h3 (by omega)
      rwa [hlt x h4, hlt q c] at this
    · obtain rfl : q = v.reverse.length := by omega
      rw [hkk, if_pos rfl, getD_snoc, if_neg (by omega), if_pos rfl]
theorem las_at {l : List S2} {w : List Int} {q : Nat} (hq : q < w.length) (hr : ∀ x, x < w.length → 0 ≤ fromW l w x ∧ fromW l w x < 8) (hx : ∀ x, q < x → x < w.length → fromW l w x ≠ fromW l w q) : (lasL l w).getD (fromW l w q).toNat 0 = w.getD q 0 := by
  have := las_rev (l := l) w.reverse q
  rw [List.reverse_reverse] at this
  exact this hq hr hx
/-! ### Along the last links -/
/-- The node before step p of the straight way. -/
def atS (l : List S2) (t : Int) (w : List Int) (p : Nat) : Int := if (sgN l w p).1 < w.length then fromW l w (sgN l w p).1 else t
/-- A walk that ends. -/
structure WDone (l : List S2) (f t : Int) (w : List Int) : Prop where
  pos : 0 < w.length
  wr : ∀ x ∈ w, 0 ≤ x ∧ x < l.length
  le : w.length ≤ 20
  from' : ∀ i, i < w.length → fromW l w i ≠ t ∧ fromW l w i = if i = 0 then f else (l.getD (w.getD (i - 1) 0).toNat ⟨0, 0⟩).b
  end' : (l.getD (w.getD (w.length - 1) 0).toNat ⟨0, 0⟩).b = t
section
variable {l : List S2} {f t : Int} {w : List Int} {p : Nat}
theorem WDone.at' (h : WDone l f t w) {i : Nat} (hi : i < w.length) : 0 ≤ w.getD i 0 ∧ w.getD i 0 < l.length := by
  rw [getD_get hi]; exact h.wr _ (List.getElem_mem hi)
theorem WDone.rng (h : WDone l f t w) (hg : goodLinks l = true) {i : Nat} (hi : i < w.length) : 0 ≤ fromW l w i ∧ fromW l w i < 8 := by
  have h1 := h.at' hi
  have := links_at hg (k := (w.getD i 0).toNat) (by omega)
  show 0 ≤ (l.getD (w.getD i 0).toNat ⟨0, 0⟩).a ∧ (l.getD (w.getD i 0).toNat ⟨0, 0⟩).a < 8
  omega
theorem WDone.start (h : WDone l f t w) : atS l t w 0 = f := by
  rw [atS, sgN_zero, if_pos h.pos, (h.from' 0 h.pos).2]; rfl
theorem WDone.stop (h : WDone l f t w) : atS l t w p = t ↔ ¬ (sgN l w p).1 < w.length := by
  unfold atS
  by_cases c : (sgN l w p).1 < w.length
  · rw [if_pos c]
    exact ⟨fun e => absurd e (h.from' _ c).1, fun e => absurd c e⟩
  · rw [if_neg c]; exact ⟨fun _ => c, fun _ => rfl⟩
theorem WDone.last (h : WDone l f t w) (hg : goodLinks l = true) (hp : (sgN l w p).1 < w.length) : 0 ≤ atS l t w p ∧ atS l t w p < 8 ∧ (lasL l w).getD (atS l t w p).toNat 0 = w.getD (lstI l w (sgN l w p).1) 0 ∧
    (0 ≤ w.getD (lstI l w (sgN l w p).1) 0 ∧ w.getD (lstI l w (sgN l w p).1) 0 < l.length) ∧ (l.getD (w.getD (lstI l w (sgN l w p).1) 0).toNat ⟨0, 0⟩).b = atS l t w (p + 1) := by
  have h1 := lstI_lt (l := l) hp
  have h2 := lstN_spec l w (sgN l w p).1 (w.length - ((sgN l w p).1 + 1))
  have h3 := h.rng hg hp
  have e : atS l t w p = fromW l w (sgN l w p).1 := by rw [atS, if_pos hp]
  refine ⟨by omega, by omega, ?_, h.at' h1.2, ?_⟩
  · rw [e, ← h2.2.2.1]
    exact las_at h1.2 (fun x hx => h.rng hg hx) fun x h4 h5 => by
      have := h2.2.2.2 x h4 (by omega)
      rw [h2.2.2.1]
      exact this
  · have e2 := sgN_go hp
    unfold atS
    rw [e2]
    simp only []
    by_cases c : lstI l w (sgN l w p).1 + 1 < w.length
    · rw [if_pos c, (h.from' _ c).2, if_neg (by omega), Nat.add_sub_cancel]
    · rw [if_neg c]
      have : lstI l w (sgN l w p).1 = w.length - 1 := by omega
      rw [this, h.end']
theorem wk_way (hg : goodLinks l = true) {m : Int} {fl : List Int} (h : FlOk l f t m fl) (hf : 0 ≤ f ∧ f < 8) (hft : f ≠ t) (hm : 1 ≤ m) : WDone l f t (wkE l f t fl).way := by
  obtain ⟨h1, h2⟩ := wk_done hg h hf hm
  have hpos : 0 < (wkE l f t fl).way.length := by
    have h3 := h1.at_
    split at h3
    · exact absurd (h3.symm.trans h2) hft
    · omega
  refine ⟨hpos, fun x hx => ⟨(h1.wr x hx).1, (h1.wr x hx).2.1⟩, h1.le (goodLinks_len hg), h1.from', ?_⟩
  have h3 := h1.at_
  rw [if_neg (by omega), h2] at h3
  exact h3.symm
end
/-! ### The rounds -/
def rwN (l : List S2) (f t : Int) (fl : List Int) (j : Nat) : List Int × List (List Int) := foldN (fun s _ => ((wkE l f t s.1).fl, s.2 ++ [sgE l (wkE l f t s.1).way])) (fl, []) j
theorem rwN_zero (l : List S2) (f t : Int) (fl : List Int) : rwN l f t fl 0 = (fl, []) := rfl
theorem rwN_succ (l : List S2) (f t : Int) (fl : List Int) (j : Nat) : rwN l f t fl (j + 1) = ((wkE l f t (rwN l f t fl j).1).fl, (rwN l f t fl j).2 ++ [sgE l (wkE l f t (rwN l f t fl j).1).way]) := rfl
theorem rwN_len (l : List S2) (f t : Int) (fl : List Int) : ∀ j, (rwN l f t fl j).2.length = j
  | 0 => rfl
  | j + 1 => by rw [rwN_succ]; simp [rwN_len l f t fl j]
section
variable {l : List S2} {f t : Int}
theorem rw_ok (hg : goodLinks l = true) {v : Int} {fl : List Int} (h : FlOk l f t v fl) (hf : 0 ≤ f ∧ f < 8) (hft : f ≠ t) : ∀ j : Nat, (j : Int) ≤ v → FlOk l f t (v - j) (rwN l f t fl j).1 ∧ ∀ r ∈ (rwN l f t fl j).2, r.length ≤ 20
  | 0, _ => ⟨by rw [rwN_zero]; simpa using h, fun r hr => by simp [rwN_zero] at hr⟩
  | j + 1, hj => by
    obtain ⟨h1, h2⟩ := rw_ok hg h hf hft j (by push_cast at hj; omega)
    push_cast at hj
    have hd := wk_done hg h1 hf (by omega)
    have hw := wk_way hg h1 hf hft (by omega)
    rw [rwN_succ]
    refine ⟨?_, fun r hr => ?_⟩
    · have := hd.1.next hd.2
      rw [show v - ((j + 1 : Nat) : Int) = v - (j : Int) - 1 by push_cast; omega]
      exact this
    · rcases List.mem_append.1 hr with hr | hr
      · exact h2 r hr
      · simp only [List.mem_singleton] at hr
        subst hr
        exact Nat.le_trans (sgE_len _ _) hw.le
theorem gr_flok (hg : goodLinks l = true) (hf : 0 ≤ f ∧ f ≤ 7) (hft : f ≠ t) : FlOk l f t (outM (pipesOf l) (grM (pipesOf l) f t) f) (grM (pipesOf l) f t) ∧ 0 ≤ outM (pipesOf l) (grM (pipesOf l) f t) f ∧ outM (pipesOf l) (grM (pipesOf l) f t) f ≤ 2000 := by
  have hgp := pipesOf_good hg
  obtain ⟨h1, h2, h3⟩ := gr_spec hgp hf hft 2001
  refine ⟨⟨by rw [grM_len, pipesOf_len], fun k hk => ?_, fun n hn => ?_⟩, h3, ?_⟩
  · have := capB_iff.1 (h1.2 k (by rw [pipesOf_len]; exact hk))
    rw [pipesOf_at hk] at this
    have h4 : 0 ≤ (grM (pipesOf l) f t).getD k 0 ∧ (grM (pipesOf l) f t).getD k 0 ≤ 1 := this
    omega
  · by_cases c : n = f
    · subst c; rw [ind, if_pos rfl]; omega
    · have := h2 n c hn
      rw [ind, if_neg (Ne.symm c), Int.mul_zero]; exact this
  · have h4 := out_range hgp f _ h1
    have h5 := goodLinks_len hg
    have e : outM (pipesOf l) (grM (pipesOf l) f t) f = outN (pipesOf l) (grN (pipesOf l) f t 2001) f (pipesOf l).length := rfl
    rw [e, pipesOf_len] at *
    omega
theorem gr_caps (hg : goodLinks l = true) (hf : 0 ≤ f ∧ f ≤ 7) (hft : f ≠ t) : AllTo (capB (pipesOf l) (grM (pipesOf l) f t)) (pipesOf l).length (pipesOf l).length := (gr_spec (pipesOf_good hg) hf hft 2001).1
def waV (l : List S2) (f t : Int) : Nat := (outM (pipesOf l) (grM (pipesOf l) f t) f).toNat
def waF (l : List S2) (f t : Int) (j : Nat) : List Int := (rwN l f t (grM (pipesOf l) f t) j).1
def waR (l : List S2) (f t : Int) (j : Nat) : List (List Int) := (rwN l f t (grM (pipesOf l) f t) j).2
theorem waF_zero : waF l f t 0 = grM (pipesOf l) f t := by unfold waF; rw [rwN_zero]
theorem waR_zero : waR l f t 0 = [] := by unfold waR; rw [rwN_zero]
theorem waF_succ (j : Nat) : waF l f t (j + 1) = (wkE l f t (waF l f t j)).fl := by unfold waF; rw [rwN_succ]
theorem waR_succ (j : Nat) : waR l f t (j + 1) = waR l f t j ++ [sgE l (wkE l f t (waF l f t j)).way] := by unfold waR waF; rw [rwN_succ]
theorem waR_len (j : Nat) : (waR l f t j).length = j := rwN_len _ _ _ _ _
theorem wa_ok (hg : goodLinks l = true) (hf : 0 ≤ f ∧ f ≤ 7) (hft : f ≠ t) {j : Nat} (hj : j ≤ waV l f t) : FlOk l f t ((waV l f t : Int) - j) (waF l f t j) ∧ (∀ r ∈ waR l f t j, r.length ≤ 20) ∧ waV l f t ≤ 2000 ∧ outM (pipesOf l) (grM (pipesOf l) f t) f = (waV l f t : Int) := by
  obtain ⟨h1, h2, h3⟩ := gr_flok hg hf hft
  have e : outM (pipesOf l) (grM (pipesOf l) f t) f = (waV l f t : Int) := by unfold waV; omega
  rw [e] at h1 h3
  have := rw_ok hg h1 (by omega) hft j (by omega)
  exact ⟨this.1, this.2, by omega, e⟩
def waL (l : List S2) (f t : Int) : List (List Int) := if linkAsk l f t = true then waR l f t (waV l f t) else []
theorem waL_small (l : List S2) (f t : Int) : SmallR (waL l f t) := by
  unfold waL
  split
  · rename_i h
    obtain ⟨hg, hf, ht, hft, _⟩ := linkAsk_spec h
    have := wa_ok hg hf hft (Nat.le_refl _)
    exact SmallR.few (n := 2000) (b := 20) (by rw [waR_len]; exact this.2.2.1) this.2.1 (by decide) (by decide)
  · exact SmallR.few (n := 0) (b := 0) (by simp) (fun r hr => by cases hr) (by decide) (by decide)
theorem waL_eq (h : linkAsk l f t = true) : waL l f t = waR l f t (waV l f t) := by rw [waL, if_pos h]
theorem waL_no (h : linkAsk l f t = false) : waL l f t = [] := by rw [waL, h]; rfl
end
section
variable {l : List S2} {f t m : Int} {fl : List Int} {j k : Nat} {s : WK}
theorem wk0 : (wkN l f t fl 0).at' = f ∧ (wkN l f t fl 0).fl = fl ∧ (wkN l f t fl 0).way = [] := ⟨rfl, rfl, rfl⟩
theorem wk1 (h : ¬ (wkN l f t fl j).at' = t) : (wkN l f t fl (j + 1)).at' = (l.getD (fstK l (wkN l f t fl j)) ⟨0, 0⟩).b ∧ (wkN l f t fl (j + 1)).fl = (wkN l f t fl j).fl.set (fstK l (wkN l f t fl j)) 0 ∧ (wkN l f t fl (j + 1)).way = (wkN l f t fl j).way ++ [(fstK l (wkN l f t fl j) : Int)] := by
  rw [wkN_go h]; exact ⟨rfl, rfl, rfl⟩
theorem hit_eq (hk : k < l.length) (hle : k ≤ fstK l s) (h1 : (l.getD k ⟨0, 0⟩).a = s.at') (h2 : s.fl.getD k 0 ≠ 0) : k = fstK l s := by
  have := fst_le l s hk (by simp only [hitP, Bool.and_eq_true, Bool.not_eq_true', decide_eq_true_eq, decide_eq_false_iff_not]; exact ⟨h1, h2⟩)
  omega
theorem miss_next (hle : k ≤ fstK l s) (hh : (l.getD (fstK l s) ⟨0, 0⟩).a = s.at' ∧ s.fl.getD (fstK l s) 0 = 1) (h : ¬ ((l.getD k ⟨0, 0⟩).a = s.at' ∧ s.fl.getD k 0 = 1)) : k + 1 ≤ fstK l s := by
  rcases Nat.lt_or_ge k (fstK l s) with c | c
  · exact c
  · obtain rfl : k = fstK l s := by omega
    exact absurd hh h
end
end YtafalojjbghlhaaAM
