/- Looking for a row that bears more, in plain Lean: what is reached, and how. -/
import Derived.Test.YtafalojjbghlhaaAmPipeModels
set_option linter.unusedVariables false
set_option linter.unusedSimpArgs false
namespace YtafalojjbghlhaaAM

abbrev h0 : Hop := ⟨0, false, 0⟩
abbrev Seen := List Int × List Hop

/-- One pipe looked at from a node. -/
def stp (l : List S3) (fl : List Int) (u : Int) (s : Seen) (k : Nat) : Seen :=
  if (l.getD k ⟨0, 0, 0⟩).a = u ∧ fl.getD k 0 < (l.getD k ⟨0, 0, 0⟩).c then (if hasB s.1 ((l.getD k ⟨0, 0, 0⟩).b) = true then s else (s.1 ++ [(l.getD k ⟨0, 0, 0⟩).b], s.2.set ((l.getD k ⟨0, 0, 0⟩).b).toNat ⟨k, true, u⟩))
  else if (l.getD k ⟨0, 0, 0⟩).b = u ∧ 0 < fl.getD k 0 then (if hasB s.1 ((l.getD k ⟨0, 0, 0⟩).a) = true then s else (s.1 ++ [(l.getD k ⟨0, 0, 0⟩).a], s.2.set ((l.getD k ⟨0, 0, 0⟩).a).toNat ⟨k, false, u⟩))
  else s
/-- All pipes looked at from the i-th node that is reached. -/
def rnd (l : List S3) (fl : List Int) (s : Seen) (i : Nat) : Seen := if i < s.1.length then foldN (stp l fl (s.1.getD i 0)) s l.length else s
def seen0 (u : Int) : Seen := ([u], List.replicate 8 h0)
def srchN (l : List S3) (fl : List Int) (u : Int) (i : Nat) : Seen := foldN (rnd l fl) (seen0 u) i
def srch (l : List S3) (fl : List Int) (u : Int) : Seen := srchN l fl u 8

/-- How a node was reached. -/
structure HopOk (l : List S3) (fl : List Int) (q : List Int) (i : Nat) (x : Int) (p : Hop) : Prop where
  a : 0 ≤ p.a ∧ p.a < l.length
  c : ∃ j, j < i ∧ q[j]? = some p.c
  by' : (p.b = true ∧ (l.getD p.a.toNat ⟨0, 0, 0⟩).a = p.c ∧ (l.getD p.a.toNat ⟨0, 0, 0⟩).b = x ∧ fl.getD p.a.toNat 0 < (l.getD p.a.toNat ⟨0, 0, 0⟩).c) ∨ (p.b = false ∧ (l.getD p.a.toNat ⟨0, 0, 0⟩).b = p.c ∧ (l.getD p.a.toNat ⟨0, 0, 0⟩).a = x ∧ 0 < fl.getD p.a.toNat 0)

structure RInv (l : List S3) (fl : List Int) (u : Int) (s : Seen) : Prop where
  nodup : s.1.Nodup
  range : ∀ x ∈ s.1, 0 ≤ x ∧ x ≤ 7
  head : s.1[0]? = some u
  hlen : s.2.length = 8
  hop : ∀ (i : Nat) (x : Int), 0 < i → s.1[i]? = some x → HopOk l fl s.1 i x (s.2.getD x.toNat h0)

theorem RInv.start (l : List S3) (fl : List Int) {u : Int} (hu : 0 ≤ u ∧ u ≤ 7) : RInv l fl u (seen0 u) where
  nodup := by simp [seen0]
  range x hx := by simp [seen0] at hx; subst hx; exact hu
  head := rfl
  hlen := by simp [seen0]
  hop i x hi hx := by
    rw [List.getElem?_eq_none (by simp [seen0]; omega)] at hx; cases hx

/-- How much more a pipe bears from a node, and where it leads then. -/
def roomV (p : S3) (f n : Int) : Int := if p.a = n then p.c - f else if p.b = n then f else 0
def nextV (p : S3) (n : Int) : Int := if p.a = n then p.b else if p.b = n then p.a else 0

/-- A node put onto what is reached. -/
theorem RInv.add {l : List S3} {fl : List Int} {u : Int} {s : Seen} (h : RInv l fl u s) {x : Int} {p : Hop} (hx : 0 ≤ x ∧ x ≤ 7) (hn : x ∉ s.1) (hp : HopOk l fl s.1 s.1.length x p) : RInv l fl u (s.1 ++ [x], s.2.set x.toNat p) where
  nodup := by
    rw [List.nodup_append]
    exact ⟨h.nodup, by simp, fun a ha b hb => by simp at hb; subst hb; intro e; subst e; exact hn ha⟩
  range y hy := by
    rcases List.mem_append.1 hy with hy | hy
    · exact h.range y hy
    · simp at hy; subst hy; exact hx
  head := by
    show (s.1 ++ [x])[0]? = _
    have hl : 0 < s.1.length := (List.getElem?_eq_some_iff.1 h.head).1
    rw [List.getElem?_append_left hl]; exact h.head
  hlen := by simp [h.hlen]
  hop i y hi hy := by
    have h8 := h.hlen
    have old : ∀ {i : Nat} {y : Int} {p : Hop}, HopOk l fl s.1 i y p → i ≤ s.1.length → HopOk l fl (s.1 ++ [x]) i y p := fun ho hle =>
      ⟨ho.a, by obtain ⟨j, hj, hc⟩ := ho.c; exact ⟨j, hj, by rw [List.getElem?_append_left (by omega)]; exact hc⟩, ho.by'⟩
    show HopOk l fl (s.1 ++ [x]) i y ((s.2.set x.toNat p).getD y.toNat h0)
    rw [getD_setI (by omega)]
    rcases Nat.lt_or_ge i s.1.length with hlt | hge
    · have hy' : s.1[i]? = some y := by
        have : (s.1 ++ [x])[i]? = some y := hy
        rwa [List.getElem?_append_left hlt] at this
      have hym := List.mem_of_getElem? hy'
      have := h.range y hym
      rw [if_neg (fun e => hn (by have : x = y := by omega
                                  rw [this]; exact hym))]
      exact old (h.hop i y hi hy') (by omega)
    · have hy' : (s.1 ++ [x])[i]? = some y := hy
      rw [List.getElem?_append_right hge] at hy'
      have hi0 : i - s.1.length = 0 := by
        have := (List.getElem?_eq_some_iff.1 hy').1
        simp at this; omega
      rw [hi0] at hy'
      simp at hy'; subst hy'
      rw [if_pos rfl]
      have : i = s.1.length := by omega
      subst this
      exact old hp (Nat.le_refl _)

theorem RInv.step {l : List S3} {fl : List Int} {u : Int} {s : Seen} (hg : goodPipes l = true) (h : RInv l fl u s) {i : Nat} {v : Int} (hv : s.1[i]? = some v) {k : Nat} (hk : k < l.length) : RInv l fl u (stp l fl v s k) := by
  have gp := goodPipes_at hg hk
  have hi := (List.getElem?_eq_some_iff.1 hv).1
  unfold stp
  split
  · rename_i hc
    split
    · exact h
    · rename_i hn
      exact h.add gp.2.1 (fun e => hn (hasB_iff.2 e)) ⟨⟨by simp, by simpa using hk⟩, ⟨i, hi, hv⟩, .inl ⟨rfl, by simpa using hc.1, by simp, by simpa using hc.2⟩⟩
  · split
    · rename_i hc
      split
      · exact h
      · rename_i hn
        exact h.add gp.1 (fun e => hn (hasB_iff.2 e)) ⟨⟨by simp, by simpa using hk⟩, ⟨i, hi, hv⟩, .inr ⟨rfl, by simpa using hc.1, by simp, by simpa using hc.2⟩⟩
    · exact h

theorem stp_keeps (l : List S3) (fl : List Int) (v : Int) (s : Seen) (k : Nat) {i : Nat} {x : Int} (h : s.1[i]? = some x) : (stp l fl v s k).1[i]? = some x := by
  have hi := (List.getElem?_eq_some_iff.1 h).1
  unfold stp
  split
  · split
    · exact h
    · show (s.1 ++ [_])[i]? = _; rw [List.getElem?_append_left hi]; exact h
  · split
    · split
      · exact h
      · show (s.1 ++ [_])[i]? = _; rw [List.getElem?_append_left hi]; exact h
    · exact h

theorem RInv.inner {l : List S3} {fl : List Int} {u : Int} {s : Seen} (hg : goodPipes l = true) (h : RInv l fl u s) {i : Nat} {v : Int} (hv : s.1[i]? = some v) : ∀ k, k ≤ l.length → RInv l fl u (foldN (stp l fl v) s k) ∧ (foldN (stp l fl v) s k).1[i]? = some v
  | 0, _ => ⟨h, hv⟩
  | k + 1, hk => by
    obtain ⟨h1, h2⟩ := RInv.inner hg h hv k (by omega)
    exact ⟨h1.step hg h2 hk, stp_keeps _ _ _ _ _ h2⟩

theorem nodup_len : ∀ (n : Nat) (l : List Int), l.Nodup → (∀ x ∈ l, 0 ≤ x ∧ x < n) → l.length ≤ n
  | 0, l, _, h => by
    cases l with
    | nil => simp
    | cons a r => have := h a (by simp); omega
  | n + 1, l, hn, h => by
    by_cases hm : (n : Int) ∈ l
    · have ih := nodup_len n (l.erase n) (hn.erase _) (fun x hx => by
        have h1 := (hn.mem_erase_iff.1 hx)
        have := h x h1.2
        have := h1.1
        omega)
      rw [List.length_erase_of_mem hm] at ih
      omega
    · have ih := nodup_len n l hn (fun x hx => by
        have := h x hx
        have : x ≠ n := fun e => hm (e ▸ hx)
        omega)
      omega
theorem RInv.len {l : List S3} {fl : List Int} {u : Int} {s : Seen} (h : RInv l fl u s) : s.1.length ≤ 8 :=
  nodup_len 8 s.1 h.nodup fun x hx => by have := h.range x hx; omega

theorem RInv.outer {l : List S3} {fl : List Int} {u : Int} (hg : goodPipes l = true) (hu : 0 ≤ u ∧ u ≤ 7) : ∀ i, RInv l fl u (srchN l fl u i)
  | 0 => RInv.start l fl hu
  | i + 1 => by
    have ih := RInv.outer (fl := fl) hg hu i
    show RInv l fl u (rnd l fl (srchN l fl u i) i)
    unfold rnd
    split
    · rename_i hlt
      exact (ih.inner hg (v := (srchN l fl u i).1.getD i 0) (by rw [List.getElem?_eq_getElem hlt, getD_get hlt]) l.length (Nat.le_refl _)).1
    · exact ih

theorem srchN_stop {l : List S3} {fl : List Int} {u : Int} {i : Nat} (h : (srchN l fl u i).1.length ≤ i) : ∀ d, srchN l fl u (i + d) = srchN l fl u i
  | 0 => rfl
  | d + 1 => by
    have ih := srchN_stop h d
    show rnd l fl (srchN l fl u (i + d)) (i + d) = _
    rw [ih, rnd, if_neg (by omega)]
theorem srch_end {l : List S3} {fl : List Int} {u : Int} {i : Nat} (hi : i ≤ 8) (h : (srchN l fl u i).1.length ≤ i) : srchN l fl u i = srch l fl u := by
  have := srchN_stop h (8 - i)
  rw [show i + (8 - i) = 8 by omega] at this
  exact this.symm

/-- By which pipe each node was reached; -1: by none; -2: the first one. -/
def byOf (u : Int) (s : Seen) : List Int := (List.range 8).map fun (n : Nat) => if (n : Int) = u then -2 else if hasB s.1 (n : Int) = true then (s.2.getD n h0).a else -1
theorem byOf_len (u : Int) (s : Seen) : (byOf u s).length = 8 := by simp [byOf]
theorem byOf_get {u : Int} {s : Seen} {n : Nat} (hn : n < 8) : (byOf u s).getD n 0 = if (n : Int) = u then -2 else if hasB s.1 (n : Int) = true then (s.2.getD n h0).a else -1 := by
  simp [byOf, hn]
theorem RInv.by_none {l : List S3} {fl : List Int} {u : Int} {s : Seen} (h : RInv l fl u s) {x : Int} (hx : 0 ≤ x ∧ x ≤ 7) : (byOf u s).getD x.toNat 0 = -1 ↔ hasB s.1 x = false := by
  have hu : u ∈ s.1 := List.mem_of_getElem? h.head
  rw [byOf_get (by omega), Int.toNat_of_nonneg hx.1]
  by_cases e : x = u
  · subst e
    rw [if_pos rfl]
    have := hasB_iff.2 hu
    rw [this]; simp
  · rw [if_neg e]
    cases hb : hasB s.1 x with
    | false => simp
    | true =>
      obtain ⟨i, hi⟩ := List.mem_iff_getElem?.1 (hasB_iff.1 hb)
      have hi0 : 0 < i := Nat.pos_of_ne_zero fun e0 => by
        subst e0; rw [h.head] at hi; exact e (Option.some.inj hi).symm
      have := (h.hop i x hi0 hi).a
      simp only [if_true, reduceCtorEq, iff_false]
      omega
theorem byOf_start {u : Int} (hu : 0 ≤ u ∧ u ≤ 7) : byOf u (seen0 u) = (List.replicate 8 (-1)).set u.toNat (-2) := by
  have : u = 0 ∨ u = 1 ∨ u = 2 ∨ u = 3 ∨ u = 4 ∨ u = 5 ∨ u = 6 ∨ u = 7 := by omega
  rcases this with rfl | rfl | rfl | rfl | rfl | rfl | rfl | rfl <;> decide
theorem RInv.by_add {l : List S3} {fl : List Int} {u : Int} {s : Seen} (h : RInv l fl u s) {x : Int} {p : Hop} (hx : 0 ≤ x ∧ x ≤ 7) (hn : x ∉ s.1) : byOf u (s.1 ++ [x], s.2.set x.toNat p) = (byOf u s).set x.toNat p.a := by
  have hu : u ∈ s.1 := List.mem_of_getElem? h.head
  have hxu : x ≠ u := fun e => hn (e ▸ hu)
  have h8 := h.hlen
  apply List.ext_getElem
  · simp [byOf]
  · intro n h1 h2
    have hn8 : n < 8 := by rw [byOf_len] at h1; exact h1
    rw [List.getElem_set, ← getD_get (d := 0) h1, byOf_get hn8]
    show (if (n : Int) = u then -2 else if hasB (s.1 ++ [x]) n = true then ((s.2.set x.toNat p).getD n h0).a else -1) = _
    rw [getD_setI (by omega)]
    by_cases e : x.toNat = n
    · rw [if_pos e, if_pos e, if_neg (by omega), if_pos (hasB_iff.2 (by have : (n : Int) = x := by omega
                                                                        rw [this]; simp))]
    · rw [if_neg e, if_neg e, ← getD_get (d := 0) (by rw [byOf_len]; exact hn8), byOf_get hn8]
      have : hasB (s.1 ++ [x]) n = hasB s.1 n := by
        have hne : ¬ (n : Int) = x := by omega
        rw [Bool.eq_iff_iff, hasB_iff, hasB_iff]
        simp [hne]
      rw [this]

/-- What is reached when k pipes were looked at from the i-th node. -/
def innerN (l : List S3) (fl : List Int) (u : Int) (i k : Nat) : Seen := foldN (stp l fl ((srchN l fl u i).1.getD i 0)) (srchN l fl u i) k
theorem innerN_succ (l : List S3) (fl : List Int) (u : Int) (i k : Nat) : innerN l fl u i (k + 1) = stp l fl ((srchN l fl u i).1.getD i 0) (innerN l fl u i k) k := rfl
theorem srchN_zero (l : List S3) (fl : List Int) (u : Int) : srchN l fl u 0 = ([u], List.replicate 8 ⟨0, false, 0⟩) := rfl
theorem innerN_zero (l : List S3) (fl : List Int) (u : Int) (i : Nat) : innerN l fl u i 0 = srchN l fl u i := rfl
theorem byOf_zero (l : List S3) (fl : List Int) {u : Int} (hu : 0 ≤ u ∧ u ≤ 7) : byOf u (srchN l fl u 0) = (List.replicate 8 (-1)).set u.toNat (-2) := byOf_start hu
theorem innerN_all {l : List S3} {fl : List Int} {u : Int} {i : Nat} (h : i < (srchN l fl u i).1.length) : innerN l fl u i l.length = srchN l fl u (i + 1) := by
  show _ = rnd l fl (srchN l fl u i) i
  rw [rnd, if_pos h]; rfl
theorem inner_inv {l : List S3} {fl : List Int} {u : Int} (hg : goodPipes l = true) (hu : 0 ≤ u ∧ u ≤ 7) {i : Nat} (hi : i < (srchN l fl u i).1.length) {k : Nat} (hk : k ≤ l.length) :
    RInv l fl u (innerN l fl u i k) ∧ (innerN l fl u i k).1[i]? = some ((srchN l fl u i).1.getD i 0) :=
  (RInv.outer hg hu i).inner hg (v := (srchN l fl u i).1.getD i 0) (by rw [List.getElem?_eq_getElem hi, getD_get hi]) k hk
theorem inner_at {l : List S3} {fl : List Int} {u : Int} (hg : goodPipes l = true) (hu : 0 ≤ u ∧ u ≤ 7) {i : Nat} (hi : i < (srchN l fl u i).1.length) {k : Nat} (hk : k ≤ l.length) :
    i < (innerN l fl u i k).1.length ∧ (innerN l fl u i k).1.getD i 0 = (srchN l fl u i).1.getD i 0 := by
  have h := (inner_inv (fl := fl) hg hu hi hk).2
  have h1 := (List.getElem?_eq_some_iff.1 h).1
  refine ⟨h1, ?_⟩
  rw [getD_get h1]
  rw [List.getElem?_eq_getElem h1] at h
  exact Option.some.inj h
section
variable {l : List S3} {fl : List Int} {u : Int}
theorem step_next (hg : goodPipes l = true) (hc : AllTo (capB l fl) l.length l.length) {k : Nat} (hk : k < l.length) (v : Int) (s : Seen) :
    0 ≤ nextV (l.getD k ⟨0, 0, 0⟩) v ∧ nextV (l.getD k ⟨0, 0, 0⟩) v ≤ 7 ∧ (roomV (l.getD k ⟨0, 0, 0⟩) (fl.getD k 0) v ≤ 0 → stp l fl v s k = s) ∧
    (0 < roomV (l.getD k ⟨0, 0, 0⟩) (fl.getD k 0) v → hasB s.1 (nextV (l.getD k ⟨0, 0, 0⟩) v) = true → stp l fl v s k = s) ∧
    (0 < roomV (l.getD k ⟨0, 0, 0⟩) (fl.getD k 0) v → hasB s.1 (nextV (l.getD k ⟨0, 0, 0⟩) v) = false → stp l fl v s k = (s.1 ++ [nextV (l.getD k ⟨0, 0, 0⟩) v], s.2.set (nextV (l.getD k ⟨0, 0, 0⟩) v).toNat ⟨k, decide ((l.getD k ⟨0, 0, 0⟩).a = v), v⟩)) := by
  have gp := goodPipes_at hg hk
  have hcap := capB_iff.1 (hc.2 k hk)
  unfold nextV roomV stp
  by_cases e1 : (l.getD k ⟨0, 0, 0⟩).a = v
  · have e2 : ¬ (l.getD k ⟨0, 0, 0⟩).b = v := by omega
    simp only [e1, if_true, true_and, e2, false_and, if_false, decide_true]
    refine ⟨by omega, by omega, fun h => by rw [if_neg (by omega)], fun h hb => by rw [if_pos (by omega), if_pos hb], fun h hb => by rw [if_pos (by omega), if_neg (by rw [hb]; simp)]⟩
  · simp only [e1, false_and, if_false, decide_false]
    by_cases e2 : (l.getD k ⟨0, 0, 0⟩).b = v
    · simp only [e2, if_true, true_and]
      refine ⟨by omega, by omega, fun h => by rw [if_neg (by omega)], fun h hb => by rw [if_pos (by omega), if_pos hb], fun h hb => by rw [if_pos (by omega), if_neg (by rw [hb]; simp)]⟩
    · simp only [e2, if_false, false_and]
      exact ⟨by omega, by omega, fun _ => trivial, fun h => by omega, fun h => by omega⟩
end
theorem sub_snoc {α : Type} {L : List α} {n : Nat} (h : L.length = n) (x : α) : sub L 0 n ++ sub [x] 0 1 = L ++ [x] := by
  rw [sub_zero, List.take_of_length_le (by omega)]; rfl

section
variable {l : List S3} {fl : List Int} {u : Int} {i k : Nat}
theorem inner_stay1 (h1 : (l.getD k ⟨0, 0, 0⟩).a = (srchN l fl u i).1.getD i 0) (h2 : fl.getD k 0 < (l.getD k ⟨0, 0, 0⟩).c) (h3 : hasB (innerN l fl u i k).1 (l.getD k ⟨0, 0, 0⟩).b = true) : innerN l fl u i (k + 1) = innerN l fl u i k := by
  rw [innerN_succ, stp, if_pos ⟨h1, h2⟩, if_pos h3]
theorem inner_on1 (h1 : (l.getD k ⟨0, 0, 0⟩).a = (srchN l fl u i).1.getD i 0) (h2 : fl.getD k 0 < (l.getD k ⟨0, 0, 0⟩).c) (h3 : hasB (innerN l fl u i k).1 (l.getD k ⟨0, 0, 0⟩).b = false) :
    innerN l fl u i (k + 1) = ((innerN l fl u i k).1 ++ [(l.getD k ⟨0, 0, 0⟩).b], (innerN l fl u i k).2.set (l.getD k ⟨0, 0, 0⟩).b.toNat ⟨k, true, (srchN l fl u i).1.getD i 0⟩) := by
  rw [innerN_succ, stp, if_pos ⟨h1, h2⟩, if_neg (by rw [h3]; simp)]
theorem inner_stay2 (hne : (l.getD k ⟨0, 0, 0⟩).a ≠ (l.getD k ⟨0, 0, 0⟩).b) (h1 : (l.getD k ⟨0, 0, 0⟩).b = (srchN l fl u i).1.getD i 0) (h2 : 0 < fl.getD k 0) (h3 : hasB (innerN l fl u i k).1 (l.getD k ⟨0, 0, 0⟩).a = true) : innerN l fl u i (k + 1) = innerN l fl u i k := by
  rw [innerN_succ, stp, if_neg (fun h => hne (h.1.trans h1.symm)), if_pos ⟨h1, h2⟩, if_pos h3]
theorem inner_on2 (hne : (l.getD k ⟨0, 0, 0⟩).a ≠ (l.getD k ⟨0, 0, 0⟩).b) (h1 : (l.getD k ⟨0, 0, 0⟩).b = (srchN l fl u i).1.getD i 0) (h2 : 0 < fl.getD k 0) (h3 : hasB (innerN l fl u i k).1 (l.getD k ⟨0, 0, 0⟩).a = false) :
    innerN l fl u i (k + 1) = ((innerN l fl u i k).1 ++ [(l.getD k ⟨0, 0, 0⟩).a], (innerN l fl u i k).2.set (l.getD k ⟨0, 0, 0⟩).a.toNat ⟨k, false, (srchN l fl u i).1.getD i 0⟩) := by
  rw [innerN_succ, stp, if_neg (fun h => hne (h.1.trans h1.symm)), if_pos ⟨h1, h2⟩, if_neg (by rw [h3]; simp)]
theorem inner_stay3 (h1 : ¬ ((l.getD k ⟨0, 0, 0⟩).a = (srchN l fl u i).1.getD i 0 ∧ fl.getD k 0 < (l.getD k ⟨0, 0, 0⟩).c)) (h2 : ¬ ((l.getD k ⟨0, 0, 0⟩).b = (srchN l fl u i).1.getD i 0 ∧ 0 < fl.getD k 0)) : innerN l fl u i (k + 1) = innerN l fl u i k := by
  rw [innerN_succ, stp, if_neg h1, if_neg h2]
end

/-! ### The row back -/
theorem nodup_inj {q : List Int} (hn : q.Nodup) {i j : Nat} {h1 : i < q.length} {h2 : j < q.length} : q[i] = q[j] ↔ i = j := by
  constructor
  · intro e
    have hp := List.pairwise_iff_getElem.1 hn
    rcases Nat.lt_trichotomy i j with h | h | h
    · exact absurd e (hp i j h1 h2 h)
    · exact h
    · exact absurd e.symm (hp j i h2 h1 h)
  · rintro rfl; rfl

/-- The node that is k hops back. -/
def nodeN (h : List Hop) (x : Int) (k : Nat) : Int := foldN (fun n _ => (h.getD n.toNat h0).c) x k
theorem nodeN_succ (h : List Hop) (x : Int) (k : Nat) : nodeN h x (k + 1) = (h.getD (nodeN h x k).toNat h0).c := rfl
theorem nodeN_shift (h : List Hop) (x : Int) : ∀ k, nodeN h x (k + 1) = nodeN h (h.getD x.toNat h0).c k
  | 0 => rfl
  | k + 1 => by rw [nodeN_succ, nodeN_shift h x k, ← nodeN_succ]
/-- How many hops it is back. -/
def dist (h : List Hop) (u x : Int) : Nat := ((List.range 8).find? fun k => decide (nodeN h x k = u)).getD 8

theorem find_first {p : Nat → Bool} {d n : Nat} (hd : d < n) (hp : p d = true) (hb : ∀ k, k < d → p k = false) : (List.range n).find? p = some d := by
  rw [List.find?_range_eq_some]
  exact ⟨hp, List.mem_range.2 hd, fun j hj => by simp [hb j hj]⟩

theorem RInv.back {l : List S3} {fl : List Int} {u : Int} {s : Seen} (h : RInv l fl u s) : ∀ (i : Nat) (x : Int), s.1[i]? = some x → ∃ d, d ≤ i ∧ nodeN s.2 x d = u ∧ ∀ k, k < d → nodeN s.2 x k ≠ u ∧ ∃ j, 0 < j ∧ j < s.1.length ∧ s.1[j]? = some (nodeN s.2 x k) := by
  intro i
  induction i using Nat.strongRecOn with
  | ind i ih =>
    intro x hx
    rcases Nat.eq_zero_or_pos i with rfl | hi
    · rw [h.head] at hx; cases hx
      exact ⟨0, Nat.le_refl _, rfl, fun k hk => by omega⟩
    · obtain ⟨j, hj, hc⟩ := (h.hop i x hi hx).c
      obtain ⟨d, h1, h2, h3⟩ := ih j hj _ hc
      have hlt := (List.getElem?_eq_some_iff.1 hx).1
      refine ⟨d + 1, by omega, by rw [nodeN_shift]; exact h2, fun k hk => ?_⟩
      cases k with
      | zero =>
        refine ⟨fun e => ?_, i, hi, hlt, hx⟩
        have e : x = u := e
        subst e
        have h00 := h.head
        have := (List.getElem?_eq_some_iff.1 h00).1
        have e2 : s.1[0] = s.1[i] := by
          rw [List.getElem?_eq_getElem this] at h00
          rw [List.getElem?_eq_getElem hlt] at hx
          rw [Option.some.inj h00, Option.some.inj hx]
        have := (nodup_inj h.nodup).1 e2
        omega
      | succ k =>
        rw [nodeN_shift]
        exact h3 k (by omega)

/-- The row back from a node that was reached. -/
structure Path (l : List S3) (fl : List Int) (u t : Int) (s : Seen) (D : Nat) : Prop where
  inv : RInv l fl u s
  D7 : D ≤ 7
  last : nodeN s.2 t D = u
  mid : ∀ k, k < D → nodeN s.2 t k ≠ u ∧ ∃ j, 0 < j ∧ j < s.1.length ∧ s.1[j]? = some (nodeN s.2 t k)

theorem RInv.path {l : List S3} {fl : List Int} {u t : Int} {s : Seen} (h : RInv l fl u s) (ht : hasB s.1 t = true) : Path l fl u t s (dist s.2 u t) := by
  obtain ⟨i, hi⟩ := List.mem_iff_getElem?.1 (hasB_iff.1 ht)
  obtain ⟨d, h1, h2, h3⟩ := h.back i t hi
  have hlt := (List.getElem?_eq_some_iff.1 hi).1
  have := h.len
  have : dist s.2 u t = d := by
    unfold dist
    rw [find_first (d := d) (by omega) (by simpa using h2) (fun k hk => by simpa using (h3 k hk).1)]; rfl
  rw [this]
  exact ⟨h, by omega, h2, h3⟩

section
variable {l : List S3} {fl : List Int} {u t : Int} {s : Seen} {D : Nat}

abbrev hopN (h : List Hop) (t : Int) (k : Nat) : Hop := h.getD (nodeN h t k).toNat h0

theorem Path.hop (p : Path l fl u t s D) {k : Nat} (hk : k < D) : ∃ i, s.1[i]? = some (nodeN s.2 t k) ∧ i < s.1.length ∧ HopOk l fl s.1 i (nodeN s.2 t k) (hopN s.2 t k) := by
  obtain ⟨_, j, hj, hlt, hx⟩ := p.mid k hk
  exact ⟨j, hx, hlt, p.inv.hop j _ hj hx⟩

theorem Path.range (p : Path l fl u t s D) {k : Nat} (hk : k ≤ D) : 0 ≤ nodeN s.2 t k ∧ nodeN s.2 t k ≤ 7 := by
  rcases Nat.lt_or_ge k D with hlt | hge
  · obtain ⟨_, j, _, _, hx⟩ := p.mid k hlt
    exact p.inv.range _ (List.mem_of_getElem? hx)
  · obtain rfl : k = D := by omega
    rw [p.last]; exact p.inv.range _ (List.mem_of_getElem? p.inv.head)

theorem Path.at_end (p : Path l fl u t s D) {k : Nat} (hk : k ≤ D) : nodeN s.2 t k = u ↔ k = D := by
  constructor
  · intro e
    rcases Nat.lt_or_ge k D with hlt | hge
    · exact absurd e (p.mid k hlt).1
    · omega
  · rintro rfl; exact p.last

theorem idx_inj {q : List Int} (hn : q.Nodup) {i j : Nat} {x : Int} (hi : q[i]? = some x) (hj : q[j]? = some x) : i = j := by
  have h1 := (List.getElem?_eq_some_iff.1 hi).1
  have h2 := (List.getElem?_eq_some_iff.1 hj).1
  rw [List.getElem?_eq_getElem h1] at hi
  rw [List.getElem?_eq_getElem h2] at hj
  exact (nodup_inj hn).1 ((Option.some.inj hi).trans (Option.some.inj hj).symm)

/-- Positions sink along the row back. -/
theorem Path.pos (p : Path l fl u t s D) : ∃ r : Nat → Nat, (∀ k, k ≤ D → s.1[r k]? = some (nodeN s.2 t k)) ∧ ∀ i j, i < j → j ≤ D → r j < r i := by
  have ex : ∀ k, ∃ i, k ≤ D → s.1[i]? = some (nodeN s.2 t k) := fun k => by
    by_cases hk : k < D
    · obtain ⟨i, hi, _⟩ := p.hop hk; exact ⟨i, fun _ => hi⟩
    · refine ⟨0, fun hk' => ?_⟩
      obtain rfl : k = D := by omega
      rw [p.last]; exact p.inv.head
  refine ⟨fun k => Classical.choose (ex k), fun k hk => Classical.choose_spec (ex k) hk, ?_⟩
  have one : ∀ k, k < D → Classical.choose (ex (k + 1)) < Classical.choose (ex k) := fun k hk => by
    obtain ⟨i, hi, _, ho⟩ := p.hop hk
    obtain ⟨j, hj, hc⟩ := ho.c
    have h1 := Classical.choose_spec (ex k) (by omega)
    have h2 := Classical.choose_spec (ex (k + 1)) (by omega)
    have e1 := idx_inj p.inv.nodup h1 hi
    have e2 := idx_inj p.inv.nodup h2 hc
    omega
  intro i j hij hj
  show Classical.choose (ex j) < Classical.choose (ex i)
  induction j with
  | zero => omega
  | succ j ih =>
    have := one j (by omega)
    rcases Nat.lt_or_ge i j with h | h
    · have := ih h (by omega); omega
    · have : i = j := by omega
      subst this; assumption

/-- No pipe lies twice on the row back. -/
theorem Path.apart (p : Path l fl u t s D) {i j : Nat} (hij : i < j) (hj : j < D) : (hopN s.2 t i).a.toNat ≠ (hopN s.2 t j).a.toNat := fun e => by
  obtain ⟨r, hr, hd⟩ := p.pos
  obtain ⟨_, _, _, hi⟩ := p.hop (k := i) (by omega)
  obtain ⟨_, _, _, hj'⟩ := p.hop hj
  have ne : ∀ k, i < k → k ≤ D → nodeN s.2 t k ≠ nodeN s.2 t i := fun k hk hkD e => by
    have h1 := hr k hkD
    have h2 := hr i (by omega)
    rw [e] at h1
    have := idx_inj p.inv.nodup h1 h2
    have := hd i k hk hkD
    omega
  have n1 := ne j hij (by omega)
  have n2 := ne (j + 1) (by omega) (by omega)
  rw [nodeN_succ] at n2
  rcases hi.by' with ⟨_, a1, a2, _⟩ | ⟨_, a1, a2, _⟩ <;> rcases hj'.by' with ⟨_, b1, b2, _⟩ | ⟨_, b1, b2, _⟩ <;> rw [← e] at b1 b2
  · exact n1 (b2.symm.trans a2)
  · exact n2 (b1.symm.trans a2)
  · exact n2 (b1.symm.trans a2)
  · exact n1 (b2.symm.trans a2)

/-! ### What the row bears, and what comes of it -/
def room (l : List S3) (fl : List Int) (p : Hop) : Int := if p.b = true then (l.getD p.a.toNat ⟨0, 0, 0⟩).c - fl.getD p.a.toNat 0 else fl.getD p.a.toNat 0
def minN (l : List S3) (fl : List Int) (h : List Hop) (t : Int) (k : Nat) : Int := foldN (fun m j => min m (room l fl (hopN h t j))) 1000 k
def mostN (l : List S3) (fl : List Int) (h : List Hop) (t : Int) (k : Nat) : Int := foldN (fun m j => if m = 0 ∨ room l fl (hopN h t j) < m then room l fl (hopN h t j) else m) 0 k
def upN (fl : List Int) (h : List Hop) (t m : Int) (k : Nat) : List Int := foldN (fun g j => g.set (hopN h t j).a.toNat (g.getD (hopN h t j).a.toNat 0 + if (hopN h t j).b = true then m else -m)) fl k

theorem Path.room (p : Path l fl u t s D) (hg : goodPipes l = true) (hc : AllTo (capB l fl) l.length l.length) {k : Nat} (hk : k < D) : 1 ≤ YtafalojjbghlhaaAM.room l fl (hopN s.2 t k) ∧ YtafalojjbghlhaaAM.room l fl (hopN s.2 t k) ≤ 100 ∧ (hopN s.2 t k).a.toNat < l.length := by
  obtain ⟨_, _, _, ho⟩ := p.hop hk
  have ha := ho.a
  have hlt : (hopN s.2 t k).a.toNat < l.length := by omega
  have gp := goodPipes_at hg hlt
  have hcap := capB_iff.1 (hc.2 _ hlt)
  refine ⟨?_, ?_, hlt⟩ <;> unfold YtafalojjbghlhaaAM.room <;> rcases ho.by' with ⟨b, _, _, h4⟩ | ⟨b, _, _, h4⟩ <;> rw [b] <;> simp only [if_true, Bool.false_eq_true, if_false] <;> omega

theorem Path.min_range (p : Path l fl u t s D) (hg : goodPipes l = true) (hc : AllTo (capB l fl) l.length l.length) : ∀ k, k ≤ D → 1 ≤ minN l fl s.2 t k ∧ minN l fl s.2 t k ≤ 1000 ∧ (∀ j, j < k → minN l fl s.2 t k ≤ YtafalojjbghlhaaAM.room l fl (hopN s.2 t j)) ∧ (0 < k → mostN l fl s.2 t k = minN l fl s.2 t k)
  | 0, _ => ⟨by show (1 : Int) ≤ 1000; decide, by show (1000 : Int) ≤ 1000; decide, fun j hj => by omega, fun h => by omega⟩
  | k + 1, hk => by
    obtain ⟨h1, h2, h3, h4⟩ := Path.min_range p hg hc k (by omega)
    have hr := p.room hg hc (k := k) (by omega)
    have e : minN l fl s.2 t (k + 1) = min (minN l fl s.2 t k) (YtafalojjbghlhaaAM.room l fl (hopN s.2 t k)) := rfl
    have e' : mostN l fl s.2 t (k + 1) = if mostN l fl s.2 t k = 0 ∨ YtafalojjbghlhaaAM.room l fl (hopN s.2 t k) < mostN l fl s.2 t k then YtafalojjbghlhaaAM.room l fl (hopN s.2 t k) else mostN l fl s.2 t k := rfl
    rw [e, e']
    refine ⟨by omega, by omega, fun j hj => ?_, fun _ => ?_⟩
    · rcases Nat.lt_or_ge j k with hc | hc
      · have := h3 j hc; omega
      · have : j = k := by omega
        subst this; omega
    · rcases Nat.eq_zero_or_pos k with rfl | hk0
      · rw [if_pos (.inl rfl)]
        have : minN l fl s.2 t 0 = 1000 := rfl
        omega
      · rw [h4 hk0]
        split
        · rename_i hx; rcases hx with hx | hx <;> omega
        · rename_i hx; omega

def ind (x n : Int) : Int := if x = n then 1 else 0

theorem outN_set (l : List S3) (g : List Int) (p : Nat) (x n : Int) (hp : p < g.length) : ∀ k, outN l (g.set p x) n k = outN l g n k + if p < k then (x - g.getD p 0) * (ind ((l.getD p ⟨0, 0, 0⟩).a) n - ind ((l.getD p ⟨0, 0, 0⟩).b) n) else 0
  | 0 => by simp [outN, foldN]
  | k + 1 => by
    have ih := outN_set l g p x n hp k
    rw [outN_succ, outN_succ, ih]
    simp only [outStep]
    rw [getD_setI hp]
    by_cases e : p = k
    · subst e
      rw [if_neg (Nat.lt_irrefl _), if_pos rfl, if_pos (Nat.lt_succ_self _)]
      simp only [ind]
      by_cases c1 : (l.getD p ⟨0, 0, 0⟩).a = n <;> by_cases c2 : (l.getD p ⟨0, 0, 0⟩).b = n <;> simp only [c1, c2, if_true, if_false] <;> omega
    · rw [if_neg e]
      generalize (x - g.getD p 0) * (ind (l.getD p ⟨0, 0, 0⟩).a n - ind (l.getD p ⟨0, 0, 0⟩).b n) = z
      by_cases e2 : p < k
      · rw [if_pos e2, if_pos (show p < k + 1 by omega)]
        by_cases c1 : (l.getD k ⟨0, 0, 0⟩).a = n <;> by_cases c2 : (l.getD k ⟨0, 0, 0⟩).b = n <;> simp only [c1, c2, if_true, if_false] <;> omega
      · rw [if_neg e2, if_neg (show ¬ p < k + 1 by omega)]
        by_cases c1 : (l.getD k ⟨0, 0, 0⟩).a = n <;> by_cases c2 : (l.getD k ⟨0, 0, 0⟩).b = n <;> simp only [c1, c2, if_true, if_false] <;> omega

theorem upN_len (fl : List Int) (h : List Hop) (t m : Int) : ∀ k, (upN fl h t m k).length = fl.length
  | 0 => rfl
  | k + 1 => by
    show (List.set _ _ _).length = _
    rw [List.length_set]; exact upN_len fl h t m k

/-- A row's flow put on: within the caps, and out of each node goes what went, but at the ends. -/
theorem Path.up (p : Path l fl u t s D) (hg : goodPipes l = true) (hlen : fl.length = l.length) (hc : AllTo (capB l fl) l.length l.length) {m : Int} (hm : 0 ≤ m) (hmr : ∀ j, j < D → m ≤ YtafalojjbghlhaaAM.room l fl (hopN s.2 t j)) : ∀ k, k ≤ D →
    AllTo (capB l (upN fl s.2 t m k)) l.length l.length ∧ (∀ j, k ≤ j → j < D → (upN fl s.2 t m k).getD (hopN s.2 t j).a.toNat 0 = fl.getD (hopN s.2 t j).a.toNat 0) ∧
    ∀ n, outM l (upN fl s.2 t m k) n = outM l fl n + m * (ind (nodeN s.2 t k) n - ind t n)
  | 0, _ => ⟨hc, fun _ _ _ => rfl, fun n => by
    have : nodeN s.2 t 0 = t := rfl
    rw [this, Int.sub_self, Int.mul_zero, Int.add_zero]; rfl⟩
  | k + 1, hk => by
    obtain ⟨h1, h2, h3⟩ := Path.up p hg hlen hc hm hmr k (by omega)
    have hr := p.room hg hc (k := k) (by omega)
    have hmk := hmr k (by omega)
    have hl := upN_len fl s.2 t m k
    have hcur := h2 k (Nat.le_refl _) (by omega)
    obtain ⟨_, _, _, ho⟩ := p.hop (k := k) (by omega)
    have hcap := capB_iff.1 (hc.2 _ hr.2.2)
    have gp := goodPipes_at hg hr.2.2
    have e : upN fl s.2 t m (k + 1) = (upN fl s.2 t m k).set (hopN s.2 t k).a.toNat ((upN fl s.2 t m k).getD (hopN s.2 t k).a.toNat 0 + if (hopN s.2 t k).b = true then m else -m) := rfl
    rw [e]
    refine ⟨⟨Nat.le_refl _, fun j hj => ?_⟩, fun j hkj hj => ?_, fun n => ?_⟩
    · rw [capB_iff, getD_setI (by omega)]
      by_cases ej : (hopN s.2 t k).a.toNat = j
      · rw [if_pos ej, hcur]
        subst ej
        unfold YtafalojjbghlhaaAM.room at hmk
        rcases ho.by' with ⟨b, _, _, h4⟩ | ⟨b, _, _, h4⟩ <;> rw [b] at hmk ⊢ <;> simp only [if_true, Bool.false_eq_true, if_false] at hmk ⊢ <;> omega
      · rw [if_neg ej]; exact capB_iff.1 (h1.2 j hj)
    · rw [getD_setI (by omega), if_neg (p.apart (by omega) hj)]
      exact h2 j (by omega) hj
    · have := outN_set l (upN fl s.2 t m k) (hopN s.2 t k).a.toNat ((upN fl s.2 t m k).getD (hopN s.2 t k).a.toNat 0 + if (hopN s.2 t k).b = true then m else -m) n (by omega) l.length
      rw [if_pos hr.2.2] at this
      show outN _ _ _ _ = _
      rw [this]
      have h3n := h3 n
      unfold outM at h3n
      rw [h3n]
      show _ = outN l fl n l.length + m * (ind ((hopN s.2 t k).c) n - ind t n)
      have hx : ∀ a b c d e f : Int, a = b → c = d → a + c + e = b + d + e := fun a b c d e f h1 h2 => by rw [h1, h2]
      rcases ho.by' with ⟨b, b1, b2, _⟩ | ⟨b, b1, b2, _⟩
      · rw [b, if_pos rfl, b1, b2]
        have : ∀ x y z w : Int, x + m * (y - z) + (w + m - w) * (ind (hopN s.2 t k).c n - y) = x + m * (ind (hopN s.2 t k).c n - z) := fun x y z w => by
          rw [show w + m - w = m by omega, Int.mul_sub, Int.mul_sub, Int.mul_sub]; omega
        exact this _ _ _ _
      · rw [b, if_neg (by simp), b1, b2]
        have : ∀ x y z w : Int, x + m * (y - z) + (w + -m - w) * (y - ind (hopN s.2 t k).c n) = x + m * (ind (hopN s.2 t k).c n - z) := fun x y z w => by
          rw [show w + -m - w = -m by omega, Int.neg_mul, Int.mul_sub, Int.mul_sub, Int.mul_sub]; omega
        exact this _ _ _ _
end

/-- What is put on, by one row; 0 if there is none. -/
def augM (l : List S3) (fl : List Int) (u t : Int) : Int := if hasB (srch l fl u).1 t = true then minN l fl (srch l fl u).2 t (dist (srch l fl u).2 u t) else 0
def augF (l : List S3) (fl : List Int) (u t : Int) : List Int := if hasB (srch l fl u).1 t = true then upN fl (srch l fl u).2 t (augM l fl u t) (dist (srch l fl u).2 u t) else fl
theorem augF_len (l : List S3) (fl : List Int) (u t : Int) : (augF l fl u t).length = fl.length := by
  unfold augF
  split
  · exact upN_len _ _ _ _ _
  · rfl
theorem srch_inv {l : List S3} (fl : List Int) {u : Int} (hg : goodPipes l = true) (hu : 0 ≤ u ∧ u ≤ 7) : RInv l fl u (srch l fl u) := RInv.outer hg hu 8

theorem aug_spec {l : List S3} {fl : List Int} {u t : Int} (hg : goodPipes l = true) (hu : 0 ≤ u ∧ u ≤ 7) (hut : u ≠ t) (hlen : fl.length = l.length) (hc : AllTo (capB l fl) l.length l.length) :
    AllTo (capB l (augF l fl u t)) l.length l.length ∧ (∀ n, outM l (augF l fl u t) n = outM l fl n + augM l fl u t * (ind u n - ind t n)) ∧ 0 ≤ augM l fl u t ∧ augM l fl u t ≤ 100 ∧ (augM l fl u t = 0 ↔ hasB (srch l fl u).1 t = false) ∧ (augM l fl u t = 0 → augF l fl u t = fl) := by
  have hi := srch_inv fl hg hu
  unfold augF
  by_cases ht : hasB (srch l fl u).1 t = true
  · have p := hi.path ht
    have hD : 0 < dist (srch l fl u).2 u t := Nat.pos_of_ne_zero fun e => by
      have := p.last
      rw [e] at this
      exact hut this.symm
    have hm := p.min_range hg hc _ (Nat.le_refl _)
    have e : augM l fl u t = minN l fl (srch l fl u).2 t (dist (srch l fl u).2 u t) := by unfold augM; rw [if_pos ht]
    rw [← e] at hm
    have hup := p.up hg hlen hc (m := augM l fl u t) (by omega) hm.2.2.1 _ (Nat.le_refl _)
    rw [if_pos ht]
    have h100 := hm.2.2.1 0 hD
    have := p.room hg hc hD
    refine ⟨hup.1, fun n => ?_, by omega, by omega, ⟨fun h => by omega, fun h => by rw [ht] at h; cases h⟩, fun h => by omega⟩
    have := hup.2.2 n
    rw [p.last] at this
    exact this
  · have e : augM l fl u t = 0 := by unfold augM; rw [if_neg ht]
    rw [if_neg ht, e]
    refine ⟨hc, fun n => by simp, by omega, by omega, ⟨fun _ => by simpa using ht, fun _ => rfl⟩, fun _ => rfl⟩

/-! ### What the walks ask for -/
section
variable {l : List S3} {fl : List Int} {u t : Int}
theorem inner_yes (hg : goodPipes l = true) (hu : 0 ≤ u ∧ u ≤ 7) (hc : AllTo (capB l fl) l.length l.length) {i k : Nat} (hi : i < (srchN l fl u i).1.length) (hk : k < l.length)
    (h1 : 0 < roomV (l.getD k ⟨0, 0, 0⟩) (fl.getD k 0) ((innerN l fl u i k).1.getD i 0)) (h2 : (byOf u (innerN l fl u i k)).getD (nextV (l.getD k ⟨0, 0, 0⟩) ((innerN l fl u i k).1.getD i 0)).toNat 0 = -1) :
    (innerN l fl u i (k + 1)).1 = (innerN l fl u i k).1 ++ [nextV (l.getD k ⟨0, 0, 0⟩) ((innerN l fl u i k).1.getD i 0)] ∧
    byOf u (innerN l fl u i (k + 1)) = (byOf u (innerN l fl u i k)).set (nextV (l.getD k ⟨0, 0, 0⟩) ((innerN l fl u i k).1.getD i 0)).toNat (k : Int) := by
  have hI := (inner_inv (fl := fl) hg hu hi (k := k) (by omega)).1
  have hA := (inner_at (fl := fl) hg hu hi (k := k) (by omega)).2
  rw [hA] at h1 h2 ⊢
  obtain ⟨n1, n2, _, _, hyes⟩ := step_next hg hc hk ((srchN l fl u i).1.getD i 0) (innerN l fl u i k)
  have hb := (hI.by_none ⟨n1, n2⟩).1 h2
  have e := hyes h1 hb
  rw [innerN_succ, e]
  exact ⟨rfl, hI.by_add ⟨n1, n2⟩ (hasB_false.1 hb)⟩
theorem inner_no (hg : goodPipes l = true) (hu : 0 ≤ u ∧ u ≤ 7) (hc : AllTo (capB l fl) l.length l.length) {i k : Nat} (hi : i < (srchN l fl u i).1.length) (hk : k < l.length)
    (h : ¬ 0 < roomV (l.getD k ⟨0, 0, 0⟩) (fl.getD k 0) ((innerN l fl u i k).1.getD i 0) ∨ ¬ (byOf u (innerN l fl u i k)).getD (nextV (l.getD k ⟨0, 0, 0⟩) ((innerN l fl u i k).1.getD i 0)).toNat 0 = -1) :
    innerN l fl u i (k + 1) = innerN l fl u i k := by
  have hI := (inner_inv (fl := fl) hg hu hi (k := k) (by omega)).1
  have hA := (inner_at (fl := fl) hg hu hi (k := k) (by omega)).2
  rw [hA] at h
  obtain ⟨n1, n2, hno, hhas, _⟩ := step_next hg hc hk ((srchN l fl u i).1.getD i 0) (innerN l fl u i k)
  rw [innerN_succ]
  rcases h with h | h
  · exact hno (by omega)
  · by_cases h1 : 0 < roomV (l.getD k ⟨0, 0, 0⟩) (fl.getD k 0) ((srchN l fl u i).1.getD i 0)
    · cases hb : hasB (innerN l fl u i k).1 (nextV (l.getD k ⟨0, 0, 0⟩) ((srchN l fl u i).1.getD i 0)) with
      | true => exact hhas h1 hb
      | false => exact absurd ((hI.by_none ⟨n1, n2⟩).2 hb) h
    · exact hno (by omega)
/-- By the pipe: what is reached, and is not the first. -/
theorem RInv.by_some {s : Seen} (h : RInv l fl u s) {x : Int} (hx : hasB s.1 x = true) (hne : x ≠ u) : (byOf u s).getD x.toNat 0 = (s.2.getD x.toNat h0).a := by
  have := h.range x (hasB_iff.1 hx)
  rw [byOf_get (by omega), Int.toNat_of_nonneg this.1, if_neg hne, if_pos hx]
def augO (l : List S3) (fl : List Int) (u t : Int) : List Int := if hasB (srch l fl u).1 t = true then upN fl (srch l fl u).2 t (augM l fl u t) (dist (srch l fl u).2 u t) else []
theorem augO_eq (h : augM l fl u t ≠ 0) : augO l fl u t = augF l fl u t := by
  unfold augO augF
  split
  · rfl
  · rename_i hb
    exact absurd (by unfold augM; rw [if_neg hb]) h
theorem augO_nil (hg : goodPipes l = true) (hu : 0 ≤ u ∧ u ≤ 7) (hut : u ≠ t) (hlen : fl.length = l.length) (hc : AllTo (capB l fl) l.length l.length) (h : augM l fl u t = 0) : augO l fl u t = [] := by
  have := (aug_spec hg hu hut hlen hc).2.2.2.2.1.1 h
  unfold augO
  rw [if_neg (by rw [this]; simp)]
/-- All that a row back is known by. -/
structure Back (l : List S3) (fl : List Int) (u t : Int) (k : Nat) : Prop where
  rng : 0 ≤ nodeN (srch l fl u).2 t k ∧ nodeN (srch l fl u).2 t k ≤ 7
  fin : nodeN (srch l fl u).2 t k = u ↔ k = dist (srch l fl u).2 u t
  hl : (srch l fl u).2.length = 8
structure Mid (l : List S3) (fl : List Int) (u t : Int) (k : Nat) : Prop where
  a : 0 ≤ (hopN (srch l fl u).2 t k).a ∧ (hopN (srch l fl u).2 t k).a < l.length
  by' : (byOf u (srch l fl u)).getD (nodeN (srch l fl u).2 t k).toNat 0 = (hopN (srch l fl u).2 t k).a
  way : ((hopN (srch l fl u).2 t k).b = true ∧ (l.getD (hopN (srch l fl u).2 t k).a.toNat ⟨0, 0, 0⟩).a = nodeN (srch l fl u).2 t (k + 1) ∧ (l.getD (hopN (srch l fl u).2 t k).a.toNat ⟨0, 0, 0⟩).b = nodeN (srch l fl u).2 t k) ∨
    ((hopN (srch l fl u).2 t k).b = false ∧ (l.getD (hopN (srch l fl u).2 t k).a.toNat ⟨0, 0, 0⟩).b = nodeN (srch l fl u).2 t (k + 1) ∧ (l.getD (hopN (srch l fl u).2 t k).a.toNat ⟨0, 0, 0⟩).a = nodeN (srch l fl u).2 t k)
  room : 1 ≤ room l fl (hopN (srch l fl u).2 t k) ∧ room l fl (hopN (srch l fl u).2 t k) ≤ 100
  cap : 0 ≤ fl.getD (hopN (srch l fl u).2 t k).a.toNat 0 ∧ fl.getD (hopN (srch l fl u).2 t k).a.toNat 0 ≤ (l.getD (hopN (srch l fl u).2 t k).a.toNat ⟨0, 0, 0⟩).c
  pipe : (0 ≤ (l.getD (hopN (srch l fl u).2 t k).a.toNat ⟨0, 0, 0⟩).a ∧ (l.getD (hopN (srch l fl u).2 t k).a.toNat ⟨0, 0, 0⟩).a ≤ 7) ∧ (0 ≤ (l.getD (hopN (srch l fl u).2 t k).a.toNat ⟨0, 0, 0⟩).b ∧ (l.getD (hopN (srch l fl u).2 t k).a.toNat ⟨0, 0, 0⟩).b ≤ 7) ∧ (l.getD (hopN (srch l fl u).2 t k).a.toNat ⟨0, 0, 0⟩).a ≠ (l.getD (hopN (srch l fl u).2 t k).a.toNat ⟨0, 0, 0⟩).b ∧ 0 ≤ (l.getD (hopN (srch l fl u).2 t k).a.toNat ⟨0, 0, 0⟩).c ∧ (l.getD (hopN (srch l fl u).2 t k).a.toNat ⟨0, 0, 0⟩).c ≤ 100
  now : 0 ≤ (upN fl (srch l fl u).2 t (augM l fl u t) k).getD (hopN (srch l fl u).2 t k).a.toNat 0 ∧ (upN fl (srch l fl u).2 t (augM l fl u t) k).getD (hopN (srch l fl u).2 t k).a.toNat 0 ≤ 100
structure Most (l : List S3) (fl : List Int) (u t : Int) (k : Nat) : Prop where
  lo : 1 ≤ minN l fl (srch l fl u).2 t k
  hi : minN l fl (srch l fl u).2 t k ≤ 1000
  eq : 0 < k → mostN l fl (srch l fl u).2 t k = minN l fl (srch l fl u).2 t k
  D : 0 < dist (srch l fl u).2 u t
  aug : augM l fl u t = minN l fl (srch l fl u).2 t (dist (srch l fl u).2 u t)
  aug1 : 1 ≤ augM l fl u t ∧ augM l fl u t ≤ 100
theorem back_of (hg : goodPipes l = true) (hu : 0 ≤ u ∧ u ≤ 7) (ht : hasB (srch l fl u).1 t = true) {k : Nat} (hk : k ≤ dist (srch l fl u).2 u t) : Back l fl u t k :=
  have p := (srch_inv fl hg hu).path ht
  ⟨p.range hk, p.at_end hk, p.inv.hlen⟩
theorem most_of (hg : goodPipes l = true) (hu : 0 ≤ u ∧ u ≤ 7) (hut : u ≠ t) (hlen : fl.length = l.length) (hc : AllTo (capB l fl) l.length l.length) (ht : hasB (srch l fl u).1 t = true) {k : Nat} (hk : k ≤ dist (srch l fl u).2 u t) : Most l fl u t k := by
  have p := (srch_inv fl hg hu).path ht
  have h1 := p.min_range hg hc k hk
  have hD : 0 < dist (srch l fl u).2 u t := Nat.pos_of_ne_zero fun e => by
    have := p.last
    rw [e] at this
    exact hut this.symm
  have e : augM l fl u t = minN l fl (srch l fl u).2 t (dist (srch l fl u).2 u t) := by unfold augM; rw [if_pos ht]
  have hs := aug_spec hg hu hut hlen hc
  have h2 := p.min_range hg hc _ (Nat.le_refl _)
  exact ⟨h1.1, h1.2.1, h1.2.2.2, hD, e, by rw [e]; exact h2.1, hs.2.2.2.1⟩
theorem mid_of (hg : goodPipes l = true) (hu : 0 ≤ u ∧ u ≤ 7) (hut : u ≠ t) (hlen : fl.length = l.length) (hc : AllTo (capB l fl) l.length l.length) (ht : hasB (srch l fl u).1 t = true) {k : Nat} (hk : k < dist (srch l fl u).2 u t) : Mid l fl u t k := by
  have p := (srch_inv fl hg hu).path ht
  obtain ⟨i, hi, hil, ho⟩ := p.hop hk
  have hr := p.room hg hc hk
  have hM := most_of hg hu hut hlen hc ht (Nat.le_of_lt hk)
  have hmr := p.min_range hg hc _ (Nat.le_refl _)
  rw [← hM.aug] at hmr
  have hup := p.up hg hlen hc (m := augM l fl u t) (by omega) hmr.2.2.1 k (by omega)
  have hnow := capB_iff.1 (hup.1.2 _ hr.2.2)
  have gp := goodPipes_at hg hr.2.2
  refine ⟨ho.a, p.inv.by_some (hasB_iff.2 (List.mem_of_getElem? hi)) (p.mid k hk).1, ?_, ⟨hr.1, hr.2.1⟩, capB_iff.1 (hc.2 _ hr.2.2), gp, by omega⟩
  rcases ho.by' with ⟨b, h1, h2, _⟩ | ⟨b, h1, h2, _⟩
  · exact .inl ⟨b, h1, h2⟩
  · exact .inr ⟨b, h1, h2⟩
/-- The room of a pipe, reckoned from the node it comes from. -/
theorem Mid.roomV {k : Nat} (h : Mid l fl u t k) : YtafalojjbghlhaaAM.roomV (l.getD (hopN (srch l fl u).2 t k).a.toNat ⟨0, 0, 0⟩) (fl.getD (hopN (srch l fl u).2 t k).a.toNat 0) (nodeN (srch l fl u).2 t (k + 1)) = YtafalojjbghlhaaAM.room l fl (hopN (srch l fl u).2 t k) := by
  have hp := h.pipe
  unfold YtafalojjbghlhaaAM.roomV YtafalojjbghlhaaAM.room
  rcases h.way with ⟨b, h1, h2⟩ | ⟨b, h1, h2⟩
  · rw [if_pos h1, if_pos b]
  · rw [if_neg (by rw [← h1]; exact hp.2.2.1), if_pos h1, if_neg (by rw [b]; simp)]
/-! ### The greatest flow -/
def grN (l : List S3) (u t : Int) (k : Nat) : List Int := foldN (fun f _ => augF l f u t) (List.replicate l.length 0) k
def grM (l : List S3) (u t : Int) : List Int := grN l u t 2001
theorem grN_succ (l : List S3) (u t : Int) (k : Nat) : grN l u t (k + 1) = augF l (grN l u t k) u t := by
  unfold grN; rw [foldN_succ]
theorem grN_len (l : List S3) (u t : Int) : ∀ k, (grN l u t k).length = l.length
  | 0 => by simp [grN, foldN]
  | k + 1 => by rw [grN_succ, augF_len, grN_len l u t k]
theorem outN_zero (l : List S3) (n : Nat) (v : Int) : ∀ k, outN l (List.replicate n 0) v k = 0
  | 0 => rfl
  | k + 1 => by
    rw [outN_succ, outStep, outN_zero l n v k]
    have : (List.replicate n (0 : Int)).getD k 0 = 0 := by
      rw [List.getD_eq_getElem?_getD, List.getElem?_replicate]; split <;> rfl
    rw [this]
    split <;> split <;> rfl
theorem gr_spec (hg : goodPipes l = true) (hu : 0 ≤ u ∧ u ≤ 7) (hut : u ≠ t) : ∀ k, AllTo (capB l (grN l u t k)) l.length l.length ∧ (∀ n, n ≠ u → n ≠ t → outM l (grN l u t k) n = 0) ∧ 0 ≤ outM l (grN l u t k) u
  | 0 => ⟨⟨Nat.le_refl _, fun j hj => by
      have gp := goodPipes_at hg hj
      have : (grN l u t 0).getD j 0 = 0 := by
        show (List.replicate l.length (0 : Int)).getD j 0 = 0
        rw [List.getD_eq_getElem?_getD, List.getElem?_replicate]; split <;> rfl
      rw [capB_iff, this]; omega⟩, fun n _ _ => outN_zero l l.length n l.length, by have := outN_zero l l.length u l.length; show 0 ≤ outN l (List.replicate l.length 0) u l.length; omega⟩
  | k + 1 => by
    obtain ⟨h1, h2, h3⟩ := gr_spec hg hu hut k
    have hs := aug_spec hg hu hut (grN_len l u t k) h1
    rw [grN_succ]
    refine ⟨hs.1, fun n n1 n2 => ?_, ?_⟩
    · rw [hs.2.1, h2 n n1 n2, ind, ind, if_neg (Ne.symm n1), if_neg (Ne.symm n2)]; simp
    · rw [hs.2.1, ind, ind, if_pos rfl, if_neg (Ne.symm hut)]
      have := hs.2.2.1
      simp; omega
theorem gr_grows (hg : goodPipes l = true) (hu : 0 ≤ u ∧ u ≤ 7) (hut : u ≠ t) : ∀ k, (∀ j, j < k → augM l (grN l u t j) u t ≠ 0) → (k : Int) ≤ outM l (grN l u t k) u
  | 0, _ => (gr_spec hg hu hut 0).2.2
  | k + 1, h => by
    have ih := gr_grows hg hu hut k (fun j hj => h j (by omega))
    have hs := aug_spec hg hu hut (grN_len l u t k) (gr_spec hg hu hut k).1
    have := h k (by omega)
    rw [grN_succ, hs.2.1, ind, ind, if_pos rfl, if_neg (Ne.symm hut)]
    have := hs.2.2.1
    push_cast
    omega
theorem gr_bound (hg : goodPipes l = true) (hu : 0 ≤ u ∧ u ≤ 7) (hut : u ≠ t) (k : Nat) (h : ∀ j, j < k → augM l (grN l u t j) u t ≠ 0) : k ≤ 2000 := by
  have h1 := gr_grows hg hu hut k h
  have h2 := (out_range hg u l.length (gr_spec hg hu hut k).1).2
  have := goodPipes_len hg
  have h3 : outM l (grN l u t k) u = outN l (grN l u t k) u l.length := rfl
  omega
theorem gr_stop (hg : goodPipes l = true) (hu : 0 ≤ u ∧ u ≤ 7) (hut : u ≠ t) {k : Nat} (h : augM l (grN l u t k) u t = 0) : ∀ d, grN l u t (k + d) = grN l u t k
  | 0 => rfl
  | d + 1 => by
    have ih := gr_stop hg hu hut h d
    rw [← Nat.add_assoc, grN_succ, ih]
    exact (aug_spec hg hu hut (grN_len l u t k) (gr_spec hg hu hut k).1).2.2.2.2.2 h
theorem gr_end (hg : goodPipes l = true) (hu : 0 ≤ u ∧ u ≤ 7) (hut : u ≠ t) {k : Nat} (hk : ∀ j, j < k → augM l (grN l u t j) u t ≠ 0) (h : augM l (grN l u t k) u t = 0) : grN l u t k = grM l u t := by
  have hb := gr_bound hg hu hut k hk
  have := gr_stop hg hu hut h (2001 - k)
  rw [Nat.add_sub_cancel' (show k ≤ 2001 by omega)] at this
  rw [grM, this]
end

theorem minN_zero (l : List S3) (fl : List Int) (h : List Hop) (t : Int) : minN l fl h t 0 = 1000 := rfl
theorem minN_succ (l : List S3) (fl : List Int) (h : List Hop) (t : Int) (k : Nat) : minN l fl h t (k + 1) = min (minN l fl h t k) (room l fl (hopN h t k)) := rfl
theorem mostN_zero (l : List S3) (fl : List Int) (h : List Hop) (t : Int) : mostN l fl h t 0 = 0 := rfl
theorem mostN_succ (l : List S3) (fl : List Int) (h : List Hop) (t : Int) (k : Nat) : mostN l fl h t (k + 1) = if mostN l fl h t k = 0 ∨ room l fl (hopN h t k) < mostN l fl h t k then room l fl (hopN h t k) else mostN l fl h t k := rfl
theorem upN_zero (fl : List Int) (h : List Hop) (t m : Int) : upN fl h t m 0 = fl := rfl
theorem upN_succ (fl : List Int) (h : List Hop) (t m : Int) (k : Nat) : upN fl h t m (k + 1) = (upN fl h t m k).set (hopN h t k).a.toNat ((upN fl h t m k).getD (hopN h t k).a.toNat 0 + if (hopN h t k).b = true then m else -m) := rfl
theorem nodeN_zero (h : List Hop) (t : Int) : nodeN h t 0 = t := rfl
theorem grN_zero (l : List S3) (u t : Int) : grN l u t 0 = List.replicate l.length 0 := rfl
theorem augF_at {l : List S3} {fl : List Int} {u t : Int} (h : hasB (srch l fl u).1 t = true) {k : Nat} (hk : k = dist (srch l fl u).2 u t) : upN fl (srch l fl u).2 t (augM l fl u t) k = augF l fl u t := by
  subst hk; rw [augF, if_pos h]
theorem augO_at {l : List S3} {fl : List Int} {u t : Int} (h : hasB (srch l fl u).1 t = true) {k : Nat} (hk : k = dist (srch l fl u).2 u t) : upN fl (srch l fl u).2 t (augM l fl u t) k = augO l fl u t := by
  subst hk; rw [augO, if_pos h]
theorem augM_no {l : List S3} {fl : List Int} {u t : Int} (h : hasB (srch l fl u).1 t = false) : augM l fl u t = 0 := by
  rw [augM, if_neg (by rw [h]; simp)]
theorem augF_no {l : List S3} {fl : List Int} {u t : Int} (h : hasB (srch l fl u).1 t = false) : augF l fl u t = fl := by
  rw [augF, if_neg (by rw [h]; simp)]
theorem augO_no {l : List S3} {fl : List Int} {u t : Int} (h : hasB (srch l fl u).1 t = false) : augO l fl u t = [] := by
  rw [augO, if_neg (by rw [h]; simp)]
theorem by_no {l : List S3} {fl : List Int} {u t : Int} (hg : goodPipes l = true) (hu : 0 ≤ u ∧ u ≤ 7) (ht : 0 ≤ t ∧ t ≤ 7) : (byOf u (srch l fl u)).getD t.toNat 0 = -1 ↔ hasB (srch l fl u).1 t = false := (srch_inv fl hg hu).by_none ht
theorem has_of {l : List S3} {fl : List Int} {u t : Int} (hg : goodPipes l = true) (hu : 0 ≤ u ∧ u ≤ 7) (ht : 0 ≤ t ∧ t ≤ 7) (h : ¬ (byOf u (srch l fl u)).getD t.toNat 0 = -1) : hasB (srch l fl u).1 t = true := by
  cases hq : hasB (srch l fl u).1 t with
  | true => rfl
  | false => exact absurd ((by_no hg hu ht).2 hq) h
theorem most_take {l : List S3} {fl : List Int} {h : List Hop} {t : Int} {k : Nat} {p : S3} {f x y : Int} (hx : x = y) (hr : roomV p f y = room l fl (hopN h t k)) (hc : mostN l fl h t k = 0 ∨ roomV p f x < mostN l fl h t k) : roomV p f x = mostN l fl h t (k + 1) := by
  subst hx
  rw [hr] at hc
  rw [mostN_succ, if_pos hc, hr]
theorem most_keep {l : List S3} {fl : List Int} {h : List Hop} {t : Int} {k : Nat} {p : S3} {f x y : Int} (hx : x = y) (hr : roomV p f y = room l fl (hopN h t k)) (h1 : ¬ mostN l fl h t k = 0) (h2 : ¬ roomV p f x < mostN l fl h t k) : mostN l fl h t k = mostN l fl h t (k + 1) := by
  subst hx
  rw [hr] at h2
  rw [mostN_succ, if_neg (by omega)]
def aoL (l : List S3) (u t : Int) (fl : List Int) : List Int := if isFl l u t fl = true then augO l fl u t else []
def aoN (l : List S3) (u t : Int) (fl : List Int) : Int := if isFl l u t fl = true then augM l fl u t else 0
def aoB (l : List S3) (u t : Int) (fl : List Int) : Bool := isFl l u t fl && decide (0 < augM l fl u t)
theorem aoL_le (l : List S3) (u t : Int) (fl : List Int) : (aoL l u t fl).length ≤ 20 := by
  unfold aoL
  split
  · rename_i h
    have hs := isFl_spec h
    have := goodPipes_len hs.1
    unfold augO
    split
    · rw [upN_len]; omega
    · simp
  · simp
def mfL (l : List S3) (u t : Int) : List Int := if askB l u t = true then grM l u t else []
def mfN (l : List S3) (u t : Int) : Int := if askB l u t = true then outM l (grM l u t) u else 0
theorem grM_len (l : List S3) (u t : Int) : (grM l u t).length = l.length := by rw [grM, grN_len]
theorem askB_spec {l : List S3} {u t : Int} (h : askB l u t = true) : goodPipes l = true ∧ (0 ≤ u ∧ u ≤ 7) ∧ (0 ≤ t ∧ t ≤ 7) ∧ u ≠ t := by
  simp only [askB, Bool.and_eq_true, decide_eq_true_eq, btw_iff] at h
  exact ⟨h.1.1.1, h.1.1.2, h.1.2, h.2⟩
theorem mfL_le (l : List S3) (u t : Int) : (mfL l u t).length ≤ 20 := by
  unfold mfL
  split
  · rename_i h
    rw [grM_len]; exact goodPipes_len (askB_spec h).1
  · simp
end YtafalojjbghlhaaAM
