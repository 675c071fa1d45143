/- Rows laid apart: a header, and a list for each row. -/
import Derived.Test.YtofjbgpaofcpjaaAmNilCell
set_option linter.unusedVariables false
set_option linter.unusedSimpArgs false
namespace YtofjbgpaofcpjaaAM
open Go
variable {P : Program}

def hdrC (N : Nat) : Nat → List (List Int) → List (List AV)
  | _, [] => []
  | i, r :: rs => [.slice ⟨N + i, 0, 0, 1, 0⟩ r.length] :: hdrC N (i + 1) rs
def arrs : List (List Int) → List AObj
  | [] => []
  | r :: rs => .arr false .int r :: arrs rs
def appL {α : Type} : List α → List α → List α
  | [], b => b
  | x :: a, b => x :: appL a b
theorem appL_eq {α : Type} (a b : List α) : appL a b = a ++ b := by
  induction a with
  | nil => rfl
  | cons x a ih => simp only [appL, ih, List.cons_append]
theorem arrs_eq (ll : List (List Int)) : arrs ll = ll.map (.arr false .int ·) := by
  induction ll with
  | nil => rfl
  | cons r rs ih => simp only [arrs, ih, List.map_cons]
theorem hdrC_get (N : Nat) : ∀ (ll : List (List Int)) (i q : Nat), ((hdrC N i ll).flatMap (Ty.raw 1).enc)[q]? = (ll[q]?).map fun r => .slice ⟨N + i + q, 0, 0, 1, 0⟩ r.length
  | [], i, q => by simp [hdrC]
  | r :: rs, i, 0 => by simp [hdrC, Ty.enc]
  | r :: rs, i, q + 1 => by
    have ih := hdrC_get N rs (i + 1) q
    have e : (hdrC N i (r :: rs)).flatMap (Ty.raw 1).enc = .slice ⟨N + i, 0, 0, 1, 0⟩ r.length :: (hdrC N (i + 1) rs).flatMap (Ty.raw 1).enc := rfl
    rw [e, List.getElem?_cons_succ, List.getElem?_cons_succ, ih]
    congr 1; funext r; congr 2; omega
theorem hdrC_len (N : Nat) : ∀ (ll : List (List Int)) (i : Nat), ((hdrC N i ll).flatMap (Ty.raw 1).enc).length = ll.length
  | [], i => rfl
  | r :: rs, i => by
    have e : (hdrC N i (r :: rs)).flatMap (Ty.raw 1).enc = .slice ⟨N + i, 0, 0, 1, 0⟩ r.length :: (hdrC N (i + 1) rs).flatMap (Ty.raw 1).enc := rfl
    rw [e, List.length_cons, hdrC_len N rs (i + 1), List.length_cons]
theorem hdrC_wf (N : Nat) : ∀ (ll : List (List Int)) (i : Nat), ∀ x ∈ hdrC N i ll, ((Ty.raw 1).enc x).length = (Ty.raw 1).n
  | [], i, x, hx => by cases hx
  | r :: rs, i, x, hx => by
    rcases List.mem_cons.1 hx with rfl | hx
    · rfl
    · exact hdrC_wf N rs (i + 1) x hx
/-- Where the parts lie. -/
def ungR (ρ : Ren) (N R : Nat) : Ren := fun id r => if id < N then ρ id r else ρ R (id - N + 1)
theorem ungR_agree (ρ : Ren) (N R : Nat) : Agree N ρ (ungR ρ N R) := fun id h r => by
  simp only [ungR, if_pos h]
theorem int_row0 (id : Nat) (l : List Int) (r : Nat) (cs : List AV) (h : (AObj.arr false .int l).row id r = some cs) : r = 0 ∧ cs = ints .i64 l := by
  simp only [AObj.row] at h
  split at h
  · rename_i e
    rw [flat_ints] at h
    exact ⟨e, (Option.some.inj h).symm⟩
  · cases h
theorem ung_get {H : List AObj} {R : Nat} {ll : List (List Int)} {hd : AObj} {k : Nat} {o : AObj} (h : (H.set R hd ++ arrs ll)[k]? = some o) :
    (k < H.length ∧ k = R ∧ o = hd) ∨ (k < H.length ∧ k ≠ R ∧ H[k]? = some o) ∨ ∃ j r, k = H.length + j ∧ ll[j]? = some r ∧ o = .arr false .int r := by
  rcases Nat.lt_or_ge k H.length with c | c
  · rw [List.getElem?_append_left (by rw [List.length_set]; exact c), List.getElem?_set] at h
    split at h
    · rename_i e
      subst e
      first
      | (rw [if_pos c] at h; exact .inl ⟨c, rfl, (Option.some.inj h).symm⟩)
      | exact .inl ⟨c, rfl, (Option.some.inj h).symm⟩
    · rename_i hne
      exact .inr (.inl ⟨c, fun e => hne e.symm, h⟩)
  · rw [List.getElem?_append_right (by rw [List.length_set]; exact c), List.length_set, arrs_eq, List.getElem?_map] at h
    obtain ⟨r, hr, rfl⟩ := Option.map_eq_some_iff.1 h
    exact .inr (.inr ⟨k - H.length, r, by omega, hr, rfl⟩)
theorem HSim.ungather {ρ : Ren} {H : List AObj} {w : World} (hs : HSim ρ H w) {R : Nat} {ll : List (List Int)} (hg : H[R]? = some (.rows false ll)) :
    HSim (ungR ρ H.length R) (H.set R (.arr false (.raw 1) (hdrC H.length 0 ll)) ++ arrs ll) w := by
  have hRl : R < H.length := (List.getElem?_eq_some_iff.1 hg).1
  have hA := ungR_agree ρ H.length R
  have hlen : (H.set R (.arr false (.raw 1) (hdrC H.length 0 ll)) ++ arrs ll).length = H.length + ll.length := by rw [List.length_append, List.length_set, arrs_eq, List.length_map]
  have hlo : ∀ k r, k < H.length → ungR ρ H.length R k r = ρ k r := fun k r h => by simp only [ungR, if_pos h]
  have hhi : ∀ j r, ungR ρ H.length R (H.length + j) r = ρ R (j + 1) := fun j r => by
    simp only [ungR]
    rw [if_neg (by omega), show H.length + j - H.length + 1 = j + 1 by omega]
  have hsrc : ∀ (k : Nat) (o : AObj) (r : Nat), (H.set R (.arr false (.raw 1) (hdrC H.length 0 ll)) ++ arrs ll)[k]? = some o → (o.row k r).isSome = true →
      ∃ k0 o0 r0, H[k0]? = some o0 ∧ (o0.row k0 r0).isSome = true ∧ o0.ro = o.ro ∧ ungR ρ H.length R k r = ρ k0 r0 ∧ ((k < H.length ∧ k0 = k ∧ r0 = r) ∨ (k0 = R ∧ k = H.length + (r0 - 1) ∧ r = 0 ∧ 0 < r0)) := fun k o r h hr => by
    rcases ung_get h with ⟨c, rfl, rfl⟩ | ⟨c, _, h1⟩ | ⟨j, x, rfl, hj, rfl⟩
    · refine ⟨k, _, r, hg, ?_, rfl, hlo k r c, .inl ⟨c, rfl, rfl⟩⟩
      by_cases e : r = 0
      · subst e; rfl
      · simp only [AObj.row, if_neg e] at hr; cases hr
    · exact ⟨k, o, r, h1, hr, rfl, hlo k r c, .inl ⟨c, rfl, rfl⟩⟩
    · cases hx : (AObj.arr false .int x).row (H.length + j) r with
      | none => rw [hx] at hr; cases hr
      | some cs =>
        obtain ⟨rfl, _⟩ := int_row0 _ _ _ _ hx
        exact ⟨R, _, j + 1, hg, by rw [rows_row, hj]; rfl, rfl, hhi j 0, .inr ⟨rfl, by omega, rfl, by omega⟩⟩
  refine ⟨fun k o h => ?_, fun k o r cs h hr => ?_, fun k o r k' o' r' h h' hr hr' hro hne h0 h0' => ?_⟩
  · rcases ung_get h with ⟨_, rfl, rfl⟩ | ⟨_, _, h1⟩ | ⟨j, x, rfl, hj, rfl⟩
    · exact hdrC_wf _ ll 0
    · exact hs.wf k o h1
    · intro y hy; rfl
  · rw [hlen]
    rcases ung_get h with ⟨c, rfl, rfl⟩ | ⟨c, _, h1⟩ | ⟨j, x, rfl, hj, rfl⟩
    · by_cases e : r = 0
      · subst e
        rw [hlo k 0 c]
        have h1 := hs.row k _ 0 (hdrs k 0 ll) hg rfl
        have hcs : cs = (hdrC H.length 0 ll).flatMap (Ty.raw 1).enc := (Option.some.inj hr).symm
        subst hcs
        refine ⟨by rw [hdrC_len]; have := h1.fits; rw [hdrs_length] at this; exact this, h1.there, h1.own, fun q x hx => ?_⟩
        rw [hdrC_get] at hx
        obtain ⟨y, hy, rfl⟩ := Option.map_eq_some_iff.1 hx
        obtain ⟨v, hv1, hv2, hv3⟩ := h1.cell q (.slice ⟨k, 0 + q + 1, 0, 1, 0⟩ y.length) (by rw [hdrs_get, hy]; rfl)
        refine ⟨v, hv1, ?_, hv3⟩
        have hql : q < ll.length := (List.getElem?_eq_some_iff.1 hy).1
        cases hv2 with
        | slice _ _ p cap hb hl1 hc =>
          refine .slice _ _ p cap (by simp; omega) hl1 ?_
          rcases hc with hc | ⟨hc1, hc2⟩
          · exact .inl hc
          · refine .inr ⟨?_, ?_⟩
            · rw [hc1]
              show some ((ρ k (0 + q + 1)).addr _) = some ((ungR ρ H.length k (H.length + 0 + q) 0).addr _)
              rw [show H.length + 0 + q = H.length + q by omega, hhi q 0, show 0 + q + 1 = q + 1 by omega]; rfl
            · show AAddr.cell ⟨k, 0 + q + 1, 0, 1, 0⟩ + cap * 1 ≤ (ungR ρ H.length k (H.length + 0 + q) 0).room
              rw [show H.length + 0 + q = H.length + q by omega, hhi q 0]
              have : (⟨k, 0 + q + 1, 0, 1, 0⟩ : AAddr).row = q + 1 := by simp
              rw [this] at hc2
              exact hc2
      · simp only [AObj.row, if_neg e] at hr; cases hr
    · rw [hlo k r c]
      exact (hs.row k o r cs h1 hr).keeps (Keeps.refl w) hA (by omega)
    · obtain ⟨rfl, rfl⟩ := int_row0 _ _ _ _ hr
      rw [hhi j 0]
      exact (hs.row R _ (j + 1) (ints .i64 x) hg (by rw [rows_row, hj]; rfl)).keeps (Keeps.refl w) hA (by omega)
  · obtain ⟨k0, o0, r0, g1, g2, g3, g4, g5⟩ := hsrc k o r h hr
    obtain ⟨k0', o0', r0', g1', g2', g3', g4', g5'⟩ := hsrc k' o' r' h' hr'
    rw [g4] at h0 ⊢
    rw [g4'] at h0' ⊢
    refine hs.apart k0 o0 r0 k0' o0' r0' g1 g1' g2 g2' (by rw [g3]; exact hro) (fun e => hne ?_) h0 h0'
    have e1 : k0 = k0' := congrArg Prod.fst e
    have e2 : r0 = r0' := congrArg Prod.snd e
    rcases g5 with ⟨a1, a2, a3⟩ | ⟨a1, a2, a3, a4⟩ <;> rcases g5' with ⟨b1, b2, b3⟩ | ⟨b1, b2, b3, b4⟩
    · rw [← a2, ← b2, ← a3, ← b3, e1, e2]
    · exfalso
      -- the header's row 0 is no row of numbers
      have : k = R := by omega
      subst this
      rcases ung_get h with ⟨_, _, rfl⟩ | ⟨_, hc, _⟩ | ⟨j, x, hj, _, _⟩
      · by_cases e3 : r = 0
        · omega
        · simp only [AObj.row, if_neg e3] at hr; cases hr
      · exact hc rfl
      · omega
    · exfalso
      have : k' = R := by omega
      subst this
      rcases ung_get h' with ⟨_, _, rfl⟩ | ⟨_, hc, _⟩ | ⟨j, x, hj, _, _⟩
      · by_cases e3 : r' = 0
        · omega
        · simp only [AObj.row, if_neg e3] at hr'; cases hr'
      · exact hc rfl
      · omega
    · rw [a2, b2, a3, b3, e2]
theorem Sim.ungather {cx : Cx} {ρ : Ren} {st : St} {a : Act} {w : World} (h : Sim cx ρ st a w) {R : Nat} {ll : List (List Int)} (hg : st.h[R]? = some (.rows false ll)) :
    Sim cx (ungR ρ st.h.length R) ⟨st.t, st.h.set R (.arr false (.raw 1) (hdrC st.h.length 0 ll)) ++ arrs ll⟩ a w := by
  have hA := ungR_agree ρ st.h.length R
  have hlo : ∀ k r, k < st.h.length → ungR ρ st.h.length R k r = ρ k r := fun k r h => by simp only [ungR, if_pos h]
  have hhi : ∀ j r, ungR ρ st.h.length R (st.h.length + j) r = ρ R (j + 1) := fun j r => by
    simp only [ungR]
    rw [if_neg (by omega), show st.h.length + j - st.h.length + 1 = j + 1 by omega]
  refine ⟨fun k => (h.tm k).mono hA (by simp), h.sz, h.df, h.hs.ungather hg, h.fr, h.ag.trans (hA.mono h.nn), by have := h.nn; simp; omega, fun k o r hk hro hr h0 => ?_⟩
  rcases ung_get hk with ⟨c, rfl, rfl⟩ | ⟨c, _, h1⟩ | ⟨j, x, rfl, hj, rfl⟩
  · rw [hlo k r c] at h0 ⊢
    by_cases e : r = 0
    · subst e
      exact h.wr k _ 0 hg rfl rfl h0
    · simp only [AObj.row, if_neg e] at hr; cases hr
  · rw [hlo k r c] at h0 ⊢
    exact h.wr k o r h1 hro hr h0
  · cases hx : (AObj.arr false .int x).row (st.h.length + j) r with
    | none => rw [hx] at hr; cases hr
    | some cs =>
      obtain ⟨rfl, _⟩ := int_row0 _ _ _ _ hx
      rw [hhi j 0] at h0 ⊢
      exact h.wr R _ (j + 1) hg rfl (by rw [rows_row, hj]; rfl) h0
theorem XGoal.ungather {T : Tab P} {n : Nat} {ops rest : List Oper} {K : St → Prop} {tl : List (Nat × AV)} {H : List AObj} {ll : List (List Int)} (R : Nat) (hg : getL H R = some (.rows false ll))
    (h : natF H.length fun N => forceH (appL (setL H R (.arr false (.raw 1) (hdrC N 0 ll))) (arrs ll)) fun H => XGoal P T n ops rest K (St.of tl H)) :
    XGoal P T n ops rest K (St.of tl H) := by
  rw [natF_eq, forceH_eq, appL_eq, setL_eq] at h
  rw [getL_eq] at hg
  exact ⟨fun cx ρ a w opsA Q h1 h2 hs hn => h.run cx _ a w opsA Q h1 h2 (hs.ungather (st := St.of tl H) hg) hn⟩
end YtofjbgpaofcpjaaAM
namespace YtofjbgpaofcpjaaAM
open Go
variable {P : Program}
/-! ### And laid together again -/
def killL (H : List AObj) : List Nat → List AObj
  | [] => H
  | i :: r => killL (setL H i .dead) r
theorem killL_len : ∀ (l : List Nat) (H : List AObj), (killL H l).length = H.length
  | [], H => rfl
  | i :: r, H => by rw [killL, killL_len r, setL_eq, List.length_set]
theorem killL_get : ∀ (l : List Nat) (H : List AObj) (k : Nat) (x : AObj), (killL H l)[k]? = some x → x = .dead ∨ (k ∉ l ∧ H[k]? = some x)
  | [], H, k, x, h => .inr ⟨by simp, h⟩
  | i :: r, H, k, x, h => by
    rcases killL_get r (setL H i .dead) k x h with h1 | ⟨h1, h2⟩
    · exact .inl h1
    · rw [setL_eq] at h2
      rcases set_dead h2 with rfl | ⟨h3, h4⟩
      · exact .inl rfl
      · refine .inr ⟨fun hm => ?_, h4⟩
        rcases List.mem_cons.1 hm with e | hm
        · exact h3 e.symm
        · exact h1 hm
theorem HSim.killL {ρ : Ren} {w : World} : ∀ (l : List Nat) {H : List AObj}, HSim ρ H w → HSim ρ (YtofjbgpaofcpjaaAM.killL H l) w
  | [], H, h => h
  | i :: r, H, h => HSim.killL r (by rw [setL_eq]; exact h.gone i)
theorem Sim.killL {cx : Cx} {ρ : Ren} {st : St} {a : Act} {w : World} (h : Sim cx ρ st a w) (l : List Nat) : Sim cx ρ ⟨st.t, YtofjbgpaofcpjaaAM.killL st.h l⟩ a w := by
  refine ⟨fun k => by rw [killL_len]; exact h.tm k, h.sz, h.df, h.hs.killL l, h.fr, h.ag, by rw [killL_len]; exact h.nn, fun k o r hk hro hr h0 => ?_⟩
  rcases killL_get l st.h k o hk with rfl | ⟨_, h2⟩
  · cases hr
  · exact h.wr k o r h2 hro hr h0
def hdrI : List Nat → List (List Int) → List (List AV)
  | i :: is, r :: rs => [.slice ⟨i, 0, 0, 1, 0⟩ r.length] :: hdrI is rs
  | _, _ => []
theorem hdrI_get : ∀ (ids : List Nat) (ll : List (List Int)) (q : Nat), ids.length = ll.length → ((hdrI ids ll).flatMap (Ty.raw 1).enc)[q]? = (ll[q]?).map fun r => .slice ⟨ids.getD q 0, 0, 0, 1, 0⟩ r.length
  | [], [], q, _ => by simp [hdrI]
  | i :: is, r :: rs, 0, _ => by simp [hdrI, Ty.enc]
  | i :: is, r :: rs, q + 1, h => by
    have ih := hdrI_get is rs q (by simpa using h)
    have e : (hdrI (i :: is) (r :: rs)).flatMap (Ty.raw 1).enc = .slice ⟨i, 0, 0, 1, 0⟩ r.length :: (hdrI is rs).flatMap (Ty.raw 1).enc := rfl
    rw [e, List.getElem?_cons_succ, List.getElem?_cons_succ, ih]
    rfl
theorem hdrI_len : ∀ (ids : List Nat) (ll : List (List Int)), ids.length = ll.length → ((hdrI ids ll).flatMap (Ty.raw 1).enc).length = ll.length
  | [], [], _ => rfl
  | i :: is, r :: rs, h => by
    have ih := hdrI_len is rs (by simpa using h)
    have e : (hdrI (i :: is) (r :: rs)).flatMap (Ty.raw 1).enc = .slice ⟨i, 0, 0, 1, 0⟩ r.length :: (hdrI is rs).flatMap (Ty.raw 1).enc := rfl
    rw [e, List.length_cons, ih, List.length_cons]
theorem Sim.gatherB {cx : Cx} {ρ : Ren} {st : St} {a : Act} {w : World} (h : Sim cx ρ st a w) {R : Nat} {ids : List Nat} {ll : List (List Int)} (hR : st.h[R]? = some (.arr false (.raw 1) (hdrI ids ll)))
    (hids : ∀ k r, ll[k]? = some r → st.h[ids.getD k 0]? = some (.arr false .int r)) (hnd : (R :: ids).Nodup) (hlen : ids.length = ll.length) :
    Sim cx (ρ.put st.h.length (gatF ρ (ρ R 0) fun k => (ids.getD k 0, 0))) ⟨st.t, YtofjbgpaofcpjaaAM.killL st.h (R :: ids) ++ [.rows false ll]⟩ a w := by
  have hk := h.killL (R :: ids)
  have hRow := h.hs.row R _ 0 _ hR rfl
  have hmem : ∀ k, k < ll.length → ids.getD k 0 ∈ ids := fun k hk => by rw [getD_get (by omega)]; exact List.getElem_mem _
  have hne : ∀ k, k < ll.length → ids.getD k 0 ≠ R := fun k hk e => (List.nodup_cons.1 hnd).1 (by rw [← e]; exact hmem k hk)
  have hl2 := killL_len (R :: ids) st.h
  have hG := h.hs.gather (H1 := YtofjbgpaofcpjaaAM.killL st.h (R :: ids)) (w' := w) hk.hs hl2 (fun j x r hx hr => by
      rcases killL_get _ _ _ _ hx with rfl | ⟨_, h2⟩
      · cases hr
      · exact h2) ll (ρ R 0) (fun k => (ids.getD k 0, 0)) (fun k r hr => by
      have hkl := (List.getElem?_eq_some_iff.1 hr).1
      have ho := hids k r hr
      refine ⟨_, ho, rfl, ?_, ?_, fun x hx => ?_⟩
      · show some (r.flatMap Ty.int.enc) = _
        rw [flat_ints]
      · have := h.hs.row _ _ 0 _ ho (show _ = some (r.flatMap Ty.int.enc) from rfl)
        rwa [flat_ints] at this
      · rcases killL_get _ _ _ _ hx with rfl | ⟨h2, _⟩
        · rfl
        · exact absurd (List.mem_cons_of_mem _ (hmem k hkl)) h2)
    (fun k k' h1 h2 e => by
      have e2 : ids.getD k 0 = ids.getD k' 0 := congrArg Prod.fst e
      rw [getD_get (by omega), getD_get (by omega)] at e2
      exact (List.getElem_inj (List.nodup_cons.1 hnd).2).1 e2)
    (by have := hRow.fits; rw [hdrI_len ids ll hlen] at this; exact this) hRow.there (hRow.own rfl)
    (fun k r hr => by
      obtain ⟨v, hv1, hv2, _⟩ := hRow.cell k (.slice ⟨ids.getD k 0, 0, 0, 1, 0⟩ r.length) (by rw [hdrI_get ids ll k hlen, hr]; rfl)
      obtain ⟨p, cap, rfl, hle, hc⟩ := hdr_val hv2
      exact ⟨p, cap, hv1, hle, hc⟩)
    (fun j o q hj hq h0 h0' => by
      rcases killL_get _ _ _ _ hj with rfl | ⟨h2, h3⟩
      · cases hq
      · exact h.hs.apart R _ 0 j o q hR h3 rfl hq rfl (fun e => h2 (by have e1 : R = j := congrArg Prod.fst e; rw [← e1]; simp)) h0 h0')
    (fun k hkl h0 h0' => h.hs.apart R _ 0 (ids.getD k 0) _ 0 hR (hids k ll[k] (List.getElem?_eq_getElem hkl)) rfl rfl rfl (fun e => hne k hkl (congrArg Prod.fst e).symm) h0 h0')
  rw [hl2] at hG
  have hS := hk.grow (.rows false ll) (gatF ρ (ρ R 0) fun k => (ids.getD k 0, 0)) (by rw [hl2]; exact hG) h.fr (fun r _ hr h0 => by
    cases r with
    | zero => exact h.wr R _ 0 hR rfl rfl h0
    | succ k =>
      rw [rows_row] at hr
      cases e : ll[k]? with
      | none => rw [e] at hr; cases hr
      | some x => exact h.wr _ _ 0 (hids k x e) rfl rfl h0)
  rwa [hl2] at hS
theorem XGoal.gatherB {T : Tab P} {n : Nat} {ops rest : List Oper} {K : St → Prop} {tl : List (Nat × AV)} {H : List AObj} (R : Nat) (ids : List Nat) (ll : List (List Int)) (hR : getL H R = some (.arr false (.raw 1) (hdrI ids ll)))
    (hids : ∀ k r, ll[k]? = some r → H[ids.getD k 0]? = some (.arr false .int r)) (hnd : (R :: ids).Nodup) (hlen : ids.length = ll.length)
    (h : forceH (snocL (killL H (R :: ids)) (.rows false ll)) fun H => XGoal P T n ops rest K (St.of tl H)) :
    XGoal P T n ops rest K (St.of tl H) := by
  rw [forceH_eq, snocL_eq] at h
  rw [getL_eq] at hR
  exact ⟨fun cx ρ a w opsA Q h1 h2 hs hn => h.run cx _ a w opsA Q h1 h2 (hs.gatherB (st := St.of tl H) hR hids hnd hlen) hn⟩
end YtofjbgpaofcpjaaAM
namespace YtofjbgpaofcpjaaAM
open Go
variable {P : Program}
theorem killL_alive : ∀ (l : List Nat) (H : List AObj) (k : Nat) (x : AObj), k ∉ l → H[k]? = some x → (killL H l)[k]? = some x
  | [], H, k, x, _, h => h
  | i :: r, H, k, x, hk, h => by
    refine killL_alive r _ k x (fun hm => hk (List.mem_cons_of_mem _ hm)) ?_
    rw [setL_eq, List.getElem?_set, if_neg (fun e => hk (by rw [e]; simp))]
    exact h
theorem Sim.reCell {cx : Cx} {ρ : Ren} {st : St} {a : Act} {w : World} (h : Sim cx ρ st a w) {id : Nat} {x y c c' : AV} (hg : st.h[id]? = some (.arr false (.raw 3) [[x, y, c]])) (hc : ∀ v, VRel ρ st.h.length c v → VRel ρ st.h.length c' v) :
    Sim cx ρ ⟨st.t, st.h.set id (.arr false (.raw 3) [[x, y, c']])⟩ a w := by
  refine ⟨fun k => by rw [List.length_set]; exact h.tm k, h.sz, h.df, h.hs.reCell hg hc, h.fr, h.ag, by rw [List.length_set]; exact h.nn, fun k o r hk hro hr h0 => ?_⟩
  have hidl : id < st.h.length := (List.getElem?_eq_some_iff.1 hg).1
  rw [List.getElem?_set] at hk
  split at hk
  · rename_i ek
    subst ek
    have hk2 : o = .arr false (.raw 3) [[x, y, c']] := by
      first
      | (rw [if_pos hidl] at hk; exact (Option.some.inj hk).symm)
      | exact (Option.some.inj hk).symm
    subst hk2
    cases hx : (AObj.arr false (.raw 3) [[x, y, c']]).row id r with
    | none => rw [hx] at hr; cases hr
    | some cs =>
      obtain ⟨rfl, _⟩ := raw3_row _ _ _ _ _ _ _ hx
      exact h.wr id _ 0 hg rfl rfl h0
  · exact h.wr k o r hk hro hr h0
/-- That the parts are lists. -/
def allArr (H : List AObj) : List Nat → List (List Int) → Prop
  | i :: is, r :: rs => getL H i = some (.arr false .int r) ∧ allArr H is rs
  | _, _ => True
theorem allArr_get {H : List AObj} : ∀ (ids : List Nat) (ll : List (List Int)), ids.length = ll.length → allArr H ids ll → ∀ k r, ll[k]? = some r → H[ids.getD k 0]? = some (.arr false .int r)
  | [], [], _, _, k, r, h => by simp at h
  | i :: is, x :: rs, hl, ha, 0, r, h => by
    have e : x = r := by simpa using h
    subst e
    rw [← getL_eq]
    exact ha.1
  | i :: is, x :: rs, hl, ha, k + 1, r, h => by
    have := allArr_get is rs (by simpa using hl) ha.2 k r (by simpa using h)
    simpa using this
theorem XGoal.gatherP {T : Tab P} {n : Nat} {ops rest : List Oper} {K : St → Prop} {tl : List (Nat × AV)} {H : List AObj} {x y : AV} {m : Nat} (p R : Nat) (ids : List Nat) (ll : List (List Int)) (hR : getL H R = some (.arr false (.raw 1) (hdrI ids ll)))
    (hids : allArr H ids ll) (hnd : (p :: R :: ids).Nodup) (hlen : ids.length = ll.length) (hp : getL H p = some (.arr false (.raw 3) [[x, y, .slice ⟨R, 0, 0, 1, 0⟩ m]]))
    (h : natF H.length fun N => forceH (setL (snocL (killL H (R :: ids)) (.rows false ll)) p (.arr false (.raw 3) [[x, y, .slice ⟨N, 0, 0, 1, 0⟩ m]])) fun H => XGoal P T n ops rest K (St.of tl H)) :
    XGoal P T n ops rest K (St.of tl H) := by
  rw [natF_eq, forceH_eq, snocL_eq, setL_eq] at h
  rw [getL_eq] at hR hp
  obtain ⟨hpn, hnd2⟩ := List.nodup_cons.1 hnd
  refine ⟨fun cx ρ a w opsA Q h1 h2 hs hn => ?_⟩
  have hS := hs.gatherB (st := St.of tl H) hR (allArr_get ids ll hlen hids) hnd2 hlen
  have hpl : p < H.length := (List.getElem?_eq_some_iff.1 hp).1
  have hRl : R < H.length := (List.getElem?_eq_some_iff.1 hR).1
  have hkl := killL_len (R :: ids) H
  have hp2 : (killL H (R :: ids) ++ [AObj.rows false ll])[p]? = some (.arr false (.raw 3) [[x, y, .slice ⟨R, 0, 0, 1, 0⟩ m]]) := by
    rw [List.getElem?_append_left (by rw [hkl]; exact hpl)]
    exact killL_alive _ _ _ _ hpn hp
  have hS2 := hS.reCell (c' := .slice ⟨H.length, 0, 0, 1, 0⟩ m) hp2 (fun v hv => by
    cases hv with
    | slice _ _ q cap hb hl1 hc =>
      refine .slice _ _ q cap (by show H.length < (killL H (R :: ids) ++ [AObj.rows false ll]).length; rw [List.length_append, hkl]; simp) hl1 ?_
      have e : (ρ.put H.length (gatF ρ (ρ R 0) fun k => (ids.getD k 0, 0))) R 0 = ρ R 0 := by rw [Ren.put_lt _ hRl]
      have e2 : (ρ.put H.length (gatF ρ (ρ R 0) fun k => (ids.getD k 0, 0))) H.length 0 = ρ R 0 := by rw [Ren.put_same]; rfl
      rcases hc with hc | ⟨hc1, hc2⟩
      · exact .inl hc
      · refine .inr ⟨?_, ?_⟩
        · rw [hc1]
          show some (((ρ.put H.length (gatF ρ (ρ R 0) fun k => (ids.getD k 0, 0))) R 0).addr _) = some (((ρ.put H.length (gatF ρ (ρ R 0) fun k => (ids.getD k 0, 0))) H.length 0).addr _)
          rw [e, e2]; rfl
        · show AAddr.cell ⟨R, 0, 0, 1, 0⟩ + cap * 1 ≤ ((ρ.put H.length (gatF ρ (ρ R 0) fun k => (ids.getD k 0, 0))) H.length 0).room
          rw [e2, ← e]; exact hc2)
  exact h.run cx _ a w opsA Q h1 h2 hS2 hn
end YtofjbgpaofcpjaaAM
