/- Calls that are given a row of rows: to be read, or to be written over. -/
import Derived.Test.YtofjbgpaofcpjaaAmRowSt
set_option linter.unusedVariables false
set_option linter.unusedSimpArgs false
namespace YtofjbgpaofcpjaaAM
open Go
variable {P : Program}

theorem flat_ints (l : List Int) : l.flatMap Ty.int.enc = ints .i64 l := by
  induction l with
  | nil => rfl
  | cons a r ih => rw [List.flatMap_cons, ih]; rfl

theorem Frame.mono' {w0 w : World} {B C : Nat → Prop} (h : Frame w0 B w) (hC : ∀ b, B b → C b) : Frame w0 C w :=
  ⟨h.os, h.tape, h.output, h.size, fun b hb hn => h.block b hb fun hB => hn (hC b hB)⟩

theorem ints_take (l : List Int) (n : Nat) : ints .i64 (l.take n) = (ints .i64 l).take n := by simp [ints]
theorem RowH.pre {ρ : Ren} {N : Nat} {w : World} {p : Place} {ro : Bool} {cs : List AV} (h : RowH ρ N w p ro cs) (n : Nat) : RowH ρ N w p ro (cs.take n) :=
  ⟨by have := h.fits; simp; omega, h.there, h.own, fun k c hk => by
    rw [List.getElem?_take] at hk
    split at hk
    · exact h.cell k c hk
    · cases hk⟩
/-- A row that is read only, or the first of it, under a name of its own. -/
theorem HSim.alias {ρ : Ren} {H : List AObj} {w : World} (hs : HSim ρ H w) {id q n : Nat} {o0 : AObj} {l : List Int} (hg : H[id]? = some o0) (hro0 : o0.ro = true) (hrow : o0.row id q = some (ints .i64 l)) :
    HSim (ρ.put H.length fun _ => ρ id q) (H ++ [.arr true .int (l.take n)]) w := by
  have hA := Ren.put_agree ρ H.length (fun _ => ρ id q)
  have hlast : ∀ k o, (H ++ [AObj.arr true .int (l.take n)])[k]? = some o → (k < H.length ∧ H[k]? = some o) ∨ (k = H.length ∧ o = .arr true .int (l.take n)) := fun k o h => by
    rcases Nat.lt_or_ge k H.length with c | c
    · rw [List.getElem?_append_left c] at h; exact .inl ⟨c, h⟩
    · rw [List.getElem?_append_right c] at h
      rcases Nat.eq_zero_or_pos (k - H.length) with e | e
      · rw [e] at h
        simp at h
        exact .inr ⟨by omega, h.symm⟩
      · rw [List.getElem?_eq_none (by simp; omega)] at h; cases h
  refine ⟨fun k o h => ?_, fun k o r cs h hr => ?_, fun k o r k' o' r' h h' hr hr' hro hne h0 h0' => ?_⟩
  · rcases hlast k o h with ⟨_, h1⟩ | ⟨_, rfl⟩
    · exact hs.wf k o h1
    · intro x hx; rfl
  · rcases hlast k o h with ⟨hk, h1⟩ | ⟨rfl, rfl⟩
    · have := hs.row k o r cs h1 hr
      rw [Ren.put_lt _ hk]
      exact this.keeps (.refl w) hA (by simp)
    · have hr0 : r = 0 ∧ cs = ints .i64 (l.take n) := by
        simp only [AObj.row] at hr
        split at hr
        · rename_i e
          refine ⟨e, ?_⟩
          rw [flat_ints] at hr
          exact (Option.some.inj hr).symm
        · cases hr
      rw [hr0.2, Ren.put_same, ints_take]
      have := ((hs.row id _ q _ hg hrow).pre n).keeps (.refl w) hA (N' := (H ++ [AObj.arr true .int (l.take n)]).length) (by simp)
      rwa [hro0] at this
  · rcases hlast k o h with ⟨hk, h1⟩ | ⟨rfl, rfl⟩
    · rw [Ren.put_lt _ hk] at h0 ⊢
      rcases hlast k' o' h' with ⟨hk', h1'⟩ | ⟨rfl, rfl⟩
      · rw [Ren.put_lt _ hk'] at h0' ⊢
        exact hs.apart k o r k' o' r' h1 h1' hr hr' hro hne h0 h0'
      · rw [Ren.put_same] at h0' ⊢
        refine hs.apart k o r id _ q h1 hg hr (by rw [hrow]; rfl) hro (fun e => ?_) h0 h0'
        have e1 : k = id := congrArg Prod.fst e
        subst e1
        rw [hg] at h1
        cases h1
        rw [hro0] at hro
        cases hro
    · cases hro

/-- An object told no more. -/
theorem HSim.gone {ρ : Ren} {H : List AObj} {w : World} (hs : HSim ρ H w) (n : Nat) : HSim ρ (H.set n .dead) w := by
  have hof : ∀ (k : Nat) (o : AObj), (H.set n .dead)[k]? = some o → o = .dead ∨ H[k]? = some o := fun k o h => by
    rw [List.getElem?_set] at h
    split at h
    · split at h
      · exact .inl (Option.some.inj h).symm
      · cases h
    · exact .inr h
  refine ⟨fun k o h => ?_, fun k o r cs h hr => ?_, fun k o r k' o' r' h h' hr hr' hro hne h0 h0' => ?_⟩
  · rcases hof k o h with rfl | h1
    · trivial
    · exact hs.wf k o h1
  · rcases hof k o h with rfl | h1
    · cases hr
    · rw [List.length_set]; exact hs.row k o r cs h1 hr
  · rcases hof k o h with rfl | h1
    · cases hr
    · rcases hof k' o' h' with rfl | h1'
      · cases hr'
      · exact hs.apart k o r k' o' r' h1 h1' hr hr' hro hne h0 h0'

theorem ACall.aliasG {f : FuncId} {pre post : List AV} {H : List AObj} {K : AV → List AObj → Prop} {id q n m : Nat} {o0 : AObj} {l : List Int} (hg : H[id]? = some o0) (hro0 : o0.ro = true) (hrow : o0.row id q = some (ints .i64 l))
    (h : ACall P f (pre ++ .slice ⟨H.length, 0, 0, 1, 0⟩ n :: post) (H ++ [.arr true .int (l.take m)]) (fun r H' => K r (H'.set H.length .dead))) :
    ACall P f (pre ++ .slice ⟨id, q, 0, 1, 0⟩ n :: post) H K where
  text := h.text
  nv := by obtain ⟨r, H', hk⟩ := h.nv; exact ⟨r, _, hk⟩
  run ρ w vals hs hl hr := by
    have hid : id < H.length := (List.getElem?_eq_some_iff.1 hg).1
    have hA := Ren.put_agree ρ H.length (fun _ => ρ id q)
    refine (h.run (ρ.put H.length fun _ => ρ id q) w vals (hs.alias hg hro0 hrow) (by rw [hl]; simp) fun k a v ha hv => ?_).mono ?_
    · have hN : H.length ≤ (H ++ [AObj.arr true .int (l.take m)]).length := by simp
      rcases Nat.lt_trichotomy k pre.length with c | c | c
      · refine (hr k a v ?_ hv).mono hA hN
        rw [List.getElem?_append_left c] at ha ⊢
        exact ha
      · subst c
        rw [List.getElem?_append_right (Nat.le_refl _), Nat.sub_self] at ha
        obtain rfl : AV.slice ⟨H.length, 0, 0, 1, 0⟩ n = a := by simpa using ha
        have h1 := hr pre.length (.slice ⟨id, q, 0, 1, 0⟩ n) v (by rw [List.getElem?_append_right (Nat.le_refl _), Nat.sub_self]; rfl) hv
        cases h1 with
        | slice _ _ p cap h1 hl1 hc =>
          refine .slice _ _ p cap (by simp) hl1 ?_
          rcases hc with hc | ⟨hc1, hc2⟩
          · exact .inl hc
          · refine .inr ⟨?_, ?_⟩
            · rw [hc1]
              show some ((ρ id (q)).addr _) = some (((ρ.put H.length fun _ => ρ id (q)) H.length 0).addr _)
              rw [Ren.put_same]; rfl
            · show AAddr.cell ⟨id, q, 0, 1, 0⟩ + cap * 1 ≤ ((ρ.put H.length fun _ => ρ id (q)) H.length 0).room
              rw [Ren.put_same]; exact hc2
      · refine (hr k a v ?_ hv).mono hA hN
        rw [List.getElem?_append_right (by omega)] at ha ⊢
        obtain ⟨d, hd⟩ : ∃ d, k - pre.length = d + 1 := ⟨k - pre.length - 1, by omega⟩
        rw [hd, List.getElem?_cons_succ] at ha ⊢
        exact ha
    · rintro e w' ⟨v, r, H', ρ', rfl, hk, hv, hs', hfr, hag, hlen, hwr, hnew⟩
      have hlen' : H.length + 1 ≤ H'.length := by simpa using hlen
      have hWB : ∀ b, WB (ρ.put H.length fun _ => ρ id (q)) (H ++ [.arr true .int (l.take m)]) b → WB ρ H b := by
        rintro b ⟨k, o, q, h1, h2, h3, h4, h5⟩
        rcases Nat.lt_or_ge k H.length with c | c
        · rw [List.getElem?_append_left c] at h1
          rw [Ren.put_lt _ c] at h4 h5
          exact ⟨k, o, q, h1, h2, h3, h4, h5⟩
        · rw [List.getElem?_append_right c] at h1
          rcases Nat.eq_zero_or_pos (k - H.length) with e | e
          · rw [e] at h1
            simp at h1
            subst h1
            cases h2
          · rw [List.getElem?_eq_none (by simp; omega)] at h1; cases h1
      refine ⟨v, r, H'.set H.length .dead, ρ', rfl, hk, by rw [List.length_set]; exact hv, hs'.gone _, hfr.mono' hWB, hA.trans (hag.mono (by simp)), by rw [List.length_set]; omega, fun k o q h1 h2 h3 h4 => ?_, fun k o h1 h2 => ?_⟩
      · rw [List.getElem?_set] at h1
        split at h1
        · split at h1
          · cases h1; cases h2
          · cases h1
        · rcases hwr k o q h1 h2 h3 h4 with h | h
          · exact .inl (hWB _ h)
          · exact .inr h
      · rw [List.getElem?_set] at h2
        split at h2
        · split at h2
          · exact .inl (Option.some.inj h2).symm
          · cases h2
        · exact hnew k o (by simp; omega) h2

/-- An argument is a row. -/
theorem ACall.row0 {f : FuncId} {post : List AV} {H : List AObj} {K : AV → List AObj → Prop} {id i n : Nat} {ll : List (List Int)} (hg : getL H id = some (.rows true ll))
    (h : VC (i < ll.length) (natF H.length fun N => ACall P f (.slice ⟨N, 0, 0, 1, 0⟩ n :: post) (snocL H (.arr true .int (ll.getD i []))) (fun r H' => K r (setL H' N .dead)))) :
    ACall P f (.slice ⟨id, i + 1, 0, 1, 0⟩ n :: post) H K := by
  obtain ⟨hi, h⟩ := h
  rw [natF_eq] at h
  simp only [snocL_eq, setL_eq] at h
  refine ACall.aliasG (pre := []) (l := ll.getD i []) (m := (ll.getD i []).length) (by rw [← getL_eq]; exact hg) rfl (by rw [rows_row, getD_some (d := []) hi]; rfl) ?_
  rw [List.take_of_length_le (Nat.le_refl _)]
  exact h
/-- An argument is a row. -/
theorem ACall.row1 {f : FuncId} {a : AV} {post : List AV} {H : List AObj} {K : AV → List AObj → Prop} {id i n : Nat} {ll : List (List Int)} (hg : getL H id = some (.rows true ll))
    (h : VC (i < ll.length) (natF H.length fun N => ACall P f (a :: .slice ⟨N, 0, 0, 1, 0⟩ n :: post) (snocL H (.arr true .int (ll.getD i []))) (fun r H' => K r (setL H' N .dead)))) :
    ACall P f (a :: .slice ⟨id, i + 1, 0, 1, 0⟩ n :: post) H K := by
  obtain ⟨hi, h⟩ := h
  rw [natF_eq] at h
  simp only [snocL_eq, setL_eq] at h
  refine ACall.aliasG (pre := [a]) (l := ll.getD i []) (m := (ll.getD i []).length) (by rw [← getL_eq]; exact hg) rfl (by rw [rows_row, getD_some (d := []) hi]; rfl) ?_
  rw [List.take_of_length_le (Nat.le_refl _)]
  exact h
/-- An argument is the first of a list. -/
theorem ACall.pre0 {f : FuncId} {post : List AV} {H : List AObj} {K : AV → List AObj → Prop} {id n : Nat} {l : List Int} (hg : getL H id = some (.arr true .int l))
    (h : natF H.length fun N => ACall P f (.slice ⟨N, 0, 0, 1, 0⟩ n :: post) (snocL H (.arr true .int (l.take n))) (fun r H' => K r (setL H' N .dead))) :
    ACall P f (.slice ⟨id, 0, 0, 1, 0⟩ n :: post) H K := by
  rw [natF_eq] at h
  simp only [snocL_eq, setL_eq] at h
  exact ACall.aliasG (pre := []) (by rw [← getL_eq]; exact hg) rfl (by rw [(arr_rows id true .int l).1, flat_ints]) h
/-- An argument is the first of a list. -/
theorem ACall.pre1 {f : FuncId} {a : AV} {post : List AV} {H : List AObj} {K : AV → List AObj → Prop} {id n : Nat} {l : List Int} (hg : getL H id = some (.arr true .int l))
    (h : natF H.length fun N => ACall P f (a :: .slice ⟨N, 0, 0, 1, 0⟩ n :: post) (snocL H (.arr true .int (l.take n))) (fun r H' => K r (setL H' N .dead))) :
    ACall P f (a :: .slice ⟨id, 0, 0, 1, 0⟩ n :: post) H K := by
  rw [natF_eq] at h
  simp only [snocL_eq, setL_eq] at h
  exact ACall.aliasG (pre := [a]) (by rw [← getL_eq]; exact hg) rfl (by rw [(arr_rows id true .int l).1, flat_ints]) h

theorem VRel.scal {ρ ρ' : Ren} {N N' : Nat} {a : AV} {v : Value} (hs : a.scalar = true) (h : VRel ρ N a v) : VRel ρ' N' a v := by
  cases h with
  | undef v => exact .undef v
  | int k n => exact .int k n
  | bool b => exact .bool b
  | nilS => exact .nilS
  | nilF => exact .nilF
  | ptr a h => cases hs
  | slice a len p cap h hl hc => cases hs
  | cslice a len p cap h hl hc => cases hs
  | agg vs ws hl h => cases hs
  | vec x v h => cases hs
  | tuple vs ws hl h => cases hs
  | func f vs ws hl h => cases hs

/-- A call that writes over one row. -/
theorem ACall.lend {f : FuncId} {rest : List AV} {H : List AObj} {id i n : Nat} {l l' : List Int} {ll : List (List Int)} {k : IntKind} {x : Int}
    (h : ACall P f (.slice ⟨0, 0, 0, 1, 0⟩ n :: rest) [.arr false .int l] (Is (.int k x) [.arr false .int l'])) (hrest : rest.all AV.scalar = true)
    (hg : H[id]? = some (.rows false ll)) (hi : i < ll.length) (hl : ll.getD i [] = l) (hlen : l'.length = l.length) :
    ACall P f (.slice ⟨id, i + 1, 0, 1, 0⟩ n :: rest) H (Is (.int k x) (H.set id (.rows false (ll.set i l')))) where
  text := h.text
  nv := Is.nv _ _
  run ρ w vals hs hsz hr := by
    have hid : id < H.length := (List.getElem?_eq_some_iff.1 hg).1
    have hrow : (AObj.rows false ll).row id (i + 1) = some (ints .i64 l) := by rw [rows_row, getD_some (d := []) hi, hl]; rfl
    have hR := hs.row id _ (i + 1) _ hg hrow
    let ρc : Ren := fun _ _ => ρ id (i + 1)
    have hsc : HSim ρc [.arr false .int l] w := by
      refine ⟨fun j o h => ?_, fun j o r cs h hr => ?_, fun j o r j' o' r' h h' hr hr' hro hne h0 h0' => ?_⟩
      · cases j with
        | zero => cases h; intro y hy; rfl
        | succ j => simp at h
      · cases j with
        | zero =>
          cases h
          have e : r = 0 ∧ cs = ints .i64 l := by
            simp only [AObj.row] at hr
            split at hr
            · rename_i e
              rw [flat_ints] at hr
              exact ⟨e, (Option.some.inj hr).symm⟩
            · cases hr
          rw [e.2]
          exact ⟨hR.fits, hR.there, hR.own, fun q c hq => by
            obtain ⟨v, hv, hrel, h1⟩ := hR.cell q c hq
            refine ⟨v, hv, hrel.scal ?_, h1⟩
            have := List.mem_of_getElem? hq
            simp only [ints, List.mem_map] at this
            obtain ⟨y, _, rfl⟩ := this
            rfl⟩
        | succ j => simp at h
      · have e1 : j = 0 := by
          cases j with
          | zero => rfl
          | succ j => simp at h
        have e2 : j' = 0 := by
          cases j' with
          | zero => rfl
          | succ j' => simp at h'
        subst e1 e2
        cases h
        cases h'
        have f1 : r = 0 := by
          rcases Nat.eq_zero_or_pos r with e | e
          · exact e
          · rw [(arr_rows 0 false .int l).2 r (by omega)] at hr; cases hr
        have f2 : r' = 0 := by
          rcases Nat.eq_zero_or_pos r' with e | e
          · exact e
          · rw [(arr_rows 0 false .int l).2 r' (by omega)] at hr'; cases hr'
        subst f1 f2
        exact absurd rfl hne
    refine (h.run ρc w vals hsc (by rw [hsz]; rfl) fun j a v ha hv => ?_).mono ?_
    · cases j with
      | zero =>
        cases ha
        have h1 := hr 0 _ v rfl hv
        cases h1 with
        | slice _ _ p cap h1 hl1 hc => exact .slice _ _ p cap (by simp) hl1 hc
      | succ j => exact (hr (j + 1) a v ha hv).scal (List.all_eq_true.1 hrest a (List.mem_of_getElem? (by simpa using ha)))
    · rintro e w' ⟨v, r, H', ρ', rfl, ⟨rfl, rfl⟩, hv, hs', hfr, hag, hlen', hwr, hnew⟩
      have hag0 : ρ' 0 0 = ρ id (i + 1) := hag 0 (by simp) 0
      have hR' := hs'.row 0 _ 0 (ints .i64 l') rfl (by rw [(arr_rows 0 false .int l').1, flat_ints])
      rw [hag0] at hR'
      -- whatever lies elsewhere is as before
      have hsame : ∀ b, b < w.heap.size → (0 < (ρ id (i + 1)).room → b ≠ (ρ id (i + 1)).block) → w'.heap[b]? = w.heap[b]? := fun b hb hne => hfr.block b hb (by
        rintro ⟨j, o, q, h1, h2, h3, h4, h5⟩
        exact hne h4 h5.symm)
      have hkeep : ∀ (j r : Nat) (o : AObj) (cs : List AV), H[j]? = some o → o.row j r = some cs → (j, r) ≠ (id, i + 1) → RowH ρ H.length w' (ρ j r) o.ro cs := fun j r o cs h1 h2 h3 => by
        have hRj := hs.row j o r cs h1 h2
        rcases Nat.eq_zero_or_pos (ρ j r).room with hz | hp
        · refine ⟨hRj.fits, fun h => by omega, fun _ k hk => by omega, fun k c hk => ?_⟩
          have := hRj.fits
          have := (List.getElem?_eq_some_iff.1 hk).1
          omega
        · have hb := hRj.there hp
          have hsm := hsame _ hb (fun h0 e => hs.apart id _ (i + 1) j o r hg h1 (by rw [hrow]; rfl) (by rw [h2]; rfl) rfl (fun e => h3 e.symm) h0 hp e.symm)
          have hcell : ∀ k, w'.cell? ((ρ j r).addr k) = w.cell? ((ρ j r).addr k) ∧ w'.frozen? ((ρ j r).addr k) = w.frozen? ((ρ j r).addr k) := fun k => cell_of_heap (a := (ρ j r).addr k) hsm
          exact ⟨hRj.fits, fun h => Nat.lt_of_lt_of_le (hRj.there h) hfr.size, fun ho k hk => by rw [(hcell k).1, (hcell k).2]; exact hRj.own ho k hk, fun k c hk => by
            rw [(hcell k).1]; exact hRj.cell k c hk⟩
      have hset : ∀ (j : Nat) (o : AObj), (H.set id (.rows false (ll.set i l')))[j]? = some o → (j = id ∧ o = .rows false (ll.set i l')) ∨ (j ≠ id ∧ H[j]? = some o) := fun j o h => by
        rw [List.getElem?_set] at h
        split at h
        · rename_i e
          exact .inl ⟨e.symm, (Option.some.inj h).symm⟩
        · rename_i e
          exact .inr ⟨fun e2 => e e2.symm, h⟩
      -- the rows of the new object are the rows of the old one
      have hold : ∀ (r : Nat) (cs : List AV), (AObj.rows false (ll.set i l')).row id r = some cs → (r = i + 1 ∧ cs = ints .i64 l') ∨ (r ≠ i + 1 ∧ (AObj.rows false ll).row id r = some cs) := fun r cs h => by
        cases r with
        | zero =>
          refine .inr ⟨by omega, ?_⟩
          have e : hdrs id 0 (ll.set i l') = hdrs id 0 ll := by
            have key : ∀ (L : List (List Int)) (i b : Nat), (∀ l0, L[i]? = some l0 → l'.length = l0.length) → hdrs id b (L.set i l') = hdrs id b L := by
              intro L
              induction L with
              | nil => intro i b _; rfl
              | cons a L ih =>
                intro i b hL
                cases i with
                | zero => simp only [List.set_cons_zero, hdrs]; rw [hL a rfl]
                | succ i => simp only [List.set_cons_succ, hdrs]; rw [ih i (b + 1) (fun l0 h0 => hL l0 (by simpa using h0))]
            exact key ll i 0 fun l0 h0 => by
              rw [getD_some (d := []) hi, hl] at h0
              rw [hlen, Option.some.inj h0]
          simp only [AObj.row, if_true] at h ⊢
          rw [e] at h
          exact h
        | succ q =>
          rw [rows_row, List.getElem?_set] at h
          split at h
          · rename_i e
            subst e
            exact .inl ⟨rfl, (Option.some.inj h).symm⟩
          · rename_i e
            exact .inr ⟨by omega, by rw [rows_row]; exact h⟩
      have hlive : ∀ (j : Nat) (o : AObj) (r : Nat), (H.set id (.rows false (ll.set i l')))[j]? = some o → (o.row j r).isSome = true → ∃ o0, H[j]? = some o0 ∧ o0.ro = o.ro ∧ (o0.row j r).isSome = true := fun j o r h hr => by
        rcases hset j o h with ⟨rfl, rfl⟩ | ⟨hj, h1⟩
        · refine ⟨_, hg, rfl, ?_⟩
          obtain ⟨cs, hcs⟩ := Option.isSome_iff_exists.1 hr
          rcases hold r cs hcs with ⟨rfl, _⟩ | ⟨_, h2⟩
          · rw [hrow]; rfl
          · rw [h2]; rfl
        · exact ⟨o, h1, rfl, hr⟩
      refine ⟨v, _, _, ρ, rfl, ⟨rfl, rfl⟩, hv.scal rfl, ⟨fun j o h => ?_, fun j o r cs h hr => ?_, fun j o r j' o' r' h h' hr hr' hro hne h0 h0' => ?_⟩, hfr.mono' ?_,   .refl _ _, by rw [List.length_set]; exact Nat.le_refl _, fun j o q h1 h2 h3 h4 => ?_, fun j o h1 h2 => ?_⟩
      · rcases hset j o h with ⟨rfl, rfl⟩ | ⟨hj, h1⟩
        · trivial
        · exact hs.wf j o h1
      · rw [List.length_set]
        rcases hset j o h with ⟨rfl, rfl⟩ | ⟨hj, h1⟩
        · rcases hold r cs hr with ⟨rfl, rfl⟩ | ⟨hne, h2⟩
          · exact ⟨hR'.fits, hR'.there, hR'.own, fun q c hq => by
              obtain ⟨v, hv, hrel, h1⟩ := hR'.cell q c hq
              refine ⟨v, hv, hrel.scal ?_, h1⟩
              have := List.mem_of_getElem? hq
              simp only [ints, List.mem_map] at this
              obtain ⟨y, _, rfl⟩ := this
              rfl⟩
          · have := hkeep j r (.rows false ll) cs hg h2 (fun e => hne (congrArg Prod.snd e))
            exact ⟨this.fits, this.there, this.own, this.cell⟩
        · exact hkeep j r o cs h1 hr (fun e => hj (congrArg Prod.fst e))
      · obtain ⟨p, g1, g2, g3⟩ := hlive j o r h hr
        obtain ⟨p', g1', g2', g3'⟩ := hlive j' o' r' h' hr'
        exact hs.apart j p r j' p' r' g1 g1' g3 g3' (by rw [g2]; exact hro) hne h0 h0'
      · rintro b ⟨j, o, q, h1, h2, h3, h4, h5⟩
        exact ⟨id, _, i + 1, hg, rfl, by rw [hrow]; rfl, h4, h5⟩
      · obtain ⟨p, g1, g2, g3⟩ := hlive j o q h1 h3
        exact .inl ⟨j, p, q, g1, by rw [g2]; exact h2, g3, h4, rfl⟩
      · rw [List.getElem?_eq_none (by rw [List.length_set]; exact h1)] at h2; cases h2
/-- A call that writes over one row, in a walk. -/
theorem ACall.lendK {f : FuncId} {rest : List AV} {H : List AObj} {K : AV → List AObj → Prop} {id i n : Nat} {l l' : List Int} {ll : List (List Int)} {k : IntKind} {x : Int}
    (h : ACall P f (.slice ⟨0, 0, 0, 1, 0⟩ n :: rest) [.arr false .int l] (Is (.int k x) [.arr false .int l'])) (hrest : rest.all AV.scalar = true)
    (hg : getL H id = some (.rows false ll)) (hi : i < ll.length) (hl : ll.getD i [] = l) (hlen : l'.length = l.length) (hK : K (.int k x) (setL H id (.rows false (ll.set i l')))) :
    ACall P f (.slice ⟨id, i + 1, 0, 1, 0⟩ n :: rest) H K :=
  (ACall.lend h hrest (by rw [← getL_eq]; exact hg) hi hl hlen).mono fun r H' ⟨e1, e2⟩ => by subst e1; subst e2; rw [← setL_eq]; exact hK
end YtofjbgpaofcpjaaAM
