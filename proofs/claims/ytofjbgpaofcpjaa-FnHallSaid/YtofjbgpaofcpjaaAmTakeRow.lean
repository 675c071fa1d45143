/- A row that is handed out of its rows; an argument that is nil. -/
import Derived.Test.YtofjbgpaofcpjaaAmDrawLast
import Derived.Test.YtofjbgpaofcpjaaAmRowCall
set_option linter.unusedVariables false
set_option linter.unusedSimpArgs false
namespace YtofjbgpaofcpjaaAM
open Go
variable {P : Program}

theorem set_dead {H : List AObj} {id k : Nat} {o : AObj} (h : (H.set id .dead)[k]? = some o) : o = .dead ∨ (id ≠ k ∧ H[k]? = some o) := by
  rw [List.getElem?_set] at h
  split at h
  · split at h
    · exact .inl (Option.some.inj h).symm
    · cases h
  · rename_i hne; exact .inr ⟨hne, h⟩
/-- One row is kept, the others are forgotten. -/
theorem HSim.takeRow {ρ : Ren} {H : List AObj} {w : World} (hs : HSim ρ H w) {id q : Nat} {ll : List (List Int)} {l : List Int} (hg : H[id]? = some (.rows false ll)) (hrow : (AObj.rows false ll).row id (q + 1) = some (ints .i64 l)) :
    HSim (ρ.put H.length fun _ => ρ id (q + 1)) (H.set id .dead ++ [.arr false .int l]) w := by
  have hg2 := hs.gone id
  have hA := Ren.put_agree ρ H.length (fun _ => ρ id (q + 1))
  have hof : ∀ (k : Nat) (o : AObj), (H.set id .dead)[k]? = some o → o = .dead ∨ (k ≠ id ∧ H[k]? = some o) := fun k o h => by
    rw [List.getElem?_set] at h
    split at h
    · split at h
      · exact .inl (Option.some.inj h).symm
      · cases h
    · rename_i hne
      exact .inr ⟨fun e => hne e.symm, h⟩
  have hlast : ∀ (k : Nat) (o : AObj), (H.set id .dead ++ [AObj.arr false .int l])[k]? = some o → (k < H.length ∧ (H.set id .dead)[k]? = some o) ∨ (k = H.length ∧ o = .arr false .int l) := fun k o h => by
    rcases snoc_get h with ⟨h1, h2⟩ | ⟨h1, h2⟩
    · rw [List.length_set] at h1; exact .inl ⟨h1, h2⟩
    · rw [List.length_set] at h1; exact .inr ⟨h1, h2⟩
  have hr0 : ∀ (r : Nat) (cs : List AV), (AObj.arr false .int l).row H.length r = some cs → r = 0 ∧ cs = ints .i64 l := fun r cs hr => by
    simp only [AObj.row] at hr
    split at hr
    · rename_i e
      rw [flat_ints] at hr
      exact ⟨e, (Option.some.inj hr).symm⟩
    · cases hr
  refine ⟨fun k o h => ?_, fun k o r cs h hr => ?_, fun k o r k' o' r' h h' hr hr' hro hne h0 h0' => ?_⟩
  · rcases hlast k o h with ⟨_, h1⟩ | ⟨_, rfl⟩
    · exact hg2.wf k o h1
    · intro x hx; rfl
  · rcases hlast k o h with ⟨hk, h1⟩ | ⟨rfl, rfl⟩
    · have := hg2.row k o r cs h1 hr
      rw [List.length_set] at this
      rw [Ren.put_lt _ hk]
      exact this.keeps (.refl w) hA (by simp)
    · obtain ⟨rfl, rfl⟩ := hr0 r cs hr
      rw [Ren.put_same]
      exact (hs.row id _ (q + 1) _ hg hrow).keeps (.refl w) hA (by simp)
  · rcases hlast k o h with ⟨hk, h1⟩ | ⟨rfl, rfl⟩
    · rw [Ren.put_lt _ hk] at h0 ⊢
      rcases hlast k' o' h' with ⟨hk', h1'⟩ | ⟨rfl, rfl⟩
      · rw [Ren.put_lt _ hk'] at h0' ⊢
        exact hg2.apart k o r k' o' r' h1 h1' hr hr' hro hne h0 h0'
      · rw [Ren.put_same] at h0' ⊢
        rcases hof k o h1 with rfl | ⟨hki, h2⟩
        · cases hr
        · exact hs.apart k o r id _ (q + 1) h2 hg hr (by rw [hrow]; rfl) hro (fun e => hki (congrArg Prod.fst e)) h0 h0'
    · rw [Ren.put_same] at h0 ⊢
      rcases hlast k' o' h' with ⟨hk', h1'⟩ | ⟨rfl, rfl⟩
      · rw [Ren.put_lt _ hk'] at h0' ⊢
        rcases hof k' o' h1' with rfl | ⟨hki, h2⟩
        · cases hr'
        · exact hs.apart id _ (q + 1) k' o' r' hg h2 (by rw [hrow]; rfl) hr' rfl (fun e => hki (congrArg Prod.fst e).symm) h0 h0'
      · cases hx : (AObj.arr false .int l).row H.length r with
        | none => rw [hx] at hr; cases hr
        | some cs =>
          cases hx' : (AObj.arr false .int l).row H.length r' with
          | none => rw [hx'] at hr'; cases hr'
          | some cs' =>
            have e1 := (hr0 r cs hx).1
            have e2 := (hr0 r' cs' hx').1
            subst e1; subst e2
            exact absurd rfl hne

theorem ACall.outRow {f : FuncId} {args : List AV} {H : List AObj} {K1 K : AV → List AObj → Prop} (h : ACall P f args H K1) (hnv : ∃ r H', K r H')
    (hK : ∀ r H', K1 r H' → K r H' ∨ ∃ (pre : List AV) (id q n : Nat) (ll : List (List Int)), r = .tuple (pre ++ [.slice ⟨id, q + 1, 0, 1, 0⟩ n]) ∧ H.length ≤ id ∧ H'[id]? = some (.rows false ll) ∧ q < ll.length ∧
      K (.tuple (pre ++ [.slice ⟨H'.length, 0, 0, 1, 0⟩ n])) (H'.set id .dead ++ [.arr false .int (ll.getD q [])])) : ACall P f args H K where
  text := h.text
  nv := hnv
  run ρ w vals hs hl hr := by
    refine (h.run ρ w vals hs hl hr).mono ?_
    rintro e w' ⟨v, r, H', ρ', rfl, hk, hv, hs', hfr, hag, hlen, hwr, hnew⟩
    rcases hK r H' hk with hk | ⟨pre, id, q, n, ll, rfl, hid, hg, hq, hk⟩
    · exact ⟨v, r, H', ρ', rfl, hk, hv, hs', hfr, hag, hlen, hwr, hnew⟩
    · have hidl : id < H'.length := (List.getElem?_eq_some_iff.1 hg).1
      have hrow : (AObj.rows false ll).row id (q + 1) = some (ints .i64 (ll.getD q [])) := by rw [rows_row, getD_some (d := []) hq]; rfl
      have hA := Ren.put_agree ρ' H'.length (fun _ => ρ' id (q + 1))
      have hN : H'.length ≤ (H'.set id .dead ++ [AObj.arr false .int (ll.getD q [])]).length := by simp
      refine ⟨v, _, _, ρ'.put H'.length fun _ => ρ' id (q + 1), rfl, hk, ?_, hs'.takeRow hg hrow, hfr, hag.trans (hA.mono hlen), by simp; omega, fun k o r h1 h2 h3 h4 => ?_, fun k o h1 h2 => ?_⟩
      · cases hv with
        | tuple vs ws hl2 h2 =>
          refine .tuple _ ws (by rw [← hl2]; simp) fun i a u ha hu => ?_
          rcases Nat.lt_trichotomy i pre.length with c | c | c
          · rw [List.getElem?_append_left c] at ha
            exact (h2 i a u (by rw [List.getElem?_append_left c]; exact ha) hu).mono hA hN
          · subst c
            rw [List.getElem?_append_right (Nat.le_refl _), Nat.sub_self] at ha
            obtain rfl : AV.slice ⟨H'.length, 0, 0, 1, 0⟩ n = a := by simpa using ha
            have h3 := h2 pre.length (.slice ⟨id, q + 1, 0, 1, 0⟩ n) u (by rw [List.getElem?_append_right (Nat.le_refl _), Nat.sub_self]; rfl) hu
            cases h3 with
            | slice _ _ p cap h4 hl1 hc =>
              refine .slice _ _ p cap (by simp) hl1 ?_
              rcases hc with hc | ⟨hc1, hc2⟩
              · exact .inl hc
              · refine .inr ⟨?_, ?_⟩
                · rw [hc1]
                  show some ((ρ' id (q + 1)).addr _) = some (((ρ'.put H'.length fun _ => ρ' id (q + 1)) H'.length 0).addr _)
                  rw [Ren.put_same]; rfl
                · show AAddr.cell ⟨id, q + 1, 0, 1, 0⟩ + cap * 1 ≤ ((ρ'.put H'.length fun _ => ρ' id (q + 1)) H'.length 0).room
                  rw [Ren.put_same]; exact hc2
          · rw [List.getElem?_eq_none (by simp; omega)] at ha; cases ha
      · rcases snoc_get h1 with ⟨hkl, h1⟩ | ⟨hkl, rfl⟩
        · rw [List.length_set] at hkl
          rw [Ren.put_lt _ hkl] at h4 ⊢
          rcases set_dead h1 with rfl | ⟨_, h1⟩
          · cases h3
          · exact hwr k o r h1 h2 h3 h4
        · rw [List.length_set] at hkl
          subst hkl
          rw [Ren.put_same] at h4 ⊢
          exact hwr id _ (q + 1) hg rfl (by rw [hrow]; rfl) h4
      · rcases snoc_get h2 with ⟨hkl, h2⟩ | ⟨hkl, rfl⟩
        · rcases set_dead h2 with rfl | ⟨hne2, h2⟩
          · exact .inl rfl
          · exact hnew k o h1 h2
        · exact .inr rfl

/-- An argument is nil. -/
theorem ACall.nilG {f : FuncId} {pre post : List AV} {H : List AObj} {K : AV → List AObj → Prop}
    (h : ACall P f (pre ++ .slice ⟨H.length, 0, 0, 1, 0⟩ 0 :: post) (H ++ [.arr true .int ([] : List Int)]) (fun r H' => K r (H'.set H.length .dead))) : ACall P f (pre ++ .nilS :: post) H K where
  text := h.text
  nv := by obtain ⟨r, H', hk⟩ := h.nv; exact ⟨r, _, hk⟩
  run ρ w vals hs hl hr := by
    have hA := Ren.put_agree ρ H.length (fun _ => (⟨0, 0, 0⟩ : Place))
    have hS := hs.ghost (.arr true .int ([] : List Int)) (fun x hx => by cases hx) (fun r cs hr => by
      simp only [AObj.row] at hr
      split at hr
      · exact (Option.some.inj hr).symm
      · cases hr)
    refine (h.run (ρ.put H.length fun _ => ⟨0, 0, 0⟩) w vals hS (by rw [hl]; simp) fun k a v ha hv => ?_).mono ?_
    · have hN : H.length ≤ (H ++ [AObj.arr true .int ([] : List Int)]).length := by simp
      rcases Nat.lt_trichotomy k pre.length with c | c | c
      · refine (hr k a v ?_ hv).mono hA hN
        rw [List.getElem?_append_left c] at ha ⊢
        exact ha
      · subst c
        rw [List.getElem?_append_right (Nat.le_refl _), Nat.sub_self] at ha
        obtain rfl : AV.slice ⟨H.length, 0, 0, 1, 0⟩ 0 = a := by simpa using ha
        have h1 := hr pre.length .nilS v (by rw [List.getElem?_append_right (Nat.le_refl _), Nat.sub_self]; rfl) hv
        cases h1
        exact .slice _ 0 none 0 (by simp) (Nat.le_refl _) (.inl rfl)
      · refine (hr k a v ?_ hv).mono hA hN
        rw [List.getElem?_append_right (by omega)] at ha ⊢
        obtain ⟨d, hd⟩ : ∃ d, k - pre.length = d + 1 := ⟨k - pre.length - 1, by omega⟩
        rw [hd, List.getElem?_cons_succ] at ha ⊢
        exact ha
    · rintro e w' ⟨v, r, H', ρ', rfl, hk, hv, hs', hfr, hag, hlen, hwr, hnew⟩
      have hlen' : H.length + 1 ≤ H'.length := by simpa using hlen
      have hWB : ∀ b, WB (ρ.put H.length fun _ => (⟨0, 0, 0⟩ : Place)) (H ++ [.arr true .int ([] : List Int)]) b → WB ρ H b := by
        rintro b ⟨k, o, q, h1, h2, h3, h4, h5⟩
        rcases snoc_get h1 with ⟨c, h1⟩ | ⟨_, rfl⟩
        · rw [Ren.put_lt _ c] at h4 h5
          exact ⟨k, o, q, h1, h2, h3, h4, h5⟩
        · cases h2
      refine ⟨v, r, H'.set H.length .dead, ρ', rfl, hk, by rw [List.length_set]; exact hv, hs'.gone _, hfr.mono' hWB, hA.trans (hag.mono (by simp)), by rw [List.length_set]; omega, fun k o q h1 h2 h3 h4 => ?_, fun k o h1 h2 => ?_⟩
      · rcases set_dead h1 with rfl | ⟨_, h1⟩
        · cases h2
        · rcases hwr k o q h1 h2 h3 h4 with h | h
          · exact .inl (hWB _ h)
          · exact .inr h
      · rcases set_dead h2 with rfl | ⟨hne2, h2⟩
        · exact .inl rfl
        · exact hnew k o (by simp; omega) h2
theorem ACall.nil2 {f : FuncId} {a b : AV} {post : List AV} {H : List AObj} {K : AV → List AObj → Prop}
    (h : natF H.length fun N => ACall P f (a :: b :: .slice ⟨N, 0, 0, 1, 0⟩ 0 :: post) (snocL H (.arr true .int ([] : List Int))) (fun r H' => K r (setL H' N .dead))) :
    ACall P f (a :: b :: .nilS :: post) H K := by
  rw [natF_eq] at h
  simp only [snocL_eq, setL_eq] at h
  exact ACall.nilG (pre := [a, b]) h
end YtofjbgpaofcpjaaAM
