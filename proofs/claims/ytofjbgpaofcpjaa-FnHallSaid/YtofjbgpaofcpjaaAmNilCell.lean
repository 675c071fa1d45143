/- A cell that is nil becomes a slice of rows that are not there. -/
import Derived.Test.YtofjbgpaofcpjaaAmTakeRow
import Derived.Test.YtofjbgpaofcpjaaAmRowApp
set_option linter.unusedVariables false
set_option linter.unusedSimpArgs false
namespace YtofjbgpaofcpjaaAM
open Go
variable {P : Program}

theorem raw3_row (id : Nat) (ro : Bool) (a b c : AV) (r : Nat) (cs : List AV) (h : (AObj.arr ro (.raw 3) [[a, b, c]]).row id r = some cs) : r = 0 ∧ cs = [a, b, c] := by
  simp only [AObj.row] at h
  split at h
  · rename_i e
    refine ⟨e, ?_⟩
    have := Option.some.inj h
    rw [← this]
    rfl
  · cases h
/-- The third cell of a struct is told otherwise. -/
theorem HSim.reCell {ρ : Ren} {H : List AObj} {w : World} (hs : HSim ρ H w) {id : Nat} {a b c c' : AV} (hg : H[id]? = some (.arr false (.raw 3) [[a, b, c]])) (hc : ∀ v, VRel ρ H.length c v → VRel ρ H.length c' v) :
    HSim ρ (H.set id (.arr false (.raw 3) [[a, b, c']])) w := by
  have hidl : id < H.length := (List.getElem?_eq_some_iff.1 hg).1
  have hof : ∀ (k : Nat) (o : AObj), (H.set id (.arr false (.raw 3) [[a, b, c']]))[k]? = some o → (k = id ∧ o = .arr false (.raw 3) [[a, b, c']]) ∨ (k ≠ id ∧ H[k]? = some o) := fun k o h => by
    rw [List.getElem?_set] at h
    split at h
    · rename_i e
      exact .inl ⟨e.symm, (Option.some.inj h).symm⟩
    · rename_i hne; exact .inr ⟨fun e => hne e.symm, h⟩
  have hback : ∀ (k : Nat) (o : AObj) (r : Nat), (H.set id (.arr false (.raw 3) [[a, b, c']]))[k]? = some o → (o.row k r).isSome = true → ∃ o0, H[k]? = some o0 ∧ (o0.row k r).isSome = true ∧ o0.ro = o.ro := fun k o r h hr => by
    rcases hof k o h with ⟨rfl, rfl⟩ | ⟨_, h⟩
    · refine ⟨_, hg, ?_, rfl⟩
      cases hx : (AObj.arr false (.raw 3) [[a, b, c']]).row k r with
      | none => rw [hx] at hr; cases hr
      | some cs =>
        obtain ⟨rfl, _⟩ := raw3_row _ _ _ _ _ _ _ hx
        rfl
    · exact ⟨o, h, hr, rfl⟩
  refine ⟨fun k o h => ?_, fun k o r cs h hr => ?_, fun k o r k' o' r' h h' hr hr' hro hne h0 h0' => ?_⟩
  · rcases hof k o h with ⟨rfl, rfl⟩ | ⟨_, h⟩
    · intro x hx
      rw [List.mem_singleton] at hx
      subst hx; rfl
    · exact hs.wf k o h
  · rw [List.length_set]
    rcases hof k o h with ⟨rfl, rfl⟩ | ⟨_, h⟩
    · obtain ⟨rfl, rfl⟩ := raw3_row _ _ _ _ _ _ _ hr
      have h1 := hs.row k _ 0 [a, b, c] hg rfl
      refine ⟨h1.fits, h1.there, h1.own, fun j x hx => ?_⟩
      rcases j with _ | _ | _ | j
      · exact h1.cell 0 x hx
      · exact h1.cell 1 x hx
      · have e : c' = x := by simpa using hx
        subst e
        obtain ⟨v, hv1, hv2, hv3⟩ := h1.cell 2 c rfl
        exact ⟨v, hv1, hc v hv2, hv3⟩
      · simp at hx
    · exact hs.row k o r cs h hr
  · obtain ⟨o0, g1, g2, g3⟩ := hback k o r h hr
    obtain ⟨o0', g1', g2', g3'⟩ := hback k' o' r' h' hr'
    exact hs.apart k o0 r k' o0' r' g1 g1' g2 g2' (by rw [g3]; exact hro) hne h0 h0'

theorem Sim.nilCell {cx : Cx} {ρ : Ren} {st : St} {a : Act} {w : World} (h : Sim cx ρ st a w) {id : Nat} {x y : AV} (hg : st.h[id]? = some (.arr false (.raw 3) [[x, y, .nilS]])) :
    Sim cx (ρ.put st.h.length fun _ => ⟨0, 0, 0⟩) ⟨st.t, st.h.set id (.arr false (.raw 3) [[x, y, .slice ⟨st.h.length, 0, 0, 1, 0⟩ 0]]) ++ [.rows false []]⟩ a w := by
  have hidl : id < st.h.length := (List.getElem?_eq_some_iff.1 hg).1
  have hr0 : ∀ r cs, (AObj.rows false []).row st.h.length r = some cs → cs = [] := fun r cs hr => by
    cases r with
    | zero => simp [AObj.row, hdrs] at hr; exact hr
    | succ r => simp [AObj.row] at hr
  have hS := h.grow (.rows false []) (fun _ => ⟨0, 0, 0⟩) (h.hs.ghost (.rows false []) trivial hr0) h.fr (fun r _ _ h0 => absurd h0 (by simp))
  have hg2 : (st.h ++ [AObj.rows false []])[id]? = some (.arr false (.raw 3) [[x, y, .nilS]]) := by rw [List.getElem?_append_left hidl]; exact hg
  have hH := hS.hs.reCell (c' := .slice ⟨st.h.length, 0, 0, 1, 0⟩ 0) hg2 (fun v hv => by
    cases hv
    exact .slice _ 0 none 0 (by simp) (Nat.le_refl _) (.inl rfl))
  have e : (st.h ++ [AObj.rows false []]).set id (.arr false (.raw 3) [[x, y, .slice ⟨st.h.length, 0, 0, 1, 0⟩ 0]]) = st.h.set id (.arr false (.raw 3) [[x, y, .slice ⟨st.h.length, 0, 0, 1, 0⟩ 0]]) ++ [.rows false []] := List.set_append_left _ _ hidl
  rw [e] at hH
  refine ⟨fun k => ?_, hS.sz, hS.df, hH, hS.fr, hS.ag, ?_, fun k o r hk hro hr h0 => ?_⟩
  · have := hS.tm k
    simpa using this
  · have := hS.nn
    simpa using this
  · rw [← e] at hk
    rw [List.getElem?_set] at hk
    split at hk
    · rename_i ek
      subst ek
      split at hk
      · cases hk
        cases hx : (AObj.arr false (.raw 3) [[x, y, .slice ⟨st.h.length, 0, 0, 1, 0⟩ 0]]).row id r with
        | none => rw [hx] at hr; cases hr
        | some cs =>
          obtain ⟨rfl, _⟩ := raw3_row _ _ _ _ _ _ _ hx
          exact hS.wr id _ 0 hg2 rfl rfl h0
      · cases hk
    · exact hS.wr k o r hk hro hr h0

theorem XGoal.nilCell {T : Tab P} {n : Nat} {ops rest : List Oper} {K : St → Prop} {tl : List (Nat × AV)} {H : List AObj} {x y : AV} (id : Nat) (hg : getL H id = some (.arr false (.raw 3) [[x, y, .nilS]]))
    (h : natF H.length fun N => forceH (snocL (setL H id (.arr false (.raw 3) [[x, y, .slice ⟨N, 0, 0, 1, 0⟩ 0]])) (.rows false [])) fun H => XGoal P T n ops rest K (St.of tl H)) :
    XGoal P T n ops rest K (St.of tl H) := by
  rw [natF_eq, forceH_eq, snocL_eq, setL_eq] at h
  rw [getL_eq] at hg
  exact ⟨fun cx ρ a w opsA Q h1 h2 hs hn => h.run cx _ a w opsA Q h1 h2 (hs.nilCell (st := St.of tl H) hg) hn⟩
end YtofjbgpaofcpjaaAM
