/- A text cut in two parts, where rows that were laid apart are laid together again. -/
import Derived.Test.YtofjbgpaofcpjaaAmUngather
import Derived.Test.YtofjbgpaofcpjaaAmDrawsX
set_option linter.unusedVariables false
set_option linter.unusedSimpArgs false
namespace YtofjbgpaofcpjaaAM
open Go
variable {P : Program}

theorem AWP.ungather {n n0 : Nat} {c : Code} {Q : Exit → St → Prop} {tl : List (Nat × AV)} {H : List AObj} {ll : List (List Int)} (R : Nat) (hg : getL H R = some (.rows false ll))
    (h : natF H.length fun N => forceH (appL (setL H R (.arr false (.raw 1) (hdrC N 0 ll))) (arrs ll)) fun H => AWP P n n0 c Q (St.of tl H)) : AWP P n n0 c Q (St.of tl H) := by
  rw [natF_eq, forceH_eq, appL_eq, setL_eq] at h
  rw [getL_eq] at hg
  exact ⟨fun cx ρ a w h1 h2 hs => h.run cx _ a w h1 h2 (hs.ungather (st := St.of tl H) hg)⟩
/-- The end of the first part. -/
def ToR {ι : Type} (n0 : Nat) (I : ι → St) (G : ι → Prop) (s : St) : Prop := ∃ i s', (∀ cx ρ a w, Sim cx ρ s a w → ∃ ρ', Sim cx ρ' s' a w) ∧ G i ∧ ∃ f, Weak n0 f s' (I i)
theorem AWP.seqToR {n n0 : Nat} {x y : Code} {Q : Exit → St → Prop} {st : St} {ι : Type} (I : ι → St) (G : ι → Prop) (h : AWP P n n0 x (thenQ (ToR n0 I G) Q) st) (hy : ∀ i, G i → AWP P n n0 y Q (I i)) : AWP P n n0 (.seq x y) Q st := by
  refine AWP.seq (h.mono fun e s hs => ?_)
  cases e with
  | normal =>
    obtain ⟨i, s', hr, h1, f, h2⟩ := hs
    exact ⟨fun cx ρ a w e1 e2 hsim => by
      subst e2
      obtain ⟨ρ', hs'⟩ := hr cx ρ a w hsim
      exact (hy i h1).run cx _ a w e1 rfl (hs'.weak h2)⟩
  | _ => exact hs
theorem ToR.plain {ι : Type} {n0 : Nat} {I : ι → St} {G : ι → Prop} {s : St} (i : ι) {f : Nat → Nat} (hG : G i) (hw : Weak n0 f s (I i)) : ToR n0 I G s := ⟨i, s, fun cx ρ a w h => ⟨ρ, h⟩, hG, f, hw⟩
theorem Sim.gatherP {cx : Cx} {ρ : Ren} {tl : List (Nat × AV)} {H : List AObj} {a : Act} {w : World} (hs : Sim cx ρ (St.of tl H) a w) {x y : AV} {m : Nat} {p R : Nat} {ids : List Nat} {ll : List (List Int)} (hR : H[R]? = some (.arr false (.raw 1) (hdrI ids ll)))
    (hids : allArr H ids ll) (hnd : (p :: R :: ids).Nodup) (hlen : ids.length = ll.length) (hp : H[p]? = some (.arr false (.raw 3) [[x, y, .slice ⟨R, 0, 0, 1, 0⟩ m]])) :
    ∃ ρ', Sim cx ρ' (St.of tl ((YtofjbgpaofcpjaaAM.killL H (R :: ids) ++ [AObj.rows false ll]).set p (.arr false (.raw 3) [[x, y, .slice ⟨H.length, 0, 0, 1, 0⟩ m]]))) a w := by
  obtain ⟨hpn, hnd2⟩ := List.nodup_cons.1 hnd
  have hS := hs.gatherB (st := St.of tl H) hR (allArr_get ids ll hlen hids) hnd2 hlen
  have hpl : p < H.length := (List.getElem?_eq_some_iff.1 hp).1
  have hRl : R < H.length := (List.getElem?_eq_some_iff.1 hR).1
  have hkl := killL_len (R :: ids) H
  have hp2 : (YtofjbgpaofcpjaaAM.killL H (R :: ids) ++ [AObj.rows false ll])[p]? = some (.arr false (.raw 3) [[x, y, .slice ⟨R, 0, 0, 1, 0⟩ m]]) := by
    rw [List.getElem?_append_left (by rw [hkl]; exact hpl)]
    exact killL_alive _ _ _ _ hpn hp
  exact ⟨_, hS.reCell (c' := .slice ⟨H.length, 0, 0, 1, 0⟩ m) hp2 (fun v hv => by
    cases hv with
    | slice _ _ q cap hb hl1 hc =>
      refine .slice _ _ q cap (by show H.length < (YtofjbgpaofcpjaaAM.killL H (R :: ids) ++ [AObj.rows false ll]).length; rw [List.length_append, hkl]; simp) hl1 ?_
      have e : (ρ.put H.length (gatF ρ (ρ R 0) fun k => (ids.getD k 0, 0))) R 0 = ρ R 0 := by rw [Ren.put_lt _ hRl]
      have e2 : (ρ.put H.length (gatF ρ (ρ R 0) fun k => (ids.getD k 0, 0))) H.length 0 = ρ R 0 := by rw [Ren.put_same]; rfl
      rcases hc with hc | ⟨hc1, hc2⟩
      · exact .inl hc
      · refine .inr ⟨?_, ?_⟩
        · rw [hc1]
          show some (((ρ.put H.length (gatF ρ (ρ R 0) fun k => (ids.getD k 0, 0))) R 0).addr _) = some (((ρ.put H.length (gatF ρ (ρ R 0) fun k => (ids.getD k 0, 0))) H.length 0).addr _)
          rw [e, e2]; rfl
        · show AAddr.cell ⟨R, 0, 0, 1, 0⟩ + cap * 1 ≤ ((ρ.put H.length (gatF ρ (ρ R 0) fun k => (ids.getD k 0, 0))) H.length 0).room
          rw [e2, ← e]; exact hc2)⟩
theorem ToR.gather {ι : Type} {n0 : Nat} {I : ι → St} {G : ι → Prop} {tl : List (Nat × AV)} {H : List AObj} (i : ι) {x y : AV} {m : Nat} (p R : Nat) (ids : List Nat) (ll : List (List Int)) (hR : getL H R = some (.arr false (.raw 1) (hdrI ids ll)))
    (hids : allArr H ids ll) (hnd : (p :: R :: ids).Nodup) (hlen : ids.length = ll.length) (hp : getL H p = some (.arr false (.raw 3) [[x, y, .slice ⟨R, 0, 0, 1, 0⟩ m]])) {f : Nat → Nat} (hG : G i)
    (hw : Weak n0 f (St.of tl (setL (snocL (killL H (R :: ids)) (.rows false ll)) p (.arr false (.raw 3) [[x, y, .slice ⟨H.length, 0, 0, 1, 0⟩ m]]))) (I i)) : ToR n0 I G (St.of tl H) := by
  rw [snocL_eq, setL_eq] at hw
  rw [getL_eq] at hR hp
  exact ⟨i, _, fun cx ρ a w hs => hs.gatherP hR hids hnd hlen hp, hG, f, hw⟩
structure Mark (n : Nat) : Prop
theorem rows9 {ll : List (List Int)} (hl : ll.length ≤ 9) : (ll = [] ∧ Mark 0) ∨ (∃ a, ll = [a] ∧ Mark 1) ∨ (∃ a b, ll = [a, b] ∧ Mark 2) ∨ (∃ a b c, ll = [a, b, c] ∧ Mark 3) ∨ (∃ a b c d, ll = [a, b, c, d] ∧ Mark 4) ∨
    (∃ a b c d e, ll = [a, b, c, d, e] ∧ Mark 5) ∨ (∃ a b c d e f, ll = [a, b, c, d, e, f] ∧ Mark 6) ∨ (∃ a b c d e f g, ll = [a, b, c, d, e, f, g] ∧ Mark 7) ∨
    (∃ a b c d e f g h, ll = [a, b, c, d, e, f, g, h] ∧ Mark 8) ∨ (∃ a b c d e f g h i, ll = [a, b, c, d, e, f, g, h, i] ∧ Mark 9) := by
  rcases ll with _ | ⟨a, _ | ⟨b, _ | ⟨c, _ | ⟨d, _ | ⟨e, _ | ⟨f, _ | ⟨g, _ | ⟨h, _ | ⟨i, _ | ⟨j, rest⟩⟩⟩⟩⟩⟩⟩⟩⟩⟩
  · exact .inl ⟨rfl, ⟨⟩⟩
  · exact .inr (.inl ⟨a, rfl, ⟨⟩⟩)
  · exact .inr (.inr (.inl ⟨a, b, rfl, ⟨⟩⟩))
  · exact .inr (.inr (.inr (.inl ⟨a, b, c, rfl, ⟨⟩⟩)))
  · exact .inr (.inr (.inr (.inr (.inl ⟨a, b, c, d, rfl, ⟨⟩⟩))))
  · exact .inr (.inr (.inr (.inr (.inr (.inl ⟨a, b, c, d, e, rfl, ⟨⟩⟩)))))
  · exact .inr (.inr (.inr (.inr (.inr (.inr (.inl ⟨a, b, c, d, e, f, rfl, ⟨⟩⟩))))))
  · exact .inr (.inr (.inr (.inr (.inr (.inr (.inr (.inl ⟨a, b, c, d, e, f, g, rfl, ⟨⟩⟩)))))))
  · exact .inr (.inr (.inr (.inr (.inr (.inr (.inr (.inr (.inl ⟨a, b, c, d, e, f, g, h, rfl, ⟨⟩⟩))))))))
  · exact .inr (.inr (.inr (.inr (.inr (.inr (.inr (.inr (.inr ⟨a, b, c, d, e, f, g, h, i, rfl, ⟨⟩⟩))))))))
  · simp only [List.length_cons] at hl; omega
end YtofjbgpaofcpjaaAM
