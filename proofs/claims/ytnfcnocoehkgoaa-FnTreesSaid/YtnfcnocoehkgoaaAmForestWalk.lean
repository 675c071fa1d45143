/- What the walks on forests ask for. -/
import Derived.Test.YtnfcnocoehkgoaaAmForestMath
set_option linter.unusedVariables false
set_option linter.unusedSimpArgs false
namespace YtnfcnocoehkgoaaAM

def TrailAt (l : List S3) (s : List Int) (u bf : Int) (d : Nat) : Prop := ∃ f q, Trail l s u d f q ∧ (0 < d → s.getD (q (d - 1)) 0 = bf)
section
variable {l : List S3} {s : List Int} {u bf b w : Int} {d n j : Nat}
theorem TrailAt.zero (hu : 0 ≤ u ∧ u ≤ 7) (bf : Int) : TrailAt l s u bf 0 :=
  ⟨fun _ => u, fun _ => 0, ⟨rfl, fun i hi => hu, fun i hi => by omega, fun i j hij hj => by omega⟩, fun h => by omega⟩
theorem TrailAt.le (h : TrailAt l s u bf d) : d ≤ 7 := by
  obtain ⟨f, q, h, _⟩ := h
  exact h.le
theorem TrailAt.range (h : TrailAt l s u bf d) : 0 ≤ u ∧ u ≤ 7 := by
  obtain ⟨f, q, h, _⟩ := h
  rw [← h.at']
  exact h.range d (Nat.le_refl _)
theorem TrailAt.go (hg : goodEdges l = true) (hs : someB s l.length = true) (hf : forB l s = true) (h : TrailAt l s u bf d) (hj : j < s.length) (hne : s.getD j 0 ≠ bf) (hw : ((edgeAt l (s.getD j 0)).a = u ∧ w = (edgeAt l (s.getD j 0)).b) ∨ ((edgeAt l (s.getD j 0)).b = u ∧ w = (edgeAt l (s.getD j 0)).a)) :
    TrailAt l s w (s.getD j 0) (d + 1) := by
  obtain ⟨f, q, h, hb⟩ := h
  refine ⟨_, _, h.go hg hs hf hj (v := w) ?_ fun h0 e => hne (by rw [e]; exact hb h0), fun _ => ?_⟩
  · rcases hw with ⟨h1, rfl⟩ | ⟨h1, rfl⟩
    · exact .inl ⟨h1, rfl⟩
    · exact .inr ⟨h1, rfl⟩
  · simp
theorem other_of (hw : ((edgeAt l (s.getD j 0)).a = u ∧ w = (edgeAt l (s.getD j 0)).b) ∨ ((edgeAt l (s.getD j 0)).b = u ∧ w = (edgeAt l (s.getD j 0)).a)) : w = otherE (edgeAt l (s.getD j 0)) u := by
  unfold otherE; omega
theorem on_of (hw : ((edgeAt l (s.getD j 0)).a = u ∧ w = (edgeAt l (s.getD j 0)).b) ∨ ((edgeAt l (s.getD j 0)).b = u ∧ w = (edgeAt l (s.getD j 0)).a)) (hne : s.getD j 0 ≠ bf) : ¬ (s.getD j 0 = bf ∨ ((edgeAt l (s.getD j 0)).a ≠ u ∧ (edgeAt l (s.getD j 0)).b ≠ u)) := by
  rintro (h | ⟨h1, h2⟩)
  · exact hne h
  · rcases hw with ⟨h, _⟩ | ⟨h, _⟩
    · exact h1 h
    · exact h2 h
theorem path_found (hu : ¬ u = b) (hj : j < s.length) (h : pathN l s b n u bf j = (false, [])) (hne : s.getD j 0 ≠ bf) (hw : ((edgeAt l (s.getD j 0)).a = u ∧ w = (edgeAt l (s.getD j 0)).b) ∨ ((edgeAt l (s.getD j 0)).b = u ∧ w = (edgeAt l (s.getD j 0)).a))
    (hr : (pathR l s b n w (s.getD j 0)).1 = true) : pathR l s b (n + 1) u bf = (true, s.getD j 0 :: (pathR l s b n w (s.getD j 0)).2) := by
  have e := pathN_yes h (on_of hw hne) (by rw [← other_of hw]; exact hr)
  rw [← other_of hw] at e
  rw [pathN_end hu (j := j + 1) (by omega) (by rw [e]), e]
theorem path_not (h : pathN l s b n u bf j = (false, [])) (hne : s.getD j 0 ≠ bf) (hw : ((edgeAt l (s.getD j 0)).a = u ∧ w = (edgeAt l (s.getD j 0)).b) ∨ ((edgeAt l (s.getD j 0)).b = u ∧ w = (edgeAt l (s.getD j 0)).a))
    (hr : (pathR l s b n w (s.getD j 0)).1 = false) : pathN l s b n u bf (j + 1) = (false, []) :=
  pathN_no h (on_of hw hne) (by rw [← other_of hw]; exact hr)
theorem path_none (hu : ¬ u = b) (hj : j ≤ s.length) (hl : s.length ≤ j) (h : pathN l s b n u bf j = (false, [])) : pathR l s b (n + 1) u bf = (false, []) := by
  obtain rfl : j = s.length := by omega
  rw [pathR_eq hu, h]
theorem pi_no (h : ¬ piOk l s u b = true) : piB l s u b = false ∧ piL l s u b = [] := by
  have e : piOk l s u b = false := by simpa using h
  exact ⟨by rw [piB, e]; rfl, by rw [piL, if_neg h]⟩
theorem pi_yes (h : piOk l s u b = true) : piB l s u b = (pathR l s b 9 u (-1)).1 ∧ piL l s u b = (pathR l s b 9 u (-1)).2 := ⟨by rw [piB, h]; rfl, by rw [piL, if_pos h]⟩
theorem join_yes {k : Nat} (h : lab l s k (edgeAt l (s.getD k 0)).a = lab l s k (edgeAt l (s.getD k 0)).b) : joinB l s k = false := by rw [joinB, decide_eq_true h]; rfl
theorem join_no {k : Nat} (h : ¬ lab l s k (edgeAt l (s.getD k 0)).a = lab l s k (edgeAt l (s.getD k 0)).b) : joinB l s k = true := by rw [joinB, decide_eq_false h]; rfl
theorem partsN_zero0 (l : List S3) (s : List Int) : partsN l s 0 = upTo8 := rfl
theorem min_max {x y : Int} : min x y = max x y ↔ x = y := by omega
theorem take_snoc {s : List Int} {k : Nat} (hk : k < s.length) : s.take (k + 1) = sub (s.take k) 0 k ++ sub [s.getD k 0] 0 1 := by
  have e1 : sub (s.take k) 0 k = s.take k := by
    have h : (s.take k).length = k := by rw [List.length_take]; omega
    unfold sub
    rw [List.drop_zero, List.take_of_length_le (by omega)]
  have e2 : sub [s.getD k 0] 0 1 = [s.getD k 0] := rfl
  rw [e1, e2, List.take_add_one, List.getElem?_eq_getElem hk, getD_get hk]; rfl
theorem for_all {k : Nat} (h : AllTo (joinB l s) s.length k) (hk : s.length ≤ k) : true = forB l s := (h.all hk).symm
theorem for_not {k : Nat} (hk : k < s.length) (h : (partsN l s k).getD (edgeAt l (s.getD k 0)).a.toNat 0 = (partsN l s k).getD (edgeAt l (s.getD k 0)).b.toNat 0) : false = forB l s := (not_all hk (join_yes h)).symm
theorem for_next {k : Nat} (h : AllTo (joinB l s) s.length k) (hk : k < s.length) (hn : ¬ (partsN l s k).getD (edgeAt l (s.getD k 0)).a.toNat 0 = (partsN l s k).getD (edgeAt l (s.getD k 0)).b.toNat 0) : AllTo (joinB l s) s.length (k + 1) := h.next hk (join_no hn)
theorem w_inl {e : S3} (h : e.a = u) : e.a = u ∧ e.a + e.b - u = e.b := ⟨h, by omega⟩
theorem w_inr {e : S3} (h : e.b = u) : e.b = u ∧ e.a + e.b - u = e.a := ⟨h, by omega⟩
end
end YtnfcnocoehkgoaaAM
