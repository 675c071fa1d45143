/- The statement: whatever the input, the law FnExactPathIn returns true, and what it was given reads as before; no conditions. -/
import Derived.Test.YtnfcnocoehkgoaaAmEdges4
import Derived.Test.YtnfcnocoehkgoaaAmRow
set_option linter.unusedVariables false
set_option linter.unusedSimpArgs false
namespace Go.Proofs.Ytnfcnocoehkgoaa
open YtnfcnocoehkgoaaAM
open Go.ChangeShapes Go.WideShapes Go.ChangeAt Go.RowKit
theorem own : ownKnob Try.prog.godebug = none := by kernel_rfl
theorem laidOut : laidOutB Try.prog = true := by kernel_rfl
theorem cells55 : Try.prog.cellsOf 55 = 3 := by kernel_rfl
theorem cells3 : Try.prog.cellsOf 3 = 1 := by kernel_rfl
set_option maxRecDepth 100000 in
set_option maxHeartbeats 1000000 in
theorem lifted (os : Os) (started : os.Started) (H : Type) (enc : TypeId × Value → H) :
    ReturnsInHanded {} Try.checked os 5 .any (Rows.fnExactPathInSpec.pre6 enc Try.prog Try.f5 Rows.fnExactPathInRow.domain false) (Rows.fnExactPathInSpec.post enc Try.prog Try.f5 false true false false) := by
  refine returnsInHanded_of_change (C := Try.checked) own started (by kernel_rfl) Try.func5
    (ChangeSpec.witness6 (enc := enc) (C := Try.checked) false ⟨#[], #[.slice none 0 0, .slice none 0 0, .int .i64 0, .int .i64 0], []⟩ 8 (by kernel_rfl) (by kernel_rfl) (by kernel_rfl) (by kernel_rfl)) ?_
  intro W base args ds gs before hval0 hW _ _
  have hval : ∀ (j : Nat) t v, Try.f5.params[j]? = some t → args[j]? = some v → Value.okWide Try.prog W .any base t v := hval0
  have hW' := hW
  obtain ⟨p, q, hA0, hV, rfl, _, _⟩ := hW
  have hA : DataW.TrodAll enc Try.prog W 0 (fun _ => true) true Try.f5.params.toList args.toList ds p := hA0
  rw [Try.params5] at hA hval
  obtain ⟨v0, v1, v2, v3, d0, d1, d2, d3, p0, p1, p2, p3, rfl, rfl, rfl, h0, h1, h2, h3⟩ := trodAll_four hA
  obtain ⟨rfl, rfl⟩ := trodVars_none hV
  clear hA0 hval0
  simp only [List.append_nil] at hW'
  have hlt : ∀ x ∈ p0 ++ p1 ++ p2 ++ p3, x.block < W.heap.size := fun x hx => by simpa using hW'.lt x hx
  obtain ⟨l0, pl0, s0, b0, g0⟩ := open_s3_slice Try.underlying22 Try.underlying55 cells55 rfl (fun j fd hj => by
      match j, hj with
      | 0, hj => cases hj; exact ⟨rfl, Try.underlying3, cells3⟩
      | 1, hj => cases hj; exact ⟨rfl, Try.underlying3, cells3⟩
      | 2, hj => cases hj; exact ⟨rfl, Try.underlying3, cells3⟩
      | j + 3, hj => simp at hj) (okWide_slice Try.underlying22 (hval 0 22 v0 rfl rfl)) h0
  obtain ⟨l1, pl1, s1, b1, g1⟩ := open_int_slice Try.underlying23 Try.underlying3 cells3 (okWide_slice Try.underlying23 (hval 1 23 v1 rfl rfl)) h1
  have h2' := h2
  obtain ⟨n2, rfl, rfl, rfl, w2⟩ := open_int Try.underlying3 (hval 2 3 v2 rfl rfl) h2' 
  have h3' := h3
  obtain ⟨n3, rfl, rfl, rfl, w3⟩ := open_int Try.underlying3 (hval 3 3 v3 rfl rfl) h3' 
  have a0 := fun (W2 : World) (hb : Below W.heap.size W W2) => Below.trod laidOut (by kernel_rfl) (of_decide_eq_true (by kernel_rfl)) h0 hb (fun x hx => hlt x (List.mem_append.2 (.inl (List.mem_append.2 (.inl (List.mem_append.2 (.inl hx)))))))
  have a1 := fun (W2 : World) (hb : Below W.heap.size W W2) => Below.trod laidOut (by kernel_rfl) (of_decide_eq_true (by kernel_rfl)) h1 hb (fun x hx => hlt x (List.mem_append.2 (.inl (List.mem_append.2 (.inl (List.mem_append.2 (.inr hx)))))))
  have a2 := fun (W2 : World) (hb : Below W.heap.size W W2) => Below.trod laidOut (by kernel_rfl) (of_decide_eq_true (by kernel_rfl)) h2 hb (fun x hx => by simp at hx)
  have a3 := fun (W2 : World) (hb : Below W.heap.size W W2) => Below.trod laidOut (by kernel_rfl) (of_decide_eq_true (by kernel_rfl)) h3 hb (fun x hx => by simp at hx)
  have hs := HSim.ofRo (w := W) [(.arr true .s3 l0, fun _ => pl0), (.arr true .int l1, fun _ => pl1)] (by simp only [List.mem_cons, List.not_mem_nil, or_false, forall_eq_or_imp, forall_eq]; exact ⟨s0.inO, s1.inO⟩)
  refine (calls_law (lawPathIn_call l0 l1 n2 n3 b0 b1) hs (by simp only [List.map_cons, List.map_nil, List.mem_cons, List.not_mem_nil, or_false, forall_eq_or_imp, forall_eq]; exact ⟨rfl, rfl⟩) rfl (fun j a v ha hv => by
    match j, ha, hv with
    | 0, ha, hv => cases ha; cases hv; exact s0.rel (id := 0) (by simp) rfl
    | 1, ha, hv => cases ha; cases hv; exact s1.rel (id := 1) (by simp) rfl
    | 2, ha, hv => cases ha; cases hv; exact .int _ _
    | 3, ha, hv => cases ha; cases hv; exact .int _ _
    | j + 4, ha, hv => simp at ha)).mono fun e W2 ⟨he, hb⟩ => ?_
  subst he
  exact ⟨_, rfl, _, _, _, [], _, [], hW', trodAll_mk1 (shut_bool Try.underlying4 _), trodAll_mk4 (a0 W2 hb) (a1 W2 hb) (a2 W2 hb) (a3 W2 hb), rfl, hb.frame _, fun h => by cases h⟩

theorem holds : Rows.FnExactPathInSaid :=
  OpenClaim.holds_of_wide 5 Try.f5 rfl rfl rfl rfl rfl rfl rfl ⟨rfl, rfl, rfl, rfl, rfl⟩ rfl rfl rfl rfl rfl (by kernel_rfl) Try.func5 (by kernel_rfl)
    (of_decide_eq_true (by kernel_rfl)) (by unfold Func.isWrapper; first | (rw [if_pos (by decide +kernel)]; kernel_rfl) | (rw [if_neg (by decide +kernel)]; exact ⟨rfl, rfl⟩))
    (fun os started H enc _ => lifted os started H enc)
end Go.Proofs.Ytnfcnocoehkgoaa
