/- The statement: whatever the input, the law FnExactKruskal returns true, and what it was given reads as before; no conditions. -/
import Derived.Test.YtnfcnocoehkgoaaAmEdges8
import Derived.Test.YtnfcnocoehkgoaaAmRow
set_option linter.unusedVariables false
set_option linter.unusedSimpArgs false
namespace Go.Proofs.Ytnfcnocoehkgoaa
open YtnfcnocoehkgoaaAM
open Go.ChangeShapes Go.WideShapes Go.ChangeAt Go.RowKit
theorem own : ownKnob Try.prog.godebug = none := by kernel_rfl
theorem laidOut : laidOutB Try.prog = true := by kernel_rfl
theorem cells55 : Try.prog.cellsOf 55 = 3 := by kernel_rfl
theorem cells3 : Try.prog.cellsOf 3 = 1 := by kernel_rfl
set_option maxRecDepth 100000 in
set_option maxHeartbeats 1000000 in
theorem lifted (os : Os) (started : os.Started) (H : Type) (enc : TypeId × Value → H) :
    ReturnsInHanded {} Try.checked os 7 .any (Rows.fnExactKruskalSpec.pre6 enc Try.prog Try.f7 Rows.fnExactKruskalRow.domain false) (Rows.fnExactKruskalSpec.post enc Try.prog Try.f7 false true false false) := by
  refine returnsInHanded_of_change (C := Try.checked) own started (by kernel_rfl) Try.func7
    (ChangeSpec.witness6 (enc := enc) (C := Try.checked) false ⟨#[], #[.slice none 0 0], []⟩ 8 (by kernel_rfl) (by kernel_rfl) (by kernel_rfl) (by kernel_rfl)) ?_
  intro W base args ds gs before hval0 hW _ _
  have hval : ∀ (j : Nat) t v, Try.f7.params[j]? = some t → args[j]? = some v → Value.okWide Try.prog W .any base t v := hval0
  have hW' := hW
  obtain ⟨p, q, hA0, hV, rfl, _, _⟩ := hW
  have hA : DataW.TrodAll enc Try.prog W 0 (fun _ => true) true Try.f7.params.toList args.toList ds p := hA0
  rw [Try.params7] at hA hval
  obtain ⟨v0, d0, rfl, rfl, h0⟩ := trodAll_one hA
  obtain ⟨rfl, rfl⟩ := trodVars_none hV
  clear hA0 hval0
  simp only [List.append_nil] at hW'
  have hlt : ∀ x ∈ p, x.block < W.heap.size := fun x hx => by simpa using hW'.lt x hx
  obtain ⟨l0, pl0, s0, b0, g0⟩ := open_s3_slice Try.underlying22 Try.underlying55 cells55 rfl (fun j fd hj => by
      match j, hj with
      | 0, hj => cases hj; exact ⟨rfl, Try.underlying3, cells3⟩
      | 1, hj => cases hj; exact ⟨rfl, Try.underlying3, cells3⟩
      | 2, hj => cases hj; exact ⟨rfl, Try.underlying3, cells3⟩
      | j + 3, hj => simp at hj) (okWide_slice Try.underlying22 (hval 0 22 v0 rfl rfl)) h0
  have a0 := fun (W2 : World) (hb : Below W.heap.size W W2) => Below.trod laidOut (by kernel_rfl) (of_decide_eq_true (by kernel_rfl)) h0 hb (fun x hx => hlt x (hx))
  have hs := HSim.ofRo (w := W) [(.arr true .s3 l0, fun _ => pl0)] (by simp only [List.mem_cons, List.not_mem_nil, or_false, forall_eq_or_imp, forall_eq]; exact s0.inO)
  refine (calls_law (lawKruskal_call l0 b0) hs (by simp only [List.map_cons, List.map_nil, List.mem_cons, List.not_mem_nil, or_false, forall_eq_or_imp, forall_eq]; exact rfl) rfl (fun j a v ha hv => by
    match j, ha, hv with
    | 0, ha, hv => cases ha; cases hv; exact s0.rel (id := 0) (by simp) rfl
    | j + 1, ha, hv => simp at ha)).mono fun e W2 ⟨he, hb⟩ => ?_
  subst he
  exact ⟨_, rfl, _, _, _, [], _, [], hW', trodAll_mk1 (shut_bool Try.underlying4 _), trodAll_mk1 (a0 W2 hb), rfl, hb.frame _, fun h => by cases h⟩

theorem holds : Rows.FnExactKruskalSaid :=
  OpenClaim.holds_of_wide 7 Try.f7 rfl rfl rfl rfl rfl rfl rfl ⟨rfl, rfl, rfl, rfl, rfl⟩ rfl rfl rfl rfl rfl (by kernel_rfl) Try.func7 (by kernel_rfl)
    (of_decide_eq_true (by kernel_rfl)) (by unfold Func.isWrapper; first | (rw [if_pos (by decide +kernel)]; kernel_rfl) | (rw [if_neg (by decide +kernel)]; exact ⟨rfl, rfl⟩))
    (fun os started H enc _ => lifted os started H enc)
end Go.Proofs.Ytnfcnocoehkgoaa
