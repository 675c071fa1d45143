/- A text cut in two parts. -/
import Derived.Test.YtofjbgpaofcpjaaAmDraws
set_option linter.unusedVariables false
set_option linter.unusedSimpArgs false
namespace YtofjbgpaofcpjaaAM
open Go
variable {P : Program}

/-- Two parts of a text, with a state told anew between them. -/
theorem AWP.seqTo {n n0 : Nat} {x y : Code} {Q : Exit → St → Prop} {st : St} {ι : Type} (I : ι → St) (G : ι → Prop) (h : AWP P n n0 x (thenQ (fun s => ∃ i f, G i ∧ Weak n0 f s (I i)) Q) st) (hy : ∀ i, G i → AWP P n n0 y Q (I i)) : AWP P n n0 (.seq x y) Q st := by
  refine AWP.seq (h.mono fun e s hs => ?_)
  cases e with
  | normal =>
    obtain ⟨i, f, h1, h2⟩ := hs
    exact ⟨fun cx ρ a w e1 e2 hsim => by
      subst e2
      exact (hy i h1).run cx _ a w e1 rfl (hsim.weak h2)⟩
  | _ => exact hs
end YtofjbgpaofcpjaaAM
