/- Draws that hand back a pair, or more. -/
import Derived.Test.YtofjbgpaofcpjaaAmDrawsX
set_option linter.unusedVariables false
set_option linter.unusedSimpArgs false
namespace YtofjbgpaofcpjaaAM
open Go
variable {P : Program}
theorem ACall.useEx2 (l : List Nat) {f : FuncId} {args0 args : List AV} {Hs H : List AObj} {α β : Type} {v : α × β → AV} {H1 : α × β → List AObj} {p : α × β → Prop} {K : AV → List AObj → Prop} (h : ACall P f args0 Hs (Ex v H1 p)) (ha : AV.renL (nameOf l) args0 = args) (hh : FitsL (nameOf l) Hs.length H l Hs)
    (hn : (Nat.beq l.length Hs.length && injB l Hs && ltAll H.length l && AV.bdL Hs.length args0) = true)
    (hK : ∀ (x : α) (y : β), p (x, y) → K ((v (x, y)).ren (extN (nameOf l) Hs.length H.length)) (mergeA (extN (nameOf l) Hs.length H.length) 0 Hs (H1 (x, y)) H)) : ACall P f args H K :=
  h.useEx l ha hh hn fun i hp => hK i.1 i.2 hp
theorem ACall.useEx4 (l : List Nat) {f : FuncId} {args0 args : List AV} {Hs H : List AObj} {α β γ δ : Type} {v : α × β × γ × δ → AV} {H1 : α × β × γ × δ → List AObj} {p : α × β × γ × δ → Prop} {K : AV → List AObj → Prop} (h : ACall P f args0 Hs (Ex v H1 p)) (ha : AV.renL (nameOf l) args0 = args) (hh : FitsL (nameOf l) Hs.length H l Hs)
    (hn : (Nat.beq l.length Hs.length && injB l Hs && ltAll H.length l && AV.bdL Hs.length args0) = true)
    (hK : ∀ (x : α) (y : β) (z : γ) (u : δ), p (x, y, z, u) → K ((v (x, y, z, u)).ren (extN (nameOf l) Hs.length H.length)) (mergeA (extN (nameOf l) Hs.length H.length) 0 Hs (H1 (x, y, z, u)) H)) : ACall P f args H K :=
  h.useEx l ha hh hn fun i hp => hK i.1 i.2.1 i.2.2.1 i.2.2.2 hp
theorem boolSplit {G : Prop} (b : Bool) (h1 : b = true → G) (h2 : b = false → G) : G := by cases h : b; exact h2 h; exact h1 h
end YtofjbgpaofcpjaaAM
