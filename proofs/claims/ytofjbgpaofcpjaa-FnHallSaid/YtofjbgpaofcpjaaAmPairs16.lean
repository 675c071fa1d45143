/- The draw of a pairing, and the laws that hang on it. -/
import Derived.Test.YtofjbgpaofcpjaaAmPairs15
set_option linter.unusedVariables false
set_option linter.unusedSimpArgs false
set_option maxRecDepth 100000
namespace YtofjbgpaofcpjaaAM
open Go Go.Proofs

theorem pairing_call : PairIn 68 := fun code hcode a sd hc =>
  (pairing0 code hcode a sd hc).mono fun r H' h => by
    obtain ⟨⟨n, m, ll, u, c⟩, ⟨h1, h2, h3, h4, h5⟩, h6, h7⟩ := h
    simp only at h1 h2 h3 h4 h5 h6 h7
    subst h5
    exact ⟨(n, m, ll, u), ⟨h1, h2, h3, h4⟩, h6, h7⟩
theorem lawKonig_call (code : List Int) (hcode : ∀ x ∈ code, 0 ≤ x ∧ x ≤ 255) : ACall Try.prog 10 [.slice ⟨0, 0, 0, 1, 0⟩ code.length] [.arr true .byte code] (Is (.bool true) [.arr true .byte code]) := lawKonig_in pairing_call code hcode
theorem lawHall_call (code more : List Int) (hcode : ∀ x ∈ code, 0 ≤ x ∧ x ≤ 255) (hmore : ∀ x ∈ more, 0 ≤ x ∧ x ≤ 255) : ACall Try.prog 11 [.slice ⟨0, 0, 0, 1, 0⟩ code.length, .slice ⟨1, 0, 0, 1, 0⟩ more.length] [.arr true .byte code, .arr true .byte more] (Is (.bool true) [.arr true .byte code, .arr true .byte more]) := lawHall_in pairing_call code more hcode hmore
end YtofjbgpaofcpjaaAM
