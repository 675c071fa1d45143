/- Two roads held against each other. -/
import Derived.Test.YtcljaokjjnmioaaAmTabRoads
import Derived.Laws.StructEq
set_option linter.unusedVariables false
set_option linter.unusedSimpArgs false
set_option maxRecDepth 100000
namespace YtcljaokjjnmioaaAM
open Go Go.Proofs
theorem sq51 : SEq Try.prog 51 := by
  intro w x y a1 a2 a3 b1 b2 b3
  have hg : Try.prog.eqGuardType Try.prog.depth 51 = false := by kernel_rfl
  have hs : Try.prog.stoodInHeld 51 = false := by kernel_rfl
  have hf : Try.prog.underlying 51 = some (.struct (Try.prog.fieldsOf 51)) := by unfold Program.fieldsOf; rw [Try.underlying51]
  have hfs : (Try.prog.fieldsOf 51) = (match Try.prog.underlying 51 with | some (.struct fs) => fs | _ => #[]) := rfl
  rw [Sem.run_bind, run_eqGuard_agg w .neq 51 x y _ _ hg]
  simp only [Result.andThen_ok]
  rw [run_neq_struct, run_equalIn_agg w 9999 51 _ _ hf hs, hfs, Try.underlying51]
  simp [Op.eqFields, part, run_equalIn_int, Try.underlying3]
  by_cases h1 : a1 = b1
  · by_cases h2 : a2 = b2
    · by_cases h3 : a3 = b3 <;> simp [h1, h2, h3]
    · simp [h1, h2]
  · simp [h1]
end YtcljaokjjnmioaaAM
