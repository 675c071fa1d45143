/-
  No cell of these rows narrows 'for every input' (looked for: loops, veiled, ifaces, maps, wideKeys, modest, calm, conditions, laid).
  DERIVED. THE GIVEN ROWS OF THIS SEAT. 10 by the template 'for every input the law returns true; each argument reads behind the call as it read before'; 0 by the template 'total and deterministic' (their statements: YtockeinpdioahaaTotals.lean).
  GIVEN WITH THE SEED: the statements are not yours to turn. If you find one false, say at which input.
  Laid BY PROGRAM, IN A SANDBOX (cutbox-rows.mjs): the forced cells as the released guide's own fill.sh prints them over the translation 3ea8d0c94e0859c3… (all of the seat's roots in one cut). By AI agents, Wed Nov 11 2026. No macro, syntax, notation, axiom, sorry.
-/
import Derived.Test.YtockeinpdioahaaChecked
import GoSem.Claim
import GoSem.ClaimJoined
import GoSem.ClaimMapViews
import Derived.JoinedTies
import Derived.KernelRfl
namespace Go.Proofs.Ytockeinpdioahaa
/- THE CELL 'sum', in the pinned program and in every row, IS THE sha256 OF THE DUMP (.gsa) THAT YtockeinpdioahaaProg.lean LOADS. Nothing in Lean hashes anything: it is a label: what it is worth is what the hold of that sum in a sandbox is worth. -/
noncomputable def Try.pinned : Pinned := { name := "ytockeinpdioahaa", sum := "3ea8d0c94e0859c3d82fe35554fb4fd42bc861e1918b73b003ea75375cf8a398", checked := Try.checked }
namespace Rows
def none {H : Type} : Left H := { results := [], args := [] }

/-- 'laws.FnExactGoodCell': WHATEVER THE INPUT: true; the input reads as it did. -/
def fnExactGoodCellSpec : ChangeSpec := { name := "fnExactGoodCell", fn := fun _ => fun
  | [d] => { results := [.lit (.bool true)], args := [d] }
  | _ => none }
def fnExactGoodCellRow : OpenClaim := { program := "ytockeinpdioahaa", sum := "3ea8d0c94e0859c3d82fe35554fb4fd42bc861e1918b73b003ea75375cf8a398", func := "loop.example/g00315/laws.FnExactGoodCell", spec := "fnExactGoodCell", apart := false }
def FnExactGoodCellSaid : Prop := fnExactGoodCellRow.holds Try.pinned (OpenSpec.ofChange fnExactGoodCellSpec)

/-- ITS FALSE NEIGHBOUR: 'it returns false'. Refute it at one input. -/
def fnExactGoodCellWrong : ChangeSpec := { name := "fnExactGoodCell", fn := fun _ => fun
  | [d] => { results := [.lit (.bool false)], args := [d] }
  | _ => none }
def FnExactGoodCellWrongFalsely : Prop := fnExactGoodCellRow.holds Try.pinned (OpenSpec.ofChange fnExactGoodCellWrong)

/-- 'laws.FnExactGoodJobs': WHATEVER THE INPUT: true; the input reads as it did. -/
def fnExactGoodJobsSpec : ChangeSpec := { name := "fnExactGoodJobs", fn := fun _ => fun
  | [d] => { results := [.lit (.bool true)], args := [d] }
  | _ => none }
def fnExactGoodJobsRow : OpenClaim := { program := "ytockeinpdioahaa", sum := "3ea8d0c94e0859c3d82fe35554fb4fd42bc861e1918b73b003ea75375cf8a398", func := "loop.example/g00315/laws.FnExactGoodJobs", spec := "fnExactGoodJobs", unfollowed := true, recurses := true, apart := false }
def FnExactGoodJobsSaid : Prop := fnExactGoodJobsRow.holds Try.pinned (OpenSpec.ofChange fnExactGoodJobsSpec)

/-- ITS FALSE NEIGHBOUR: 'it returns false'. Refute it at one input. -/
def fnExactGoodJobsWrong : ChangeSpec := { name := "fnExactGoodJobs", fn := fun _ => fun
  | [d] => { results := [.lit (.bool false)], args := [d] }
  | _ => none }
def FnExactGoodJobsWrongFalsely : Prop := fnExactGoodJobsRow.holds Try.pinned (OpenSpec.ofChange fnExactGoodJobsWrong)

/-- 'laws.FnExactByDue': WHATEVER THE INPUT: true; the input reads as it did. -/
def fnExactByDueSpec : ChangeSpec := { name := "fnExactByDue", fn := fun _ => fun
  | [d] => { results := [.lit (.bool true)], args := [d] }
  | _ => none }
def fnExactByDueRow : OpenClaim := { program := "ytockeinpdioahaa", sum := "3ea8d0c94e0859c3d82fe35554fb4fd42bc861e1918b73b003ea75375cf8a398", func := "loop.example/g00315/laws.FnExactByDue", spec := "fnExactByDue", unfollowed := true, recurses := true, apart := false }
def FnExactByDueSaid : Prop := fnExactByDueRow.holds Try.pinned (OpenSpec.ofChange fnExactByDueSpec)

/-- ITS FALSE NEIGHBOUR: 'it returns false'. Refute it at one input. -/
def fnExactByDueWrong : ChangeSpec := { name := "fnExactByDue", fn := fun _ => fun
  | [d] => { results := [.lit (.bool false)], args := [d] }
  | _ => none }
def FnExactByDueWrongFalsely : Prop := fnExactByDueRow.holds Try.pinned (OpenSpec.ofChange fnExactByDueWrong)

/-- 'laws.FnExactOrderFor': WHATEVER THE INPUT: true; the input reads as it did. -/
def fnExactOrderForSpec : ChangeSpec := { name := "fnExactOrderFor", fn := fun _ => fun
  | [d1, d2] => { results := [.lit (.bool true)], args := [d1, d2] }
  | _ => none }
def fnExactOrderForRow : OpenClaim := { program := "ytockeinpdioahaa", sum := "3ea8d0c94e0859c3d82fe35554fb4fd42bc861e1918b73b003ea75375cf8a398", func := "loop.example/g00315/laws.FnExactOrderFor", spec := "fnExactOrderFor", unfollowed := true, recurses := true, apart := false }
def FnExactOrderForSaid : Prop := fnExactOrderForRow.holds Try.pinned (OpenSpec.ofChange fnExactOrderForSpec)

/-- ITS FALSE NEIGHBOUR: 'it returns false'. Refute it at one input. -/
def fnExactOrderForWrong : ChangeSpec := { name := "fnExactOrderFor", fn := fun _ => fun
  | [d1, d2] => { results := [.lit (.bool false)], args := [d1, d2] }
  | _ => none }
def FnExactOrderForWrongFalsely : Prop := fnExactOrderForRow.holds Try.pinned (OpenSpec.ofChange fnExactOrderForWrong)

/-- 'laws.FnExactIsJobOrder': WHATEVER THE INPUT: true; the input reads as it did. -/
def fnExactIsJobOrderSpec : ChangeSpec := { name := "fnExactIsJobOrder", fn := fun _ => fun
  | [d1, d2] => { results := [.lit (.bool true)], args := [d1, d2] }
  | _ => none }
def fnExactIsJobOrderRow : OpenClaim := { program := "ytockeinpdioahaa", sum := "3ea8d0c94e0859c3d82fe35554fb4fd42bc861e1918b73b003ea75375cf8a398", func := "loop.example/g00315/laws.FnExactIsJobOrder", spec := "fnExactIsJobOrder", unfollowed := true, recurses := true, apart := false }
def FnExactIsJobOrderSaid : Prop := fnExactIsJobOrderRow.holds Try.pinned (OpenSpec.ofChange fnExactIsJobOrderSpec)

/-- ITS FALSE NEIGHBOUR: 'it returns false'. Refute it at one input. -/
def fnExactIsJobOrderWrong : ChangeSpec := { name := "fnExactIsJobOrder", fn := fun _ => fun
  | [d1, d2] => { results := [.lit (.bool false)], args := [d1, d2] }
  | _ => none }
def FnExactIsJobOrderWrongFalsely : Prop := fnExactIsJobOrderRow.holds Try.pinned (OpenSpec.ofChange fnExactIsJobOrderWrong)

/-- 'laws.FnExactLatenessOf': WHATEVER THE INPUT: true; the input reads as it did. -/
def fnExactLatenessOfSpec : ChangeSpec := { name := "fnExactLatenessOf", fn := fun _ => fun
  | [d1, d2] => { results := [.lit (.bool true)], args := [d1, d2] }
  | _ => none }
def fnExactLatenessOfRow : OpenClaim := { program := "ytockeinpdioahaa", sum := "3ea8d0c94e0859c3d82fe35554fb4fd42bc861e1918b73b003ea75375cf8a398", func := "loop.example/g00315/laws.FnExactLatenessOf", spec := "fnExactLatenessOf", unfollowed := true, recurses := true, apart := false }
def FnExactLatenessOfSaid : Prop := fnExactLatenessOfRow.holds Try.pinned (OpenSpec.ofChange fnExactLatenessOfSpec)

/-- ITS FALSE NEIGHBOUR: 'it returns false'. Refute it at one input. -/
def fnExactLatenessOfWrong : ChangeSpec := { name := "fnExactLatenessOf", fn := fun _ => fun
  | [d1, d2] => { results := [.lit (.bool false)], args := [d1, d2] }
  | _ => none }
def FnExactLatenessOfWrongFalsely : Prop := fnExactLatenessOfRow.holds Try.pinned (OpenSpec.ofChange fnExactLatenessOfWrong)

/-- 'laws.FnExactLateIn': WHATEVER THE INPUT: true; the input reads as it did. -/
def fnExactLateInSpec : ChangeSpec := { name := "fnExactLateIn", fn := fun _ => fun
  | [d1, d2] => { results := [.lit (.bool true)], args := [d1, d2] }
  | _ => none }
def fnExactLateInRow : OpenClaim := { program := "ytockeinpdioahaa", sum := "3ea8d0c94e0859c3d82fe35554fb4fd42bc861e1918b73b003ea75375cf8a398", func := "loop.example/g00315/laws.FnExactLateIn", spec := "fnExactLateIn", unfollowed := true, recurses := true, apart := false }
def FnExactLateInSaid : Prop := fnExactLateInRow.holds Try.pinned (OpenSpec.ofChange fnExactLateInSpec)

/-- ITS FALSE NEIGHBOUR: 'it returns false'. Refute it at one input. -/
def fnExactLateInWrong : ChangeSpec := { name := "fnExactLateIn", fn := fun _ => fun
  | [d1, d2] => { results := [.lit (.bool false)], args := [d1, d2] }
  | _ => none }
def FnExactLateInWrongFalsely : Prop := fnExactLateInRow.holds Try.pinned (OpenSpec.ofChange fnExactLateInWrong)

/-- 'laws.FnExactFewestLate': WHATEVER THE INPUT: true; the input reads as it did. -/
def fnExactFewestLateSpec : ChangeSpec := { name := "fnExactFewestLate", fn := fun _ => fun
  | [d] => { results := [.lit (.bool true)], args := [d] }
  | _ => none }
def fnExactFewestLateRow : OpenClaim := { program := "ytockeinpdioahaa", sum := "3ea8d0c94e0859c3d82fe35554fb4fd42bc861e1918b73b003ea75375cf8a398", func := "loop.example/g00315/laws.FnExactFewestLate", spec := "fnExactFewestLate", unfollowed := true, recurses := true, apart := false }
def FnExactFewestLateSaid : Prop := fnExactFewestLateRow.holds Try.pinned (OpenSpec.ofChange fnExactFewestLateSpec)

/-- ITS FALSE NEIGHBOUR: 'it returns false'. Refute it at one input. -/
def fnExactFewestLateWrong : ChangeSpec := { name := "fnExactFewestLate", fn := fun _ => fun
  | [d] => { results := [.lit (.bool false)], args := [d] }
  | _ => none }
def FnExactFewestLateWrongFalsely : Prop := fnExactFewestLateRow.holds Try.pinned (OpenSpec.ofChange fnExactFewestLateWrong)

/-- 'laws.FnJackson': WHATEVER THE INPUT: true; the input reads as it did. -/
def fnJacksonSpec : ChangeSpec := { name := "fnJackson", fn := fun _ => fun
  | [d] => { results := [.lit (.bool true)], args := [d] }
  | _ => none }
def fnJacksonRow : OpenClaim := { program := "ytockeinpdioahaa", sum := "3ea8d0c94e0859c3d82fe35554fb4fd42bc861e1918b73b003ea75375cf8a398", func := "loop.example/g00315/laws.FnJackson", spec := "fnJackson", unfollowed := true, recurses := true, apart := false }
def FnJacksonSaid : Prop := fnJacksonRow.holds Try.pinned (OpenSpec.ofChange fnJacksonSpec)

/-- ITS FALSE NEIGHBOUR: 'it returns false'. Refute it at one input. -/
def fnJacksonWrong : ChangeSpec := { name := "fnJackson", fn := fun _ => fun
  | [d] => { results := [.lit (.bool false)], args := [d] }
  | _ => none }
def FnJacksonWrongFalsely : Prop := fnJacksonRow.holds Try.pinned (OpenSpec.ofChange fnJacksonWrong)

/-- 'laws.FnMoore': WHATEVER THE INPUT: true; the input reads as it did. -/
def fnMooreSpec : ChangeSpec := { name := "fnMoore", fn := fun _ => fun
  | [d1, d2] => { results := [.lit (.bool true)], args := [d1, d2] }
  | _ => none }
def fnMooreRow : OpenClaim := { program := "ytockeinpdioahaa", sum := "3ea8d0c94e0859c3d82fe35554fb4fd42bc861e1918b73b003ea75375cf8a398", func := "loop.example/g00315/laws.FnMoore", spec := "fnMoore", unfollowed := true, recurses := true, apart := false }
def FnMooreSaid : Prop := fnMooreRow.holds Try.pinned (OpenSpec.ofChange fnMooreSpec)

/-- ITS FALSE NEIGHBOUR: 'it returns false'. Refute it at one input. -/
def fnMooreWrong : ChangeSpec := { name := "fnMoore", fn := fun _ => fun
  | [d1, d2] => { results := [.lit (.bool false)], args := [d1, d2] }
  | _ => none }
def FnMooreWrongFalsely : Prop := fnMooreRow.holds Try.pinned (OpenSpec.ofChange fnMooreWrong)

/- THE SECOND FORM. 'bulk': how many values and letters a reading holds, each counted each time it is reached (what is shared counts as often as it is met; a slice's spare places count too). A statement '..UptoSaid' is the law's where the arguments, and the package variables that the reading takes, are together of bulk at most 1048576: NARROWER than '..Said'. Prove '..Said' where nothing that the law and all that it calls make is longer than what came in: it says more and counts as full. Else prove '..UptoSaid'. A law counts once. -/
mutual
def uptoBulk {H : Type} : DataW H → Nat
  | .lit (.string bytes) => bytes.length + 1
  | .lit _ => 1
  | .nil => 1
  | .ptr d => uptoBulk d + 1
  | .slice elems spare => uptoBulkAll elems + uptoBulkAll spare + 1
  | .agg parts => uptoBulkAll parts + 1
  | .iface _ d => uptoBulk d + 1
  | .map entries => uptoBulkEntries entries + 1
  | .held _ => 1
def uptoBulkAll {H : Type} : List (DataW H) → Nat
  | [] => 0
  | d :: r => uptoBulk d + uptoBulkAll r
def uptoBulkEntries {H : Type} : List (Lit × DataW H) → Nat
  | [] => 0
  | x :: r => uptoBulkEntry x + uptoBulkEntries r
def uptoBulkEntry {H : Type} : Lit × DataW H → Nat
  | (.string bytes, d) => bytes.length + uptoBulk d + 1
  | (_, d) => uptoBulk d + 1
 end
def uptoSmall : (H : Type) → List (DataW H) → Bool := fun _ ds => decide (uptoBulkAll ds ≤ 1048576)
def OpenSpec.upto (s : _root_.Go.ChangeSpec) : _root_.Go.OpenSpec := { _root_.Go.OpenSpec.ofChange s with cond := some uptoSmall }

/-- 'laws.FnExactGoodCell', WHERE WHAT IT READS IS OF BULK AT MOST 1048576: true; the input reads as it did. -/
def fnExactGoodCellUptoRow : OpenClaim := { program := "ytockeinpdioahaa", sum := "3ea8d0c94e0859c3d82fe35554fb4fd42bc861e1918b73b003ea75375cf8a398", func := "loop.example/g00315/laws.FnExactGoodCell", spec := "fnExactGoodCell", apart := false, narrowed := true }
def FnExactGoodCellUptoSaid : Prop := fnExactGoodCellUptoRow.holds Try.pinned (OpenSpec.upto fnExactGoodCellSpec)

/-- 'laws.FnExactGoodJobs', WHERE WHAT IT READS IS OF BULK AT MOST 1048576: true; the input reads as it did. -/
def fnExactGoodJobsUptoRow : OpenClaim := { program := "ytockeinpdioahaa", sum := "3ea8d0c94e0859c3d82fe35554fb4fd42bc861e1918b73b003ea75375cf8a398", func := "loop.example/g00315/laws.FnExactGoodJobs", spec := "fnExactGoodJobs", unfollowed := true, recurses := true, apart := false, narrowed := true }
def FnExactGoodJobsUptoSaid : Prop := fnExactGoodJobsUptoRow.holds Try.pinned (OpenSpec.upto fnExactGoodJobsSpec)

/-- 'laws.FnExactByDue', WHERE WHAT IT READS IS OF BULK AT MOST 1048576: true; the input reads as it did. -/
def fnExactByDueUptoRow : OpenClaim := { program := "ytockeinpdioahaa", sum := "3ea8d0c94e0859c3d82fe35554fb4fd42bc861e1918b73b003ea75375cf8a398", func := "loop.example/g00315/laws.FnExactByDue", spec := "fnExactByDue", unfollowed := true, recurses := true, apart := false, narrowed := true }
def FnExactByDueUptoSaid : Prop := fnExactByDueUptoRow.holds Try.pinned (OpenSpec.upto fnExactByDueSpec)

/-- 'laws.FnExactOrderFor', WHERE WHAT IT READS IS OF BULK AT MOST 1048576: true; the input reads as it did. -/
def fnExactOrderForUptoRow : OpenClaim := { program := "ytockeinpdioahaa", sum := "3ea8d0c94e0859c3d82fe35554fb4fd42bc861e1918b73b003ea75375cf8a398", func := "loop.example/g00315/laws.FnExactOrderFor", spec := "fnExactOrderFor", unfollowed := true, recurses := true, apart := false, narrowed := true }
def FnExactOrderForUptoSaid : Prop := fnExactOrderForUptoRow.holds Try.pinned (OpenSpec.upto fnExactOrderForSpec)

/-- 'laws.FnExactIsJobOrder', WHERE WHAT IT READS IS OF BULK AT MOST 1048576: true; the input reads as it did. -/
def fnExactIsJobOrderUptoRow : OpenClaim := { program := "ytockeinpdioahaa", sum := "3ea8d0c94e0859c3d82fe35554fb4fd42bc861e1918b73b003ea75375cf8a398", func := "loop.example/g00315/laws.FnExactIsJobOrder", spec := "fnExactIsJobOrder", unfollowed := true, recurses := true, apart := false, narrowed := true }
def FnExactIsJobOrderUptoSaid : Prop := fnExactIsJobOrderUptoRow.holds Try.pinned (OpenSpec.upto fnExactIsJobOrderSpec)

/-- 'laws.FnExactLatenessOf', WHERE WHAT IT READS IS OF BULK AT MOST 1048576: true; the input reads as it did. -/
def fnExactLatenessOfUptoRow : OpenClaim := { program := "ytockeinpdioahaa", sum := "3ea8d0c94e0859c3d82fe35554fb4fd42bc861e1918b73b003ea75375cf8a398", func := "loop.example/g00315/laws.FnExactLatenessOf", spec := "fnExactLatenessOf", unfollowed := true, recurses := true, apart := false, narrowed := true }
def FnExactLatenessOfUptoSaid : Prop := fnExactLatenessOfUptoRow.holds Try.pinned (OpenSpec.upto fnExactLatenessOfSpec)

/-- 'laws.FnExactLateIn', WHERE WHAT IT READS IS OF BULK AT MOST 1048576: true; the input reads as it did. -/
def fnExactLateInUptoRow : OpenClaim := { program := "ytockeinpdioahaa", sum := "3ea8d0c94e0859c3d82fe35554fb4fd42bc861e1918b73b003ea75375cf8a398", func := "loop.example/g00315/laws.FnExactLateIn", spec := "fnExactLateIn", unfollowed := true, recurses := true, apart := false, narrowed := true }
def FnExactLateInUptoSaid : Prop := fnExactLateInUptoRow.holds Try.pinned (OpenSpec.upto fnExactLateInSpec)

/-- 'laws.FnExactFewestLate', WHERE WHAT IT READS IS OF BULK AT MOST 1048576: true; the input reads as it did. -/
def fnExactFewestLateUptoRow : OpenClaim := { program := "ytockeinpdioahaa", sum := "3ea8d0c94e0859c3d82fe35554fb4fd42bc861e1918b73b003ea75375cf8a398", func := "loop.example/g00315/laws.FnExactFewestLate", spec := "fnExactFewestLate", unfollowed := true, recurses := true, apart := false, narrowed := true }
def FnExactFewestLateUptoSaid : Prop := fnExactFewestLateUptoRow.holds Try.pinned (OpenSpec.upto fnExactFewestLateSpec)

/-- 'laws.FnJackson', WHERE WHAT IT READS IS OF BULK AT MOST 1048576: true; the input reads as it did. -/
def fnJacksonUptoRow : OpenClaim := { program := "ytockeinpdioahaa", sum := "3ea8d0c94e0859c3d82fe35554fb4fd42bc861e1918b73b003ea75375cf8a398", func := "loop.example/g00315/laws.FnJackson", spec := "fnJackson", unfollowed := true, recurses := true, apart := false, narrowed := true }
def FnJacksonUptoSaid : Prop := fnJacksonUptoRow.holds Try.pinned (OpenSpec.upto fnJacksonSpec)

/-- 'laws.FnMoore', WHERE WHAT IT READS IS OF BULK AT MOST 1048576: true; the input reads as it did. -/
def fnMooreUptoRow : OpenClaim := { program := "ytockeinpdioahaa", sum := "3ea8d0c94e0859c3d82fe35554fb4fd42bc861e1918b73b003ea75375cf8a398", func := "loop.example/g00315/laws.FnMoore", spec := "fnMoore", unfollowed := true, recurses := true, apart := false, narrowed := true }
def FnMooreUptoSaid : Prop := fnMooreUptoRow.holds Try.pinned (OpenSpec.upto fnMooreSpec)

end Rows
end Go.Proofs.Ytockeinpdioahaa
