/-
  No cell of these rows narrows 'for every input' (looked for: loops, veiled, ifaces, maps, wideKeys, modest, calm, conditions, laid).
  DERIVED. THE GIVEN ROWS OF THIS SEAT. 9 by the template 'for every input the law returns true; each argument reads behind the call as it read before'; 0 by the template 'total and deterministic' (their statements: YtcljaokjjnmioaaTotals.lean).
  GIVEN WITH THE SEED: the statements are not yours to turn. If you find one false, say at which input.
  Laid BY PROGRAM, IN A SANDBOX (cutbox-rows.mjs): the forced cells as the released guide's own fill.sh prints them over the translation a10285e5f2f8e6ec… (all of the seat's roots in one cut). By AI agents, Wed Nov 11 2026. No macro, syntax, notation, axiom, sorry.
-/
import Derived.Test.YtcljaokjjnmioaaChecked
import GoSem.Claim
import GoSem.ClaimJoined
import GoSem.ClaimMapViews
import Derived.JoinedTies
import Derived.KernelRfl
namespace Go.Proofs.Ytcljaokjjnmioaa
/- THE CELL 'sum', in the pinned program and in every row, IS THE sha256 OF THE DUMP (.gsa) THAT YtcljaokjjnmioaaProg.lean LOADS. Nothing in Lean hashes anything: it is a label: what it is worth is what the hold of that sum in a sandbox is worth. -/
noncomputable def Try.pinned : Pinned := { name := "ytcljaokjjnmioaa", sum := "a10285e5f2f8e6ecef2f19f27021c991de31af894fde26174b7d60eb19be4eef", checked := Try.checked }
namespace Rows
def none {H : Type} : Left H := { results := [], args := [] }

/-- 'laws.FnExactGoodRoads': WHATEVER THE INPUT: true; the input reads as it did. -/
def fnExactGoodRoadsSpec : ChangeSpec := { name := "fnExactGoodRoads", fn := fun _ => fun
  | [d] => { results := [.lit (.bool true)], args := [d] }
  | _ => none }
def fnExactGoodRoadsRow : OpenClaim := { program := "ytcljaokjjnmioaa", sum := "a10285e5f2f8e6ecef2f19f27021c991de31af894fde26174b7d60eb19be4eef", func := "loop.example/g00315/laws.FnExactGoodRoads", spec := "fnExactGoodRoads", unfollowed := true, recurses := true, apart := false }
def FnExactGoodRoadsSaid : Prop := fnExactGoodRoadsRow.holds Try.pinned (OpenSpec.ofChange fnExactGoodRoadsSpec)

/-- ITS FALSE NEIGHBOUR: 'it returns false'. Refute it at one input. -/
def fnExactGoodRoadsWrong : ChangeSpec := { name := "fnExactGoodRoads", fn := fun _ => fun
  | [d] => { results := [.lit (.bool false)], args := [d] }
  | _ => none }
def FnExactGoodRoadsWrongFalsely : Prop := fnExactGoodRoadsRow.holds Try.pinned (OpenSpec.ofChange fnExactGoodRoadsWrong)

/-- 'laws.FnExactHasGain': WHATEVER THE INPUT: true; the input reads as it did. -/
def fnExactHasGainSpec : ChangeSpec := { name := "fnExactHasGain", fn := fun _ => fun
  | [d] => { results := [.lit (.bool true)], args := [d] }
  | _ => none }
def fnExactHasGainRow : OpenClaim := { program := "ytcljaokjjnmioaa", sum := "a10285e5f2f8e6ecef2f19f27021c991de31af894fde26174b7d60eb19be4eef", func := "loop.example/g00315/laws.FnExactHasGain", spec := "fnExactHasGain", unfollowed := true, recurses := true, apart := false }
def FnExactHasGainSaid : Prop := fnExactHasGainRow.holds Try.pinned (OpenSpec.ofChange fnExactHasGainSpec)

/-- ITS FALSE NEIGHBOUR: 'it returns false'. Refute it at one input. -/
def fnExactHasGainWrong : ChangeSpec := { name := "fnExactHasGain", fn := fun _ => fun
  | [d] => { results := [.lit (.bool false)], args := [d] }
  | _ => none }
def FnExactHasGainWrongFalsely : Prop := fnExactHasGainRow.holds Try.pinned (OpenSpec.ofChange fnExactHasGainWrong)

/-- 'laws.FnExactPotentialsOf': WHATEVER THE INPUT: true; the input reads as it did. -/
def fnExactPotentialsOfSpec : ChangeSpec := { name := "fnExactPotentialsOf", fn := fun _ => fun
  | [d] => { results := [.lit (.bool true)], args := [d] }
  | _ => none }
def fnExactPotentialsOfRow : OpenClaim := { program := "ytcljaokjjnmioaa", sum := "a10285e5f2f8e6ecef2f19f27021c991de31af894fde26174b7d60eb19be4eef", func := "loop.example/g00315/laws.FnExactPotentialsOf", spec := "fnExactPotentialsOf", unfollowed := true, recurses := true, apart := false }
def FnExactPotentialsOfSaid : Prop := fnExactPotentialsOfRow.holds Try.pinned (OpenSpec.ofChange fnExactPotentialsOfSpec)

/-- ITS FALSE NEIGHBOUR: 'it returns false'. Refute it at one input. -/
def fnExactPotentialsOfWrong : ChangeSpec := { name := "fnExactPotentialsOf", fn := fun _ => fun
  | [d] => { results := [.lit (.bool false)], args := [d] }
  | _ => none }
def FnExactPotentialsOfWrongFalsely : Prop := fnExactPotentialsOfRow.holds Try.pinned (OpenSpec.ofChange fnExactPotentialsOfWrong)

/-- 'laws.FnExactReducedRoads': WHATEVER THE INPUT: true; the input reads as it did. -/
def fnExactReducedRoadsSpec : ChangeSpec := { name := "fnExactReducedRoads", fn := fun _ => fun
  | [d] => { results := [.lit (.bool true)], args := [d] }
  | _ => none }
def fnExactReducedRoadsRow : OpenClaim := { program := "ytcljaokjjnmioaa", sum := "a10285e5f2f8e6ecef2f19f27021c991de31af894fde26174b7d60eb19be4eef", func := "loop.example/g00315/laws.FnExactReducedRoads", spec := "fnExactReducedRoads", unfollowed := true, recurses := true, apart := false }
def FnExactReducedRoadsSaid : Prop := fnExactReducedRoadsRow.holds Try.pinned (OpenSpec.ofChange fnExactReducedRoadsSpec)

/-- ITS FALSE NEIGHBOUR: 'it returns false'. Refute it at one input. -/
def fnExactReducedRoadsWrong : ChangeSpec := { name := "fnExactReducedRoads", fn := fun _ => fun
  | [d] => { results := [.lit (.bool false)], args := [d] }
  | _ => none }
def FnExactReducedRoadsWrongFalsely : Prop := fnExactReducedRoadsRow.holds Try.pinned (OpenSpec.ofChange fnExactReducedRoadsWrong)

/-- 'laws.FnExactCostFrom': WHATEVER THE INPUT: true; the input reads as it did. -/
def fnExactCostFromSpec : ChangeSpec := { name := "fnExactCostFrom", fn := fun _ => fun
  | [d1, d2] => { results := [.lit (.bool true)], args := [d1, d2] }
  | _ => none }
def fnExactCostFromRow : OpenClaim := { program := "ytcljaokjjnmioaa", sum := "a10285e5f2f8e6ecef2f19f27021c991de31af894fde26174b7d60eb19be4eef", func := "loop.example/g00315/laws.FnExactCostFrom", spec := "fnExactCostFrom", unfollowed := true, recurses := true, apart := false }
def FnExactCostFromSaid : Prop := fnExactCostFromRow.holds Try.pinned (OpenSpec.ofChange fnExactCostFromSpec)

/-- ITS FALSE NEIGHBOUR: 'it returns false'. Refute it at one input. -/
def fnExactCostFromWrong : ChangeSpec := { name := "fnExactCostFrom", fn := fun _ => fun
  | [d1, d2] => { results := [.lit (.bool false)], args := [d1, d2] }
  | _ => none }
def FnExactCostFromWrongFalsely : Prop := fnExactCostFromRow.holds Try.pinned (OpenSpec.ofChange fnExactCostFromWrong)

/-- 'laws.FnExactAllCosts': WHATEVER THE INPUT: true; the input reads as it did. -/
def fnExactAllCostsSpec : ChangeSpec := { name := "fnExactAllCosts", fn := fun _ => fun
  | [d] => { results := [.lit (.bool true)], args := [d] }
  | _ => none }
def fnExactAllCostsRow : OpenClaim := { program := "ytcljaokjjnmioaa", sum := "a10285e5f2f8e6ecef2f19f27021c991de31af894fde26174b7d60eb19be4eef", func := "loop.example/g00315/laws.FnExactAllCosts", spec := "fnExactAllCosts", unfollowed := true, recurses := true, apart := false }
def FnExactAllCostsSaid : Prop := fnExactAllCostsRow.holds Try.pinned (OpenSpec.ofChange fnExactAllCostsSpec)

/-- ITS FALSE NEIGHBOUR: 'it returns false'. Refute it at one input. -/
def fnExactAllCostsWrong : ChangeSpec := { name := "fnExactAllCosts", fn := fun _ => fun
  | [d] => { results := [.lit (.bool false)], args := [d] }
  | _ => none }
def FnExactAllCostsWrongFalsely : Prop := fnExactAllCostsRow.holds Try.pinned (OpenSpec.ofChange fnExactAllCostsWrong)

/-- 'laws.FnExactWayBetween': WHATEVER THE INPUT: true; the input reads as it did. -/
def fnExactWayBetweenSpec : ChangeSpec := { name := "fnExactWayBetween", fn := fun _ => fun
  | [d1, d2, d3] => { results := [.lit (.bool true)], args := [d1, d2, d3] }
  | _ => none }
def fnExactWayBetweenRow : OpenClaim := { program := "ytcljaokjjnmioaa", sum := "a10285e5f2f8e6ecef2f19f27021c991de31af894fde26174b7d60eb19be4eef", func := "loop.example/g00315/laws.FnExactWayBetween", spec := "fnExactWayBetween", unfollowed := true, recurses := true, apart := false }
def FnExactWayBetweenSaid : Prop := fnExactWayBetweenRow.holds Try.pinned (OpenSpec.ofChange fnExactWayBetweenSpec)

/-- ITS FALSE NEIGHBOUR: 'it returns false'. Refute it at one input. -/
def fnExactWayBetweenWrong : ChangeSpec := { name := "fnExactWayBetween", fn := fun _ => fun
  | [d1, d2, d3] => { results := [.lit (.bool false)], args := [d1, d2, d3] }
  | _ => none }
def FnExactWayBetweenWrongFalsely : Prop := fnExactWayBetweenRow.holds Try.pinned (OpenSpec.ofChange fnExactWayBetweenWrong)

/-- 'laws.FnAllCosts': WHATEVER THE INPUT: true; the input reads as it did. -/
def fnAllCostsSpec : ChangeSpec := { name := "fnAllCosts", fn := fun _ => fun
  | [d1, d2] => { results := [.lit (.bool true)], args := [d1, d2] }
  | _ => none }
def fnAllCostsRow : OpenClaim := { program := "ytcljaokjjnmioaa", sum := "a10285e5f2f8e6ecef2f19f27021c991de31af894fde26174b7d60eb19be4eef", func := "loop.example/g00315/laws.FnAllCosts", spec := "fnAllCosts", unfollowed := true, recurses := true, apart := false }
def FnAllCostsSaid : Prop := fnAllCostsRow.holds Try.pinned (OpenSpec.ofChange fnAllCostsSpec)

/-- ITS FALSE NEIGHBOUR: 'it returns false'. Refute it at one input. -/
def fnAllCostsWrong : ChangeSpec := { name := "fnAllCosts", fn := fun _ => fun
  | [d1, d2] => { results := [.lit (.bool false)], args := [d1, d2] }
  | _ => none }
def FnAllCostsWrongFalsely : Prop := fnAllCostsRow.holds Try.pinned (OpenSpec.ofChange fnAllCostsWrong)

/-- 'laws.FnPotentials': WHATEVER THE INPUT: true; the input reads as it did. -/
def fnPotentialsSpec : ChangeSpec := { name := "fnPotentials", fn := fun _ => fun
  | [d1, d2] => { results := [.lit (.bool true)], args := [d1, d2] }
  | _ => none }
def fnPotentialsRow : OpenClaim := { program := "ytcljaokjjnmioaa", sum := "a10285e5f2f8e6ecef2f19f27021c991de31af894fde26174b7d60eb19be4eef", func := "loop.example/g00315/laws.FnPotentials", spec := "fnPotentials", unfollowed := true, recurses := true, apart := false }
def FnPotentialsSaid : Prop := fnPotentialsRow.holds Try.pinned (OpenSpec.ofChange fnPotentialsSpec)

/-- ITS FALSE NEIGHBOUR: 'it returns false'. Refute it at one input. -/
def fnPotentialsWrong : ChangeSpec := { name := "fnPotentials", fn := fun _ => fun
  | [d1, d2] => { results := [.lit (.bool false)], args := [d1, d2] }
  | _ => none }
def FnPotentialsWrongFalsely : Prop := fnPotentialsRow.holds Try.pinned (OpenSpec.ofChange fnPotentialsWrong)

/- THE SECOND FORM. 'bulk': how many values and letters a reading holds, each counted each time it is reached (what is shared counts as often as it is met; a slice's spare places count too). A statement '..UptoSaid' is the law's where the arguments, and the package variables that the reading takes, are together of bulk at most 1048576: NARROWER than '..Said'. Prove '..Said' where nothing that the law and all that it calls make is longer than what came in: it says more and counts as full. Else prove '..UptoSaid'. A law counts once. -/
mutual
def uptoBulk {H : Type} : DataW H → Nat
  | .lit (.string bytes) => bytes.length + 1
  | .lit _ => 1
  | .nil => 1
  | .ptr d => uptoBulk d + 1
  | .slice elems spare => uptoBulkAll elems + uptoBulkAll spare + 1
  | .agg parts => uptoBulkAll parts + 1
  | .iface _ d => uptoBulk d + 1
  | .map entries => uptoBulkEntries entries + 1
  | .held _ => 1
def uptoBulkAll {H : Type} : List (DataW H) → Nat
  | [] => 0
  | d :: r => uptoBulk d + uptoBulkAll r
def uptoBulkEntries {H : Type} : List (Lit × DataW H) → Nat
  | [] => 0
  | x :: r => uptoBulkEntry x + uptoBulkEntries r
def uptoBulkEntry {H : Type} : Lit × DataW H → Nat
  | (.string bytes, d) => bytes.length + uptoBulk d + 1
  | (_, d) => uptoBulk d + 1
 end
def uptoSmall : (H : Type) → List (DataW H) → Bool := fun _ ds => decide (uptoBulkAll ds ≤ 1048576)
def OpenSpec.upto (s : _root_.Go.ChangeSpec) : _root_.Go.OpenSpec := { _root_.Go.OpenSpec.ofChange s with cond := some uptoSmall }

/-- 'laws.FnExactGoodRoads', WHERE WHAT IT READS IS OF BULK AT MOST 1048576: true; the input reads as it did. -/
def fnExactGoodRoadsUptoRow : OpenClaim := { program := "ytcljaokjjnmioaa", sum := "a10285e5f2f8e6ecef2f19f27021c991de31af894fde26174b7d60eb19be4eef", func := "loop.example/g00315/laws.FnExactGoodRoads", spec := "fnExactGoodRoads", unfollowed := true, recurses := true, apart := false, narrowed := true }
def FnExactGoodRoadsUptoSaid : Prop := fnExactGoodRoadsUptoRow.holds Try.pinned (OpenSpec.upto fnExactGoodRoadsSpec)

/-- 'laws.FnExactHasGain', WHERE WHAT IT READS IS OF BULK AT MOST 1048576: true; the input reads as it did. -/
def fnExactHasGainUptoRow : OpenClaim := { program := "ytcljaokjjnmioaa", sum := "a10285e5f2f8e6ecef2f19f27021c991de31af894fde26174b7d60eb19be4eef", func := "loop.example/g00315/laws.FnExactHasGain", spec := "fnExactHasGain", unfollowed := true, recurses := true, apart := false, narrowed := true }
def FnExactHasGainUptoSaid : Prop := fnExactHasGainUptoRow.holds Try.pinned (OpenSpec.upto fnExactHasGainSpec)

/-- 'laws.FnExactPotentialsOf', WHERE WHAT IT READS IS OF BULK AT MOST 1048576: true; the input reads as it did. -/
def fnExactPotentialsOfUptoRow : OpenClaim := { program := "ytcljaokjjnmioaa", sum := "a10285e5f2f8e6ecef2f19f27021c991de31af894fde26174b7d60eb19be4eef", func := "loop.example/g00315/laws.FnExactPotentialsOf", spec := "fnExactPotentialsOf", unfollowed := true, recurses := true, apart := false, narrowed := true }
def FnExactPotentialsOfUptoSaid : Prop := fnExactPotentialsOfUptoRow.holds Try.pinned (OpenSpec.upto fnExactPotentialsOfSpec)

/-- 'laws.FnExactReducedRoads', WHERE WHAT IT READS IS OF BULK AT MOST 1048576: true; the input reads as it did. -/
def fnExactReducedRoadsUptoRow : OpenClaim := { program := "ytcljaokjjnmioaa", sum := "a10285e5f2f8e6ecef2f19f27021c991de31af894fde26174b7d60eb19be4eef", func := "loop.example/g00315/laws.FnExactReducedRoads", spec := "fnExactReducedRoads", unfollowed := true, recurses := true, apart := false, narrowed := true }
def FnExactReducedRoadsUptoSaid : Prop := fnExactReducedRoadsUptoRow.holds Try.pinned (OpenSpec.upto fnExactReducedRoadsSpec)

/-- 'laws.FnExactCostFrom', WHERE WHAT IT READS IS OF BULK AT MOST 1048576: true; the input reads as it did. -/
def fnExactCostFromUptoRow : OpenClaim := { program := "ytcljaokjjnmioaa", sum := "a10285e5f2f8e6ecef2f19f27021c991de31af894fde26174b7d60eb19be4eef", func := "loop.example/g00315/laws.FnExactCostFrom", spec := "fnExactCostFrom", unfollowed := true, recurses := true, apart := false, narrowed := true }
def FnExactCostFromUptoSaid : Prop := fnExactCostFromUptoRow.holds Try.pinned (OpenSpec.upto fnExactCostFromSpec)

/-- 'laws.FnExactAllCosts', WHERE WHAT IT READS IS OF BULK AT MOST 1048576: true; the input reads as it did. -/
def fnExactAllCostsUptoRow : OpenClaim := { program := "ytcljaokjjnmioaa", sum := "a10285e5f2f8e6ecef2f19f27021c991de31af894fde26174b7d60eb19be4eef", func := "loop.example/g00315/laws.FnExactAllCosts", spec := "fnExactAllCosts", unfollowed := true, recurses := true, apart := false, narrowed := true }
def FnExactAllCostsUptoSaid : Prop := fnExactAllCostsUptoRow.holds Try.pinned (OpenSpec.upto fnExactAllCostsSpec)

/-- 'laws.FnExactWayBetween', WHERE WHAT IT READS IS OF BULK AT MOST 1048576: true; the input reads as it did. -/
def fnExactWayBetweenUptoRow : OpenClaim := { program := "ytcljaokjjnmioaa", sum := "a10285e5f2f8e6ecef2f19f27021c991de31af894fde26174b7d60eb19be4eef", func := "loop.example/g00315/laws.FnExactWayBetween", spec := "fnExactWayBetween", unfollowed := true, recurses := true, apart := false, narrowed := true }
def FnExactWayBetweenUptoSaid : Prop := fnExactWayBetweenUptoRow.holds Try.pinned (OpenSpec.upto fnExactWayBetweenSpec)

/-- 'laws.FnAllCosts', WHERE WHAT IT READS IS OF BULK AT MOST 1048576: true; the input reads as it did. -/
def fnAllCostsUptoRow : OpenClaim := { program := "ytcljaokjjnmioaa", sum := "a10285e5f2f8e6ecef2f19f27021c991de31af894fde26174b7d60eb19be4eef", func := "loop.example/g00315/laws.FnAllCosts", spec := "fnAllCosts", unfollowed := true, recurses := true, apart := false, narrowed := true }
def FnAllCostsUptoSaid : Prop := fnAllCostsUptoRow.holds Try.pinned (OpenSpec.upto fnAllCostsSpec)

/-- 'laws.FnPotentials', WHERE WHAT IT READS IS OF BULK AT MOST 1048576: true; the input reads as it did. -/
def fnPotentialsUptoRow : OpenClaim := { program := "ytcljaokjjnmioaa", sum := "a10285e5f2f8e6ecef2f19f27021c991de31af894fde26174b7d60eb19be4eef", func := "loop.example/g00315/laws.FnPotentials", spec := "fnPotentials", unfollowed := true, recurses := true, apart := false, narrowed := true }
def FnPotentialsUptoSaid : Prop := fnPotentialsUptoRow.holds Try.pinned (OpenSpec.upto fnPotentialsSpec)

end Rows
end Go.Proofs.Ytcljaokjjnmioaa
