/-
  No cell of these rows narrows 'for every input' (looked for: loops, veiled, ifaces, maps, wideKeys, modest, calm, conditions, laid).
  DERIVED. THE GIVEN ROWS OF THIS SEAT. 7 by the template 'for every input the law returns true; each argument reads behind the call as it read before'; 0 by the template 'total and deterministic' (their statements: YtnfcnocoehkgoaaTotals.lean).
  GIVEN WITH THE SEED: the statements are not yours to turn. If you find one false, say at which input.
  Laid BY PROGRAM, IN A SANDBOX (cutbox-rows.mjs): the forced cells as the released guide's own fill.sh prints them over the translation 68e43c59f824d52b… (all of the seat's roots in one cut). By AI agents, Wed Nov 11 2026. No macro, syntax, notation, axiom, sorry.
-/
import Derived.Test.YtnfcnocoehkgoaaChecked
import GoSem.Claim
import GoSem.ClaimJoined
import GoSem.ClaimMapViews
import Derived.JoinedTies
import Derived.KernelRfl
namespace Go.Proofs.Ytnfcnocoehkgoaa
/- THE CELL 'sum', in the pinned program and in every row, IS THE sha256 OF THE DUMP (.gsa) THAT YtnfcnocoehkgoaaProg.lean LOADS. Nothing in Lean hashes anything: it is a label: what it is worth is what the hold of that sum in a sandbox is worth. -/
noncomputable def Try.pinned : Pinned := { name := "ytnfcnocoehkgoaa", sum := "68e43c59f824d52bfd054557da358371fb3d9dd8a3075278034495ffbabf5df9", checked := Try.checked }
namespace Rows
def none {H : Type} : Left H := { results := [], args := [] }

/-- 'laws.FnExactCutOf': WHATEVER THE INPUT: true; the input reads as it did. -/
def fnExactCutOfSpec : ChangeSpec := { name := "fnExactCutOf", fn := fun _ => fun
  | [d1, d2] => { results := [.lit (.bool true)], args := [d1, d2] }
  | _ => none }
def fnExactCutOfRow : OpenClaim := { program := "ytnfcnocoehkgoaa", sum := "68e43c59f824d52bfd054557da358371fb3d9dd8a3075278034495ffbabf5df9", func := "loop.example/g00315/laws.FnExactCutOf", spec := "fnExactCutOf", unfollowed := true, recurses := true, apart := false }
def FnExactCutOfSaid : Prop := fnExactCutOfRow.holds Try.pinned (OpenSpec.ofChange fnExactCutOfSpec)

/-- ITS FALSE NEIGHBOUR: 'it returns false'. Refute it at one input. -/
def fnExactCutOfWrong : ChangeSpec := { name := "fnExactCutOf", fn := fun _ => fun
  | [d1, d2] => { results := [.lit (.bool false)], args := [d1, d2] }
  | _ => none }
def FnExactCutOfWrongFalsely : Prop := fnExactCutOfRow.holds Try.pinned (OpenSpec.ofChange fnExactCutOfWrong)

/-- 'laws.FnExactPartsOf': WHATEVER THE INPUT: true; the input reads as it did. -/
def fnExactPartsOfSpec : ChangeSpec := { name := "fnExactPartsOf", fn := fun _ => fun
  | [d1, d2] => { results := [.lit (.bool true)], args := [d1, d2] }
  | _ => none }
def fnExactPartsOfRow : OpenClaim := { program := "ytnfcnocoehkgoaa", sum := "68e43c59f824d52bfd054557da358371fb3d9dd8a3075278034495ffbabf5df9", func := "loop.example/g00315/laws.FnExactPartsOf", spec := "fnExactPartsOf", unfollowed := true, recurses := true, apart := false }
def FnExactPartsOfSaid : Prop := fnExactPartsOfRow.holds Try.pinned (OpenSpec.ofChange fnExactPartsOfSpec)

/-- ITS FALSE NEIGHBOUR: 'it returns false'. Refute it at one input. -/
def fnExactPartsOfWrong : ChangeSpec := { name := "fnExactPartsOf", fn := fun _ => fun
  | [d1, d2] => { results := [.lit (.bool false)], args := [d1, d2] }
  | _ => none }
def FnExactPartsOfWrongFalsely : Prop := fnExactPartsOfRow.holds Try.pinned (OpenSpec.ofChange fnExactPartsOfWrong)

/-- 'laws.FnExactPathIn': WHATEVER THE INPUT: true; the input reads as it did. -/
def fnExactPathInSpec : ChangeSpec := { name := "fnExactPathIn", fn := fun _ => fun
  | [d1, d2, d3, d4] => { results := [.lit (.bool true)], args := [d1, d2, d3, d4] }
  | _ => none }
def fnExactPathInRow : OpenClaim := { program := "ytnfcnocoehkgoaa", sum := "68e43c59f824d52bfd054557da358371fb3d9dd8a3075278034495ffbabf5df9", func := "loop.example/g00315/laws.FnExactPathIn", spec := "fnExactPathIn", unfollowed := true, recurses := true, apart := false }
def FnExactPathInSaid : Prop := fnExactPathInRow.holds Try.pinned (OpenSpec.ofChange fnExactPathInSpec)

/-- ITS FALSE NEIGHBOUR: 'it returns false'. Refute it at one input. -/
def fnExactPathInWrong : ChangeSpec := { name := "fnExactPathIn", fn := fun _ => fun
  | [d1, d2, d3, d4] => { results := [.lit (.bool false)], args := [d1, d2, d3, d4] }
  | _ => none }
def FnExactPathInWrongFalsely : Prop := fnExactPathInRow.holds Try.pinned (OpenSpec.ofChange fnExactPathInWrong)

/-- 'laws.FnExactPrim': WHATEVER THE INPUT: true; the input reads as it did. -/
def fnExactPrimSpec : ChangeSpec := { name := "fnExactPrim", fn := fun _ => fun
  | [d] => { results := [.lit (.bool true)], args := [d] }
  | _ => none }
def fnExactPrimRow : OpenClaim := { program := "ytnfcnocoehkgoaa", sum := "68e43c59f824d52bfd054557da358371fb3d9dd8a3075278034495ffbabf5df9", func := "loop.example/g00315/laws.FnExactPrim", spec := "fnExactPrim", unfollowed := true, recurses := true, apart := false }
def FnExactPrimSaid : Prop := fnExactPrimRow.holds Try.pinned (OpenSpec.ofChange fnExactPrimSpec)

/-- ITS FALSE NEIGHBOUR: 'it returns false'. Refute it at one input. -/
def fnExactPrimWrong : ChangeSpec := { name := "fnExactPrim", fn := fun _ => fun
  | [d] => { results := [.lit (.bool false)], args := [d] }
  | _ => none }
def FnExactPrimWrongFalsely : Prop := fnExactPrimRow.holds Try.pinned (OpenSpec.ofChange fnExactPrimWrong)

/-- 'laws.FnExactKruskal': WHATEVER THE INPUT: true; the input reads as it did. -/
def fnExactKruskalSpec : ChangeSpec := { name := "fnExactKruskal", fn := fun _ => fun
  | [d] => { results := [.lit (.bool true)], args := [d] }
  | _ => none }
def fnExactKruskalRow : OpenClaim := { program := "ytnfcnocoehkgoaa", sum := "68e43c59f824d52bfd054557da358371fb3d9dd8a3075278034495ffbabf5df9", func := "loop.example/g00315/laws.FnExactKruskal", spec := "fnExactKruskal", unfollowed := true, recurses := true, apart := false }
def FnExactKruskalSaid : Prop := fnExactKruskalRow.holds Try.pinned (OpenSpec.ofChange fnExactKruskalSpec)

/-- ITS FALSE NEIGHBOUR: 'it returns false'. Refute it at one input. -/
def fnExactKruskalWrong : ChangeSpec := { name := "fnExactKruskal", fn := fun _ => fun
  | [d] => { results := [.lit (.bool false)], args := [d] }
  | _ => none }
def FnExactKruskalWrongFalsely : Prop := fnExactKruskalRow.holds Try.pinned (OpenSpec.ofChange fnExactKruskalWrong)

/-- 'laws.FnCuts': WHATEVER THE INPUT: true; the input reads as it did. -/
def fnCutsSpec : ChangeSpec := { name := "fnCuts", fn := fun _ => fun
  | [d1, d2] => { results := [.lit (.bool true)], args := [d1, d2] }
  | _ => none }
def fnCutsRow : OpenClaim := { program := "ytnfcnocoehkgoaa", sum := "68e43c59f824d52bfd054557da358371fb3d9dd8a3075278034495ffbabf5df9", func := "loop.example/g00315/laws.FnCuts", spec := "fnCuts", unfollowed := true, recurses := true, apart := false }
def FnCutsSaid : Prop := fnCutsRow.holds Try.pinned (OpenSpec.ofChange fnCutsSpec)

/-- ITS FALSE NEIGHBOUR: 'it returns false'. Refute it at one input. -/
def fnCutsWrong : ChangeSpec := { name := "fnCuts", fn := fun _ => fun
  | [d1, d2] => { results := [.lit (.bool false)], args := [d1, d2] }
  | _ => none }
def FnCutsWrongFalsely : Prop := fnCutsRow.holds Try.pinned (OpenSpec.ofChange fnCutsWrong)

/-- 'laws.FnTrees': WHATEVER THE INPUT: true; the input reads as it did. -/
def fnTreesSpec : ChangeSpec := { name := "fnTrees", fn := fun _ => fun
  | [d] => { results := [.lit (.bool true)], args := [d] }
  | _ => none }
def fnTreesRow : OpenClaim := { program := "ytnfcnocoehkgoaa", sum := "68e43c59f824d52bfd054557da358371fb3d9dd8a3075278034495ffbabf5df9", func := "loop.example/g00315/laws.FnTrees", spec := "fnTrees", unfollowed := true, recurses := true, apart := false }
def FnTreesSaid : Prop := fnTreesRow.holds Try.pinned (OpenSpec.ofChange fnTreesSpec)

/-- ITS FALSE NEIGHBOUR: 'it returns false'. Refute it at one input. -/
def fnTreesWrong : ChangeSpec := { name := "fnTrees", fn := fun _ => fun
  | [d] => { results := [.lit (.bool false)], args := [d] }
  | _ => none }
def FnTreesWrongFalsely : Prop := fnTreesRow.holds Try.pinned (OpenSpec.ofChange fnTreesWrong)

/- THE SECOND FORM. 'bulk': how many values and letters a reading holds, each counted each time it is reached (what is shared counts as often as it is met; a slice's spare places count too). A statement '..UptoSaid' is the law's where the arguments, and the package variables that the reading takes, are together of bulk at most 1048576: NARROWER than '..Said'. Prove '..Said' where nothing that the law and all that it calls make is longer than what came in: it says more and counts as full. Else prove '..UptoSaid'. A law counts once. -/
mutual
def uptoBulk {H : Type} : DataW H → Nat
  | .lit (.string bytes) => bytes.length + 1
  | .lit _ => 1
  | .nil => 1
  | .ptr d => uptoBulk d + 1
  | .slice elems spare => uptoBulkAll elems + uptoBulkAll spare + 1
  | .agg parts => uptoBulkAll parts + 1
  | .iface _ d => uptoBulk d + 1
  | .map entries => uptoBulkEntries entries + 1
  | .held _ => 1
def uptoBulkAll {H : Type} : List (DataW H) → Nat
  | [] => 0
  | d :: r => uptoBulk d + uptoBulkAll r
def uptoBulkEntries {H : Type} : List (Lit × DataW H) → Nat
  | [] => 0
  | x :: r => uptoBulkEntry x + uptoBulkEntries r
def uptoBulkEntry {H : Type} : Lit × DataW H → Nat
  | (.string bytes, d) => bytes.length + uptoBulk d + 1
  | (_, d) => uptoBulk d + 1
 end
def uptoSmall : (H : Type) → List (DataW H) → Bool := fun _ ds => decide (uptoBulkAll ds ≤ 1048576)
def OpenSpec.upto (s : _root_.Go.ChangeSpec) : _root_.Go.OpenSpec := { _root_.Go.OpenSpec.ofChange s with cond := some uptoSmall }

/-- 'laws.FnExactCutOf', WHERE WHAT IT READS IS OF BULK AT MOST 1048576: true; the input reads as it did. -/
def fnExactCutOfUptoRow : OpenClaim := { program := "ytnfcnocoehkgoaa", sum := "68e43c59f824d52bfd054557da358371fb3d9dd8a3075278034495ffbabf5df9", func := "loop.example/g00315/laws.FnExactCutOf", spec := "fnExactCutOf", unfollowed := true, recurses := true, apart := false, narrowed := true }
def FnExactCutOfUptoSaid : Prop := fnExactCutOfUptoRow.holds Try.pinned (OpenSpec.upto fnExactCutOfSpec)

/-- 'laws.FnExactPartsOf', WHERE WHAT IT READS IS OF BULK AT MOST 1048576: true; the input reads as it did. -/
def fnExactPartsOfUptoRow : OpenClaim := { program := "ytnfcnocoehkgoaa", sum := "68e43c59f824d52bfd054557da358371fb3d9dd8a3075278034495ffbabf5df9", func := "loop.example/g00315/laws.FnExactPartsOf", spec := "fnExactPartsOf", unfollowed := true, recurses := true, apart := false, narrowed := true }
def FnExactPartsOfUptoSaid : Prop := fnExactPartsOfUptoRow.holds Try.pinned (OpenSpec.upto fnExactPartsOfSpec)

/-- 'laws.FnExactPathIn', WHERE WHAT IT READS IS OF BULK AT MOST 1048576: true; the input reads as it did. -/
def fnExactPathInUptoRow : OpenClaim := { program := "ytnfcnocoehkgoaa", sum := "68e43c59f824d52bfd054557da358371fb3d9dd8a3075278034495ffbabf5df9", func := "loop.example/g00315/laws.FnExactPathIn", spec := "fnExactPathIn", unfollowed := true, recurses := true, apart := false, narrowed := true }
def FnExactPathInUptoSaid : Prop := fnExactPathInUptoRow.holds Try.pinned (OpenSpec.upto fnExactPathInSpec)

/-- 'laws.FnExactPrim', WHERE WHAT IT READS IS OF BULK AT MOST 1048576: true; the input reads as it did. -/
def fnExactPrimUptoRow : OpenClaim := { program := "ytnfcnocoehkgoaa", sum := "68e43c59f824d52bfd054557da358371fb3d9dd8a3075278034495ffbabf5df9", func := "loop.example/g00315/laws.FnExactPrim", spec := "fnExactPrim", unfollowed := true, recurses := true, apart := false, narrowed := true }
def FnExactPrimUptoSaid : Prop := fnExactPrimUptoRow.holds Try.pinned (OpenSpec.upto fnExactPrimSpec)

/-- 'laws.FnExactKruskal', WHERE WHAT IT READS IS OF BULK AT MOST 1048576: true; the input reads as it did. -/
def fnExactKruskalUptoRow : OpenClaim := { program := "ytnfcnocoehkgoaa", sum := "68e43c59f824d52bfd054557da358371fb3d9dd8a3075278034495ffbabf5df9", func := "loop.example/g00315/laws.FnExactKruskal", spec := "fnExactKruskal", unfollowed := true, recurses := true, apart := false, narrowed := true }
def FnExactKruskalUptoSaid : Prop := fnExactKruskalUptoRow.holds Try.pinned (OpenSpec.upto fnExactKruskalSpec)

/-- 'laws.FnCuts', WHERE WHAT IT READS IS OF BULK AT MOST 1048576: true; the input reads as it did. -/
def fnCutsUptoRow : OpenClaim := { program := "ytnfcnocoehkgoaa", sum := "68e43c59f824d52bfd054557da358371fb3d9dd8a3075278034495ffbabf5df9", func := "loop.example/g00315/laws.FnCuts", spec := "fnCuts", unfollowed := true, recurses := true, apart := false, narrowed := true }
def FnCutsUptoSaid : Prop := fnCutsUptoRow.holds Try.pinned (OpenSpec.upto fnCutsSpec)

/-- 'laws.FnTrees', WHERE WHAT IT READS IS OF BULK AT MOST 1048576: true; the input reads as it did. -/
def fnTreesUptoRow : OpenClaim := { program := "ytnfcnocoehkgoaa", sum := "68e43c59f824d52bfd054557da358371fb3d9dd8a3075278034495ffbabf5df9", func := "loop.example/g00315/laws.FnTrees", spec := "fnTrees", unfollowed := true, recurses := true, apart := false, narrowed := true }
def FnTreesUptoSaid : Prop := fnTreesUptoRow.holds Try.pinned (OpenSpec.upto fnTreesSpec)

end Rows
end Go.Proofs.Ytnfcnocoehkgoaa
