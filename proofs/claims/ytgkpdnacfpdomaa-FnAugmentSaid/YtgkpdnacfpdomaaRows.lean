/-
  No cell of these rows narrows 'for every input' (looked for: loops, veiled, ifaces, maps, wideKeys, modest, calm, conditions, laid).
  DERIVED. THE GIVEN ROWS OF THIS SEAT. 9 by the template 'for every input the law returns true; each argument reads behind the call as it read before'; 0 by the template 'total and deterministic' (their statements: YtgkpdnacfpdomaaTotals.lean).
  GIVEN WITH THE SEED: the statements are not yours to turn. If you find one false, say at which input.
  Laid BY PROGRAM, IN A SANDBOX (cutbox-rows.mjs): the forced cells as the released guide's own fill.sh prints them over the translation 4ae252455bb87453… (all of the seat's roots in one cut). By AI agents, Wed Nov 11 2026. No macro, syntax, notation, axiom, sorry.
-/
import Derived.Test.YtgkpdnacfpdomaaChecked
import GoSem.Claim
import GoSem.ClaimJoined
import GoSem.ClaimMapViews
import Derived.JoinedTies
import Derived.KernelRfl
namespace Go.Proofs.Ytgkpdnacfpdomaa
/- THE CELL 'sum', in the pinned program and in every row, IS THE sha256 OF THE DUMP (.gsa) THAT YtgkpdnacfpdomaaProg.lean LOADS. Nothing in Lean hashes anything: it is a label: what it is worth is what the hold of that sum in a sandbox is worth. -/
noncomputable def Try.pinned : Pinned := { name := "ytgkpdnacfpdomaa", sum := "4ae252455bb874535449dc463eed643629b5feb5eed857c960a9536c35bb8d34", checked := Try.checked }
namespace Rows
def none {H : Type} : Left H := { results := [], args := [] }

/-- 'laws.FnExactGoodPipes': WHATEVER THE INPUT: true; the input reads as it did. -/
def fnExactGoodPipesSpec : ChangeSpec := { name := "fnExactGoodPipes", fn := fun _ => fun
  | [d] => { results := [.lit (.bool true)], args := [d] }
  | _ => none }
def fnExactGoodPipesRow : OpenClaim := { program := "ytgkpdnacfpdomaa", sum := "4ae252455bb874535449dc463eed643629b5feb5eed857c960a9536c35bb8d34", func := "loop.example/g00315/laws.FnExactGoodPipes", spec := "fnExactGoodPipes", unfollowed := true, recurses := true, apart := false }
def FnExactGoodPipesSaid : Prop := fnExactGoodPipesRow.holds Try.pinned (OpenSpec.ofChange fnExactGoodPipesSpec)

/-- ITS FALSE NEIGHBOUR: 'it returns false'. Refute it at one input. -/
def fnExactGoodPipesWrong : ChangeSpec := { name := "fnExactGoodPipes", fn := fun _ => fun
  | [d] => { results := [.lit (.bool false)], args := [d] }
  | _ => none }
def FnExactGoodPipesWrongFalsely : Prop := fnExactGoodPipesRow.holds Try.pinned (OpenSpec.ofChange fnExactGoodPipesWrong)

/-- 'laws.FnExactIsFlow': WHATEVER THE INPUT: true; the input reads as it did. -/
def fnExactIsFlowSpec : ChangeSpec := { name := "fnExactIsFlow", fn := fun _ => fun
  | [d1, d2, d3, d4] => { results := [.lit (.bool true)], args := [d1, d2, d3, d4] }
  | _ => none }
def fnExactIsFlowRow : OpenClaim := { program := "ytgkpdnacfpdomaa", sum := "4ae252455bb874535449dc463eed643629b5feb5eed857c960a9536c35bb8d34", func := "loop.example/g00315/laws.FnExactIsFlow", spec := "fnExactIsFlow", unfollowed := true, recurses := true, apart := false }
def FnExactIsFlowSaid : Prop := fnExactIsFlowRow.holds Try.pinned (OpenSpec.ofChange fnExactIsFlowSpec)

/-- ITS FALSE NEIGHBOUR: 'it returns false'. Refute it at one input. -/
def fnExactIsFlowWrong : ChangeSpec := { name := "fnExactIsFlow", fn := fun _ => fun
  | [d1, d2, d3, d4] => { results := [.lit (.bool false)], args := [d1, d2, d3, d4] }
  | _ => none }
def FnExactIsFlowWrongFalsely : Prop := fnExactIsFlowRow.holds Try.pinned (OpenSpec.ofChange fnExactIsFlowWrong)

/-- 'laws.FnExactCutSize': WHATEVER THE INPUT: true; the input reads as it did. -/
def fnExactCutSizeSpec : ChangeSpec := { name := "fnExactCutSize", fn := fun _ => fun
  | [d1, d2] => { results := [.lit (.bool true)], args := [d1, d2] }
  | _ => none }
def fnExactCutSizeRow : OpenClaim := { program := "ytgkpdnacfpdomaa", sum := "4ae252455bb874535449dc463eed643629b5feb5eed857c960a9536c35bb8d34", func := "loop.example/g00315/laws.FnExactCutSize", spec := "fnExactCutSize", unfollowed := true, recurses := true, apart := false }
def FnExactCutSizeSaid : Prop := fnExactCutSizeRow.holds Try.pinned (OpenSpec.ofChange fnExactCutSizeSpec)

/-- ITS FALSE NEIGHBOUR: 'it returns false'. Refute it at one input. -/
def fnExactCutSizeWrong : ChangeSpec := { name := "fnExactCutSize", fn := fun _ => fun
  | [d1, d2] => { results := [.lit (.bool false)], args := [d1, d2] }
  | _ => none }
def FnExactCutSizeWrongFalsely : Prop := fnExactCutSizeRow.holds Try.pinned (OpenSpec.ofChange fnExactCutSizeWrong)

/-- 'laws.FnExactFlowOf': WHATEVER THE INPUT: true; the input reads as it did. -/
def fnExactFlowOfSpec : ChangeSpec := { name := "fnExactFlowOf", fn := fun _ => fun
  | [d1, d2, d3, d4] => { results := [.lit (.bool true)], args := [d1, d2, d3, d4] }
  | _ => none }
def fnExactFlowOfRow : OpenClaim := { program := "ytgkpdnacfpdomaa", sum := "4ae252455bb874535449dc463eed643629b5feb5eed857c960a9536c35bb8d34", func := "loop.example/g00315/laws.FnExactFlowOf", spec := "fnExactFlowOf", unfollowed := true, recurses := true, apart := false }
def FnExactFlowOfSaid : Prop := fnExactFlowOfRow.holds Try.pinned (OpenSpec.ofChange fnExactFlowOfSpec)

/-- ITS FALSE NEIGHBOUR: 'it returns false'. Refute it at one input. -/
def fnExactFlowOfWrong : ChangeSpec := { name := "fnExactFlowOf", fn := fun _ => fun
  | [d1, d2, d3, d4] => { results := [.lit (.bool false)], args := [d1, d2, d3, d4] }
  | _ => none }
def FnExactFlowOfWrongFalsely : Prop := fnExactFlowOfRow.holds Try.pinned (OpenSpec.ofChange fnExactFlowOfWrong)

/-- 'laws.FnExactMaxFlow': WHATEVER THE INPUT: true; the input reads as it did. -/
def fnExactMaxFlowSpec : ChangeSpec := { name := "fnExactMaxFlow", fn := fun _ => fun
  | [d1, d2, d3] => { results := [.lit (.bool true)], args := [d1, d2, d3] }
  | _ => none }
def fnExactMaxFlowRow : OpenClaim := { program := "ytgkpdnacfpdomaa", sum := "4ae252455bb874535449dc463eed643629b5feb5eed857c960a9536c35bb8d34", func := "loop.example/g00315/laws.FnExactMaxFlow", spec := "fnExactMaxFlow", unfollowed := true, recurses := true, apart := false }
def FnExactMaxFlowSaid : Prop := fnExactMaxFlowRow.holds Try.pinned (OpenSpec.ofChange fnExactMaxFlowSpec)

/-- ITS FALSE NEIGHBOUR: 'it returns false'. Refute it at one input. -/
def fnExactMaxFlowWrong : ChangeSpec := { name := "fnExactMaxFlow", fn := fun _ => fun
  | [d1, d2, d3] => { results := [.lit (.bool false)], args := [d1, d2, d3] }
  | _ => none }
def FnExactMaxFlowWrongFalsely : Prop := fnExactMaxFlowRow.holds Try.pinned (OpenSpec.ofChange fnExactMaxFlowWrong)

/-- 'laws.FnExactAugmentOnce': WHATEVER THE INPUT: true; the input reads as it did. -/
def fnExactAugmentOnceSpec : ChangeSpec := { name := "fnExactAugmentOnce", fn := fun _ => fun
  | [d1, d2, d3, d4] => { results := [.lit (.bool true)], args := [d1, d2, d3, d4] }
  | _ => none }
def fnExactAugmentOnceRow : OpenClaim := { program := "ytgkpdnacfpdomaa", sum := "4ae252455bb874535449dc463eed643629b5feb5eed857c960a9536c35bb8d34", func := "loop.example/g00315/laws.FnExactAugmentOnce", spec := "fnExactAugmentOnce", unfollowed := true, recurses := true, apart := false }
def FnExactAugmentOnceSaid : Prop := fnExactAugmentOnceRow.holds Try.pinned (OpenSpec.ofChange fnExactAugmentOnceSpec)

/-- ITS FALSE NEIGHBOUR: 'it returns false'. Refute it at one input. -/
def fnExactAugmentOnceWrong : ChangeSpec := { name := "fnExactAugmentOnce", fn := fun _ => fun
  | [d1, d2, d3, d4] => { results := [.lit (.bool false)], args := [d1, d2, d3, d4] }
  | _ => none }
def FnExactAugmentOnceWrongFalsely : Prop := fnExactAugmentOnceRow.holds Try.pinned (OpenSpec.ofChange fnExactAugmentOnceWrong)

/-- 'laws.FnExactMinCut': WHATEVER THE INPUT: true; the input reads as it did. -/
def fnExactMinCutSpec : ChangeSpec := { name := "fnExactMinCut", fn := fun _ => fun
  | [d1, d2, d3] => { results := [.lit (.bool true)], args := [d1, d2, d3] }
  | _ => none }
def fnExactMinCutRow : OpenClaim := { program := "ytgkpdnacfpdomaa", sum := "4ae252455bb874535449dc463eed643629b5feb5eed857c960a9536c35bb8d34", func := "loop.example/g00315/laws.FnExactMinCut", spec := "fnExactMinCut", unfollowed := true, recurses := true, apart := false }
def FnExactMinCutSaid : Prop := fnExactMinCutRow.holds Try.pinned (OpenSpec.ofChange fnExactMinCutSpec)

/-- ITS FALSE NEIGHBOUR: 'it returns false'. Refute it at one input. -/
def fnExactMinCutWrong : ChangeSpec := { name := "fnExactMinCut", fn := fun _ => fun
  | [d1, d2, d3] => { results := [.lit (.bool false)], args := [d1, d2, d3] }
  | _ => none }
def FnExactMinCutWrongFalsely : Prop := fnExactMinCutRow.holds Try.pinned (OpenSpec.ofChange fnExactMinCutWrong)

/-- 'laws.FnFlow': WHATEVER THE INPUT: true; the input reads as it did. -/
def fnFlowSpec : ChangeSpec := { name := "fnFlow", fn := fun _ => fun
  | [d1, d2] => { results := [.lit (.bool true)], args := [d1, d2] }
  | _ => none }
def fnFlowRow : OpenClaim := { program := "ytgkpdnacfpdomaa", sum := "4ae252455bb874535449dc463eed643629b5feb5eed857c960a9536c35bb8d34", func := "loop.example/g00315/laws.FnFlow", spec := "fnFlow", unfollowed := true, recurses := true, apart := false }
def FnFlowSaid : Prop := fnFlowRow.holds Try.pinned (OpenSpec.ofChange fnFlowSpec)

/-- ITS FALSE NEIGHBOUR: 'it returns false'. Refute it at one input. -/
def fnFlowWrong : ChangeSpec := { name := "fnFlow", fn := fun _ => fun
  | [d1, d2] => { results := [.lit (.bool false)], args := [d1, d2] }
  | _ => none }
def FnFlowWrongFalsely : Prop := fnFlowRow.holds Try.pinned (OpenSpec.ofChange fnFlowWrong)

/-- 'laws.FnAugment': WHATEVER THE INPUT: true; the input reads as it did. -/
def fnAugmentSpec : ChangeSpec := { name := "fnAugment", fn := fun _ => fun
  | [d1, d2] => { results := [.lit (.bool true)], args := [d1, d2] }
  | _ => none }
def fnAugmentRow : OpenClaim := { program := "ytgkpdnacfpdomaa", sum := "4ae252455bb874535449dc463eed643629b5feb5eed857c960a9536c35bb8d34", func := "loop.example/g00315/laws.FnAugment", spec := "fnAugment", unfollowed := true, recurses := true, apart := false }
def FnAugmentSaid : Prop := fnAugmentRow.holds Try.pinned (OpenSpec.ofChange fnAugmentSpec)

/-- ITS FALSE NEIGHBOUR: 'it returns false'. Refute it at one input. -/
def fnAugmentWrong : ChangeSpec := { name := "fnAugment", fn := fun _ => fun
  | [d1, d2] => { results := [.lit (.bool false)], args := [d1, d2] }
  | _ => none }
def FnAugmentWrongFalsely : Prop := fnAugmentRow.holds Try.pinned (OpenSpec.ofChange fnAugmentWrong)

/- THE SECOND FORM. 'bulk': how many values and letters a reading holds, each counted each time it is reached (what is shared counts as often as it is met; a slice's spare places count too). A statement '..UptoSaid' is the law's where the arguments, and the package variables that the reading takes, are together of bulk at most 1048576: NARROWER than '..Said'. Prove '..Said' where nothing that the law and all that it calls make is longer than what came in: it says more and counts as full. Else prove '..UptoSaid'. A law counts once. -/
mutual
def uptoBulk {H : Type} : DataW H → Nat
  | .lit (.string bytes) => bytes.length + 1
  | .lit _ => 1
  | .nil => 1
  | .ptr d => uptoBulk d + 1
  | .slice elems spare => uptoBulkAll elems + uptoBulkAll spare + 1
  | .agg parts => uptoBulkAll parts + 1
  | .iface _ d => uptoBulk d + 1
  | .map entries => uptoBulkEntries entries + 1
  | .held _ => 1
def uptoBulkAll {H : Type} : List (DataW H) → Nat
  | [] => 0
  | d :: r => uptoBulk d + uptoBulkAll r
def uptoBulkEntries {H : Type} : List (Lit × DataW H) → Nat
  | [] => 0
  | x :: r => uptoBulkEntry x + uptoBulkEntries r
def uptoBulkEntry {H : Type} : Lit × DataW H → Nat
  | (.string bytes, d) => bytes.length + uptoBulk d + 1
  | (_, d) => uptoBulk d + 1
 end
def uptoSmall : (H : Type) → List (DataW H) → Bool := fun _ ds => decide (uptoBulkAll ds ≤ 1048576)
def OpenSpec.upto (s : _root_.Go.ChangeSpec) : _root_.Go.OpenSpec := { _root_.Go.OpenSpec.ofChange s with cond := some uptoSmall }

/-- 'laws.FnExactGoodPipes', WHERE WHAT IT READS IS OF BULK AT MOST 1048576: true; the input reads as it did. -/
def fnExactGoodPipesUptoRow : OpenClaim := { program := "ytgkpdnacfpdomaa", sum := "4ae252455bb874535449dc463eed643629b5feb5eed857c960a9536c35bb8d34", func := "loop.example/g00315/laws.FnExactGoodPipes", spec := "fnExactGoodPipes", unfollowed := true, recurses := true, apart := false, narrowed := true }
def FnExactGoodPipesUptoSaid : Prop := fnExactGoodPipesUptoRow.holds Try.pinned (OpenSpec.upto fnExactGoodPipesSpec)

/-- 'laws.FnExactIsFlow', WHERE WHAT IT READS IS OF BULK AT MOST 1048576: true; the input reads as it did. -/
def fnExactIsFlowUptoRow : OpenClaim := { program := "ytgkpdnacfpdomaa", sum := "4ae252455bb874535449dc463eed643629b5feb5eed857c960a9536c35bb8d34", func := "loop.example/g00315/laws.FnExactIsFlow", spec := "fnExactIsFlow", unfollowed := true, recurses := true, apart := false, narrowed := true }
def FnExactIsFlowUptoSaid : Prop := fnExactIsFlowUptoRow.holds Try.pinned (OpenSpec.upto fnExactIsFlowSpec)

/-- 'laws.FnExactCutSize', WHERE WHAT IT READS IS OF BULK AT MOST 1048576: true; the input reads as it did. -/
def fnExactCutSizeUptoRow : OpenClaim := { program := "ytgkpdnacfpdomaa", sum := "4ae252455bb874535449dc463eed643629b5feb5eed857c960a9536c35bb8d34", func := "loop.example/g00315/laws.FnExactCutSize", spec := "fnExactCutSize", unfollowed := true, recurses := true, apart := false, narrowed := true }
def FnExactCutSizeUptoSaid : Prop := fnExactCutSizeUptoRow.holds Try.pinned (OpenSpec.upto fnExactCutSizeSpec)

/-- 'laws.FnExactFlowOf', WHERE WHAT IT READS IS OF BULK AT MOST 1048576: true; the input reads as it did. -/
def fnExactFlowOfUptoRow : OpenClaim := { program := "ytgkpdnacfpdomaa", sum := "4ae252455bb874535449dc463eed643629b5feb5eed857c960a9536c35bb8d34", func := "loop.example/g00315/laws.FnExactFlowOf", spec := "fnExactFlowOf", unfollowed := true, recurses := true, apart := false, narrowed := true }
def FnExactFlowOfUptoSaid : Prop := fnExactFlowOfUptoRow.holds Try.pinned (OpenSpec.upto fnExactFlowOfSpec)

/-- 'laws.FnExactMaxFlow', WHERE WHAT IT READS IS OF BULK AT MOST 1048576: true; the input reads as it did. -/
def fnExactMaxFlowUptoRow : OpenClaim := { program := "ytgkpdnacfpdomaa", sum := "4ae252455bb874535449dc463eed643629b5feb5eed857c960a9536c35bb8d34", func := "loop.example/g00315/laws.FnExactMaxFlow", spec := "fnExactMaxFlow", unfollowed := true, recurses := true, apart := false, narrowed := true }
def FnExactMaxFlowUptoSaid : Prop := fnExactMaxFlowUptoRow.holds Try.pinned (OpenSpec.upto fnExactMaxFlowSpec)

/-- 'laws.FnExactAugmentOnce', WHERE WHAT IT READS IS OF BULK AT MOST 1048576: true; the input reads as it did. -/
def fnExactAugmentOnceUptoRow : OpenClaim := { program := "ytgkpdnacfpdomaa", sum := "4ae252455bb874535449dc463eed643629b5feb5eed857c960a9536c35bb8d34", func := "loop.example/g00315/laws.FnExactAugmentOnce", spec := "fnExactAugmentOnce", unfollowed := true, recurses := true, apart := false, narrowed := true }
def FnExactAugmentOnceUptoSaid : Prop := fnExactAugmentOnceUptoRow.holds Try.pinned (OpenSpec.upto fnExactAugmentOnceSpec)

/-- 'laws.FnExactMinCut', WHERE WHAT IT READS IS OF BULK AT MOST 1048576: true; the input reads as it did. -/
def fnExactMinCutUptoRow : OpenClaim := { program := "ytgkpdnacfpdomaa", sum := "4ae252455bb874535449dc463eed643629b5feb5eed857c960a9536c35bb8d34", func := "loop.example/g00315/laws.FnExactMinCut", spec := "fnExactMinCut", unfollowed := true, recurses := true, apart := false, narrowed := true }
def FnExactMinCutUptoSaid : Prop := fnExactMinCutUptoRow.holds Try.pinned (OpenSpec.upto fnExactMinCutSpec)

/-- 'laws.FnFlow', WHERE WHAT IT READS IS OF BULK AT MOST 1048576: true; the input reads as it did. -/
def fnFlowUptoRow : OpenClaim := { program := "ytgkpdnacfpdomaa", sum := "4ae252455bb874535449dc463eed643629b5feb5eed857c960a9536c35bb8d34", func := "loop.example/g00315/laws.FnFlow", spec := "fnFlow", unfollowed := true, recurses := true, apart := false, narrowed := true }
def FnFlowUptoSaid : Prop := fnFlowUptoRow.holds Try.pinned (OpenSpec.upto fnFlowSpec)

/-- 'laws.FnAugment', WHERE WHAT IT READS IS OF BULK AT MOST 1048576: true; the input reads as it did. -/
def fnAugmentUptoRow : OpenClaim := { program := "ytgkpdnacfpdomaa", sum := "4ae252455bb874535449dc463eed643629b5feb5eed857c960a9536c35bb8d34", func := "loop.example/g00315/laws.FnAugment", spec := "fnAugment", unfollowed := true, recurses := true, apart := false, narrowed := true }
def FnAugmentUptoSaid : Prop := fnAugmentUptoRow.holds Try.pinned (OpenSpec.upto fnAugmentSpec)

end Rows
end Go.Proofs.Ytgkpdnacfpdomaa
