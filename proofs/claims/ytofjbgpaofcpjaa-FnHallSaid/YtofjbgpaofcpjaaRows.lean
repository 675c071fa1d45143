/-
  No cell of these rows narrows 'for every input' (looked for: loops, veiled, ifaces, maps, wideKeys, modest, calm, conditions, laid).
  DERIVED. THE GIVEN ROWS OF THIS SEAT. 9 by the template 'for every input the law returns true; each argument reads behind the call as it read before'; 0 by the template 'total and deterministic' (their statements: YtofjbgpaofcpjaaTotals.lean).
  GIVEN WITH THE SEED: the statements are not yours to turn. If you find one false, say at which input.
  Laid BY PROGRAM, IN A SANDBOX (cutbox-rows.mjs): the forced cells as the released guide's own fill.sh prints them over the translation fb94c880c6cac34a… (all of the seat's roots in one cut). By AI agents, Wed Nov 11 2026. No macro, syntax, notation, axiom, sorry.
-/
import Derived.Test.YtofjbgpaofcpjaaChecked
import GoSem.Claim
import GoSem.ClaimJoined
import GoSem.ClaimMapViews
import Derived.JoinedTies
import Derived.KernelRfl
namespace Go.Proofs.Ytofjbgpaofcpjaa
/- THE CELL 'sum', in the pinned program and in every row, IS THE sha256 OF THE DUMP (.gsa) THAT YtofjbgpaofcpjaaProg.lean LOADS. Nothing in Lean hashes anything: it is a label: what it is worth is what the hold of that sum in a sandbox is worth. -/
noncomputable def Try.pinned : Pinned := { name := "ytofjbgpaofcpjaa", sum := "fb94c880c6cac34a7a9c9a7f3df1bfbb1cf53fb6cb2ec5aefcf7db7e4442e94c", checked := Try.checked }
namespace Rows
def none {H : Type} : Left H := { results := [], args := [] }

/-- 'laws.FnExactGoodPairing': WHATEVER THE INPUT: true; the input reads as it did. -/
def fnExactGoodPairingSpec : ChangeSpec := { name := "fnExactGoodPairing", fn := fun _ => fun
  | [d] => { results := [.lit (.bool true)], args := [d] }
  | _ => none }
def fnExactGoodPairingRow : OpenClaim := { program := "ytofjbgpaofcpjaa", sum := "fb94c880c6cac34a7a9c9a7f3df1bfbb1cf53fb6cb2ec5aefcf7db7e4442e94c", func := "loop.example/g00315/laws.FnExactGoodPairing", spec := "fnExactGoodPairing", unfollowed := true, recurses := true, apart := false }
def FnExactGoodPairingSaid : Prop := fnExactGoodPairingRow.holds Try.pinned (OpenSpec.ofChange fnExactGoodPairingSpec)

/-- ITS FALSE NEIGHBOUR: 'it returns false'. Refute it at one input. -/
def fnExactGoodPairingWrong : ChangeSpec := { name := "fnExactGoodPairing", fn := fun _ => fun
  | [d] => { results := [.lit (.bool false)], args := [d] }
  | _ => none }
def FnExactGoodPairingWrongFalsely : Prop := fnExactGoodPairingRow.holds Try.pinned (OpenSpec.ofChange fnExactGoodPairingWrong)

/-- 'laws.FnExactIsCover': WHATEVER THE INPUT: true; the input reads as it did. -/
def fnExactIsCoverSpec : ChangeSpec := { name := "fnExactIsCover", fn := fun _ => fun
  | [d1, d2, d3] => { results := [.lit (.bool true)], args := [d1, d2, d3] }
  | _ => none }
def fnExactIsCoverRow : OpenClaim := { program := "ytofjbgpaofcpjaa", sum := "fb94c880c6cac34a7a9c9a7f3df1bfbb1cf53fb6cb2ec5aefcf7db7e4442e94c", func := "loop.example/g00315/laws.FnExactIsCover", spec := "fnExactIsCover", unfollowed := true, recurses := true, apart := false }
def FnExactIsCoverSaid : Prop := fnExactIsCoverRow.holds Try.pinned (OpenSpec.ofChange fnExactIsCoverSpec)

/-- ITS FALSE NEIGHBOUR: 'it returns false'. Refute it at one input. -/
def fnExactIsCoverWrong : ChangeSpec := { name := "fnExactIsCover", fn := fun _ => fun
  | [d1, d2, d3] => { results := [.lit (.bool false)], args := [d1, d2, d3] }
  | _ => none }
def FnExactIsCoverWrongFalsely : Prop := fnExactIsCoverRow.holds Try.pinned (OpenSpec.ofChange fnExactIsCoverWrong)

/-- 'laws.FnExactIsMatch': WHATEVER THE INPUT: true; the input reads as it did. -/
def fnExactIsMatchSpec : ChangeSpec := { name := "fnExactIsMatch", fn := fun _ => fun
  | [d1, d2] => { results := [.lit (.bool true)], args := [d1, d2] }
  | _ => none }
def fnExactIsMatchRow : OpenClaim := { program := "ytofjbgpaofcpjaa", sum := "fb94c880c6cac34a7a9c9a7f3df1bfbb1cf53fb6cb2ec5aefcf7db7e4442e94c", func := "loop.example/g00315/laws.FnExactIsMatch", spec := "fnExactIsMatch", unfollowed := true, recurses := true, apart := false }
def FnExactIsMatchSaid : Prop := fnExactIsMatchRow.holds Try.pinned (OpenSpec.ofChange fnExactIsMatchSpec)

/-- ITS FALSE NEIGHBOUR: 'it returns false'. Refute it at one input. -/
def fnExactIsMatchWrong : ChangeSpec := { name := "fnExactIsMatch", fn := fun _ => fun
  | [d1, d2] => { results := [.lit (.bool false)], args := [d1, d2] }
  | _ => none }
def FnExactIsMatchWrongFalsely : Prop := fnExactIsMatchRow.holds Try.pinned (OpenSpec.ofChange fnExactIsMatchWrong)

/-- 'laws.FnExactImproveMatch': WHATEVER THE INPUT: true; the input reads as it did. -/
def fnExactImproveMatchSpec : ChangeSpec := { name := "fnExactImproveMatch", fn := fun _ => fun
  | [d1, d2] => { results := [.lit (.bool true)], args := [d1, d2] }
  | _ => none }
def fnExactImproveMatchRow : OpenClaim := { program := "ytofjbgpaofcpjaa", sum := "fb94c880c6cac34a7a9c9a7f3df1bfbb1cf53fb6cb2ec5aefcf7db7e4442e94c", func := "loop.example/g00315/laws.FnExactImproveMatch", spec := "fnExactImproveMatch", unfollowed := true, recurses := true, apart := false }
def FnExactImproveMatchSaid : Prop := fnExactImproveMatchRow.holds Try.pinned (OpenSpec.ofChange fnExactImproveMatchSpec)

/-- ITS FALSE NEIGHBOUR: 'it returns false'. Refute it at one input. -/
def fnExactImproveMatchWrong : ChangeSpec := { name := "fnExactImproveMatch", fn := fun _ => fun
  | [d1, d2] => { results := [.lit (.bool false)], args := [d1, d2] }
  | _ => none }
def FnExactImproveMatchWrongFalsely : Prop := fnExactImproveMatchRow.holds Try.pinned (OpenSpec.ofChange fnExactImproveMatchWrong)

/-- 'laws.FnExactMatchAll': WHATEVER THE INPUT: true; the input reads as it did. -/
def fnExactMatchAllSpec : ChangeSpec := { name := "fnExactMatchAll", fn := fun _ => fun
  | [d] => { results := [.lit (.bool true)], args := [d] }
  | _ => none }
def fnExactMatchAllRow : OpenClaim := { program := "ytofjbgpaofcpjaa", sum := "fb94c880c6cac34a7a9c9a7f3df1bfbb1cf53fb6cb2ec5aefcf7db7e4442e94c", func := "loop.example/g00315/laws.FnExactMatchAll", spec := "fnExactMatchAll", unfollowed := true, recurses := true, apart := false }
def FnExactMatchAllSaid : Prop := fnExactMatchAllRow.holds Try.pinned (OpenSpec.ofChange fnExactMatchAllSpec)

/-- ITS FALSE NEIGHBOUR: 'it returns false'. Refute it at one input. -/
def fnExactMatchAllWrong : ChangeSpec := { name := "fnExactMatchAll", fn := fun _ => fun
  | [d] => { results := [.lit (.bool false)], args := [d] }
  | _ => none }
def FnExactMatchAllWrongFalsely : Prop := fnExactMatchAllRow.holds Try.pinned (OpenSpec.ofChange fnExactMatchAllWrong)

/-- 'laws.FnExactShortOf': WHATEVER THE INPUT: true; the input reads as it did. -/
def fnExactShortOfSpec : ChangeSpec := { name := "fnExactShortOf", fn := fun _ => fun
  | [d] => { results := [.lit (.bool true)], args := [d] }
  | _ => none }
def fnExactShortOfRow : OpenClaim := { program := "ytofjbgpaofcpjaa", sum := "fb94c880c6cac34a7a9c9a7f3df1bfbb1cf53fb6cb2ec5aefcf7db7e4442e94c", func := "loop.example/g00315/laws.FnExactShortOf", spec := "fnExactShortOf", unfollowed := true, recurses := true, apart := false }
def FnExactShortOfSaid : Prop := fnExactShortOfRow.holds Try.pinned (OpenSpec.ofChange fnExactShortOfSpec)

/-- ITS FALSE NEIGHBOUR: 'it returns false'. Refute it at one input. -/
def fnExactShortOfWrong : ChangeSpec := { name := "fnExactShortOf", fn := fun _ => fun
  | [d] => { results := [.lit (.bool false)], args := [d] }
  | _ => none }
def FnExactShortOfWrongFalsely : Prop := fnExactShortOfRow.holds Try.pinned (OpenSpec.ofChange fnExactShortOfWrong)

/-- 'laws.FnExactCoverOf': WHATEVER THE INPUT: true; the input reads as it did. -/
def fnExactCoverOfSpec : ChangeSpec := { name := "fnExactCoverOf", fn := fun _ => fun
  | [d] => { results := [.lit (.bool true)], args := [d] }
  | _ => none }
def fnExactCoverOfRow : OpenClaim := { program := "ytofjbgpaofcpjaa", sum := "fb94c880c6cac34a7a9c9a7f3df1bfbb1cf53fb6cb2ec5aefcf7db7e4442e94c", func := "loop.example/g00315/laws.FnExactCoverOf", spec := "fnExactCoverOf", unfollowed := true, recurses := true, apart := false }
def FnExactCoverOfSaid : Prop := fnExactCoverOfRow.holds Try.pinned (OpenSpec.ofChange fnExactCoverOfSpec)

/-- ITS FALSE NEIGHBOUR: 'it returns false'. Refute it at one input. -/
def fnExactCoverOfWrong : ChangeSpec := { name := "fnExactCoverOf", fn := fun _ => fun
  | [d] => { results := [.lit (.bool false)], args := [d] }
  | _ => none }
def FnExactCoverOfWrongFalsely : Prop := fnExactCoverOfRow.holds Try.pinned (OpenSpec.ofChange fnExactCoverOfWrong)

/-- 'laws.FnKonig': WHATEVER THE INPUT: true; the input reads as it did. -/
def fnKonigSpec : ChangeSpec := { name := "fnKonig", fn := fun _ => fun
  | [d] => { results := [.lit (.bool true)], args := [d] }
  | _ => none }
def fnKonigRow : OpenClaim := { program := "ytofjbgpaofcpjaa", sum := "fb94c880c6cac34a7a9c9a7f3df1bfbb1cf53fb6cb2ec5aefcf7db7e4442e94c", func := "loop.example/g00315/laws.FnKonig", spec := "fnKonig", unfollowed := true, recurses := true, apart := false }
def FnKonigSaid : Prop := fnKonigRow.holds Try.pinned (OpenSpec.ofChange fnKonigSpec)

/-- ITS FALSE NEIGHBOUR: 'it returns false'. Refute it at one input. -/
def fnKonigWrong : ChangeSpec := { name := "fnKonig", fn := fun _ => fun
  | [d] => { results := [.lit (.bool false)], args := [d] }
  | _ => none }
def FnKonigWrongFalsely : Prop := fnKonigRow.holds Try.pinned (OpenSpec.ofChange fnKonigWrong)

/-- 'laws.FnHall': WHATEVER THE INPUT: true; the input reads as it did. -/
def fnHallSpec : ChangeSpec := { name := "fnHall", fn := fun _ => fun
  | [d1, d2] => { results := [.lit (.bool true)], args := [d1, d2] }
  | _ => none }
def fnHallRow : OpenClaim := { program := "ytofjbgpaofcpjaa", sum := "fb94c880c6cac34a7a9c9a7f3df1bfbb1cf53fb6cb2ec5aefcf7db7e4442e94c", func := "loop.example/g00315/laws.FnHall", spec := "fnHall", unfollowed := true, recurses := true, apart := false }
def FnHallSaid : Prop := fnHallRow.holds Try.pinned (OpenSpec.ofChange fnHallSpec)

/-- ITS FALSE NEIGHBOUR: 'it returns false'. Refute it at one input. -/
def fnHallWrong : ChangeSpec := { name := "fnHall", fn := fun _ => fun
  | [d1, d2] => { results := [.lit (.bool false)], args := [d1, d2] }
  | _ => none }
def FnHallWrongFalsely : Prop := fnHallRow.holds Try.pinned (OpenSpec.ofChange fnHallWrong)

/- THE SECOND FORM. 'bulk': how many values and letters a reading holds, each counted each time it is reached (what is shared counts as often as it is met; a slice's spare places count too). A statement '..UptoSaid' is the law's where the arguments, and the package variables that the reading takes, are together of bulk at most 1048576: NARROWER than '..Said'. Prove '..Said' where nothing that the law and all that it calls make is longer than what came in: it says more and counts as full. Else prove '..UptoSaid'. A law counts once. -/
mutual
def uptoBulk {H : Type} : DataW H → Nat
  | .lit (.string bytes) => bytes.length + 1
  | .lit _ => 1
  | .nil => 1
  | .ptr d => uptoBulk d + 1
  | .slice elems spare => uptoBulkAll elems + uptoBulkAll spare + 1
  | .agg parts => uptoBulkAll parts + 1
  | .iface _ d => uptoBulk d + 1
  | .map entries => uptoBulkEntries entries + 1
  | .held _ => 1
def uptoBulkAll {H : Type} : List (DataW H) → Nat
  | [] => 0
  | d :: r => uptoBulk d + uptoBulkAll r
def uptoBulkEntries {H : Type} : List (Lit × DataW H) → Nat
  | [] => 0
  | x :: r => uptoBulkEntry x + uptoBulkEntries r
def uptoBulkEntry {H : Type} : Lit × DataW H → Nat
  | (.string bytes, d) => bytes.length + uptoBulk d + 1
  | (_, d) => uptoBulk d + 1
 end
def uptoSmall : (H : Type) → List (DataW H) → Bool := fun _ ds => decide (uptoBulkAll ds ≤ 1048576)
def OpenSpec.upto (s : _root_.Go.ChangeSpec) : _root_.Go.OpenSpec := { _root_.Go.OpenSpec.ofChange s with cond := some uptoSmall }

/-- 'laws.FnExactGoodPairing', WHERE WHAT IT READS IS OF BULK AT MOST 1048576: true; the input reads as it did. -/
def fnExactGoodPairingUptoRow : OpenClaim := { program := "ytofjbgpaofcpjaa", sum := "fb94c880c6cac34a7a9c9a7f3df1bfbb1cf53fb6cb2ec5aefcf7db7e4442e94c", func := "loop.example/g00315/laws.FnExactGoodPairing", spec := "fnExactGoodPairing", unfollowed := true, recurses := true, apart := false, narrowed := true }
def FnExactGoodPairingUptoSaid : Prop := fnExactGoodPairingUptoRow.holds Try.pinned (OpenSpec.upto fnExactGoodPairingSpec)

/-- 'laws.FnExactIsCover', WHERE WHAT IT READS IS OF BULK AT MOST 1048576: true; the input reads as it did. -/
def fnExactIsCoverUptoRow : OpenClaim := { program := "ytofjbgpaofcpjaa", sum := "fb94c880c6cac34a7a9c9a7f3df1bfbb1cf53fb6cb2ec5aefcf7db7e4442e94c", func := "loop.example/g00315/laws.FnExactIsCover", spec := "fnExactIsCover", unfollowed := true, recurses := true, apart := false, narrowed := true }
def FnExactIsCoverUptoSaid : Prop := fnExactIsCoverUptoRow.holds Try.pinned (OpenSpec.upto fnExactIsCoverSpec)

/-- 'laws.FnExactIsMatch', WHERE WHAT IT READS IS OF BULK AT MOST 1048576: true; the input reads as it did. -/
def fnExactIsMatchUptoRow : OpenClaim := { program := "ytofjbgpaofcpjaa", sum := "fb94c880c6cac34a7a9c9a7f3df1bfbb1cf53fb6cb2ec5aefcf7db7e4442e94c", func := "loop.example/g00315/laws.FnExactIsMatch", spec := "fnExactIsMatch", unfollowed := true, recurses := true, apart := false, narrowed := true }
def FnExactIsMatchUptoSaid : Prop := fnExactIsMatchUptoRow.holds Try.pinned (OpenSpec.upto fnExactIsMatchSpec)

/-- 'laws.FnExactImproveMatch', WHERE WHAT IT READS IS OF BULK AT MOST 1048576: true; the input reads as it did. -/
def fnExactImproveMatchUptoRow : OpenClaim := { program := "ytofjbgpaofcpjaa", sum := "fb94c880c6cac34a7a9c9a7f3df1bfbb1cf53fb6cb2ec5aefcf7db7e4442e94c", func := "loop.example/g00315/laws.FnExactImproveMatch", spec := "fnExactImproveMatch", unfollowed := true, recurses := true, apart := false, narrowed := true }
def FnExactImproveMatchUptoSaid : Prop := fnExactImproveMatchUptoRow.holds Try.pinned (OpenSpec.upto fnExactImproveMatchSpec)

/-- 'laws.FnExactMatchAll', WHERE WHAT IT READS IS OF BULK AT MOST 1048576: true; the input reads as it did. -/
def fnExactMatchAllUptoRow : OpenClaim := { program := "ytofjbgpaofcpjaa", sum := "fb94c880c6cac34a7a9c9a7f3df1bfbb1cf53fb6cb2ec5aefcf7db7e4442e94c", func := "loop.example/g00315/laws.FnExactMatchAll", spec := "fnExactMatchAll", unfollowed := true, recurses := true, apart := false, narrowed := true }
def FnExactMatchAllUptoSaid : Prop := fnExactMatchAllUptoRow.holds Try.pinned (OpenSpec.upto fnExactMatchAllSpec)

/-- 'laws.FnExactShortOf', WHERE WHAT IT READS IS OF BULK AT MOST 1048576: true; the input reads as it did. -/
def fnExactShortOfUptoRow : OpenClaim := { program := "ytofjbgpaofcpjaa", sum := "fb94c880c6cac34a7a9c9a7f3df1bfbb1cf53fb6cb2ec5aefcf7db7e4442e94c", func := "loop.example/g00315/laws.FnExactShortOf", spec := "fnExactShortOf", unfollowed := true, recurses := true, apart := false, narrowed := true }
def FnExactShortOfUptoSaid : Prop := fnExactShortOfUptoRow.holds Try.pinned (OpenSpec.upto fnExactShortOfSpec)

/-- 'laws.FnExactCoverOf', WHERE WHAT IT READS IS OF BULK AT MOST 1048576: true; the input reads as it did. -/
def fnExactCoverOfUptoRow : OpenClaim := { program := "ytofjbgpaofcpjaa", sum := "fb94c880c6cac34a7a9c9a7f3df1bfbb1cf53fb6cb2ec5aefcf7db7e4442e94c", func := "loop.example/g00315/laws.FnExactCoverOf", spec := "fnExactCoverOf", unfollowed := true, recurses := true, apart := false, narrowed := true }
def FnExactCoverOfUptoSaid : Prop := fnExactCoverOfUptoRow.holds Try.pinned (OpenSpec.upto fnExactCoverOfSpec)

/-- 'laws.FnKonig', WHERE WHAT IT READS IS OF BULK AT MOST 1048576: true; the input reads as it did. -/
def fnKonigUptoRow : OpenClaim := { program := "ytofjbgpaofcpjaa", sum := "fb94c880c6cac34a7a9c9a7f3df1bfbb1cf53fb6cb2ec5aefcf7db7e4442e94c", func := "loop.example/g00315/laws.FnKonig", spec := "fnKonig", unfollowed := true, recurses := true, apart := false, narrowed := true }
def FnKonigUptoSaid : Prop := fnKonigUptoRow.holds Try.pinned (OpenSpec.upto fnKonigSpec)

/-- 'laws.FnHall', WHERE WHAT IT READS IS OF BULK AT MOST 1048576: true; the input reads as it did. -/
def fnHallUptoRow : OpenClaim := { program := "ytofjbgpaofcpjaa", sum := "fb94c880c6cac34a7a9c9a7f3df1bfbb1cf53fb6cb2ec5aefcf7db7e4442e94c", func := "loop.example/g00315/laws.FnHall", spec := "fnHall", unfollowed := true, recurses := true, apart := false, narrowed := true }
def FnHallUptoSaid : Prop := fnHallUptoRow.holds Try.pinned (OpenSpec.upto fnHallSpec)

end Rows
end Go.Proofs.Ytofjbgpaofcpjaa
