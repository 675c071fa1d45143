/-
  No cell of these rows narrows 'for every input' (looked for: loops, veiled, ifaces, maps, wideKeys, modest, calm, conditions, laid).
  DERIVED. THE GIVEN ROWS OF THIS SEAT. 8 by the template 'for every input the law returns true; each argument reads behind the call as it read before'; 0 by the template 'total and deterministic' (their statements: YtafalojjbghlhaaTotals.lean).
  GIVEN WITH THE SEED: the statements are not yours to turn. If you find one false, say at which input.
  Laid BY PROGRAM, IN A SANDBOX (cutbox-rows.mjs): the forced cells as the released guide's own fill.sh prints them over the translation 82397873c2cfadff… (all of the seat's roots in one cut). By AI agents, Wed Nov 11 2026. No macro, syntax, notation, axiom, sorry.
-/
import Derived.Test.YtafalojjbghlhaaChecked
import GoSem.Claim
import GoSem.ClaimJoined
import GoSem.ClaimMapViews
import Derived.JoinedTies
import Derived.KernelRfl
namespace Go.Proofs.Ytafalojjbghlhaa
/- THE CELL 'sum', in the pinned program and in every row, IS THE sha256 OF THE DUMP (.gsa) THAT YtafalojjbghlhaaProg.lean LOADS. Nothing in Lean hashes anything: it is a label: what it is worth is what the hold of that sum in a sandbox is worth. -/
noncomputable def Try.pinned : Pinned := { name := "ytafalojjbghlhaa", sum := "82397873c2cfadff65af56704c0e40cbea38cde1666b78830445fa9ed43e0c4f", checked := Try.checked }
namespace Rows
def none {H : Type} : Left H := { results := [], args := [] }

/-- 'laws.FnExactGoodLinks': WHATEVER THE INPUT: true; the input reads as it did. -/
def fnExactGoodLinksSpec : ChangeSpec := { name := "fnExactGoodLinks", fn := fun _ => fun
  | [d] => { results := [.lit (.bool true)], args := [d] }
  | _ => none }
def fnExactGoodLinksRow : OpenClaim := { program := "ytafalojjbghlhaa", sum := "82397873c2cfadff65af56704c0e40cbea38cde1666b78830445fa9ed43e0c4f", func := "loop.example/g00315/laws.FnExactGoodLinks", spec := "fnExactGoodLinks", unfollowed := true, recurses := true, apart := false }
def FnExactGoodLinksSaid : Prop := fnExactGoodLinksRow.holds Try.pinned (OpenSpec.ofChange fnExactGoodLinksSpec)

/-- ITS FALSE NEIGHBOUR: 'it returns false'. Refute it at one input. -/
def fnExactGoodLinksWrong : ChangeSpec := { name := "fnExactGoodLinks", fn := fun _ => fun
  | [d] => { results := [.lit (.bool false)], args := [d] }
  | _ => none }
def FnExactGoodLinksWrongFalsely : Prop := fnExactGoodLinksRow.holds Try.pinned (OpenSpec.ofChange fnExactGoodLinksWrong)

/-- 'laws.FnExactIsWay': WHATEVER THE INPUT: true; the input reads as it did. -/
def fnExactIsWaySpec : ChangeSpec := { name := "fnExactIsWay", fn := fun _ => fun
  | [d1, d2, d3, d4] => { results := [.lit (.bool true)], args := [d1, d2, d3, d4] }
  | _ => none }
def fnExactIsWayRow : OpenClaim := { program := "ytafalojjbghlhaa", sum := "82397873c2cfadff65af56704c0e40cbea38cde1666b78830445fa9ed43e0c4f", func := "loop.example/g00315/laws.FnExactIsWay", spec := "fnExactIsWay", unfollowed := true, recurses := true, apart := false }
def FnExactIsWaySaid : Prop := fnExactIsWayRow.holds Try.pinned (OpenSpec.ofChange fnExactIsWaySpec)

/-- ITS FALSE NEIGHBOUR: 'it returns false'. Refute it at one input. -/
def fnExactIsWayWrong : ChangeSpec := { name := "fnExactIsWay", fn := fun _ => fun
  | [d1, d2, d3, d4] => { results := [.lit (.bool false)], args := [d1, d2, d3, d4] }
  | _ => none }
def FnExactIsWayWrongFalsely : Prop := fnExactIsWayRow.holds Try.pinned (OpenSpec.ofChange fnExactIsWayWrong)

/-- 'laws.FnExactWaysApart': WHATEVER THE INPUT: true; the input reads as it did. -/
def fnExactWaysApartSpec : ChangeSpec := { name := "fnExactWaysApart", fn := fun _ => fun
  | [d1, d2, d3] => { results := [.lit (.bool true)], args := [d1, d2, d3] }
  | _ => none }
def fnExactWaysApartRow : OpenClaim := { program := "ytafalojjbghlhaa", sum := "82397873c2cfadff65af56704c0e40cbea38cde1666b78830445fa9ed43e0c4f", func := "loop.example/g00315/laws.FnExactWaysApart", spec := "fnExactWaysApart", unfollowed := true, recurses := true, apart := false }
def FnExactWaysApartSaid : Prop := fnExactWaysApartRow.holds Try.pinned (OpenSpec.ofChange fnExactWaysApartSpec)

/-- ITS FALSE NEIGHBOUR: 'it returns false'. Refute it at one input. -/
def fnExactWaysApartWrong : ChangeSpec := { name := "fnExactWaysApart", fn := fun _ => fun
  | [d1, d2, d3] => { results := [.lit (.bool false)], args := [d1, d2, d3] }
  | _ => none }
def FnExactWaysApartWrongFalsely : Prop := fnExactWaysApartRow.holds Try.pinned (OpenSpec.ofChange fnExactWaysApartWrong)

/-- 'laws.FnExactAreApart': WHATEVER THE INPUT: true; the input reads as it did. -/
def fnExactAreApartSpec : ChangeSpec := { name := "fnExactAreApart", fn := fun _ => fun
  | [d] => { results := [.lit (.bool true)], args := [d] }
  | _ => none }
def fnExactAreApartRow : OpenClaim := { program := "ytafalojjbghlhaa", sum := "82397873c2cfadff65af56704c0e40cbea38cde1666b78830445fa9ed43e0c4f", func := "loop.example/g00315/laws.FnExactAreApart", spec := "fnExactAreApart", unfollowed := true, recurses := true, apart := false }
def FnExactAreApartSaid : Prop := fnExactAreApartRow.holds Try.pinned (OpenSpec.ofChange fnExactAreApartSpec)

/-- ITS FALSE NEIGHBOUR: 'it returns false'. Refute it at one input. -/
def fnExactAreApartWrong : ChangeSpec := { name := "fnExactAreApart", fn := fun _ => fun
  | [d] => { results := [.lit (.bool false)], args := [d] }
  | _ => none }
def FnExactAreApartWrongFalsely : Prop := fnExactAreApartRow.holds Try.pinned (OpenSpec.ofChange fnExactAreApartWrong)

/-- 'laws.FnExactReachedBy': WHATEVER THE INPUT: true; the input reads as it did. -/
def fnExactReachedBySpec : ChangeSpec := { name := "fnExactReachedBy", fn := fun _ => fun
  | [d1, d2, d3] => { results := [.lit (.bool true)], args := [d1, d2, d3] }
  | _ => none }
def fnExactReachedByRow : OpenClaim := { program := "ytafalojjbghlhaa", sum := "82397873c2cfadff65af56704c0e40cbea38cde1666b78830445fa9ed43e0c4f", func := "loop.example/g00315/laws.FnExactReachedBy", spec := "fnExactReachedBy", unfollowed := true, recurses := true, apart := false }
def FnExactReachedBySaid : Prop := fnExactReachedByRow.holds Try.pinned (OpenSpec.ofChange fnExactReachedBySpec)

/-- ITS FALSE NEIGHBOUR: 'it returns false'. Refute it at one input. -/
def fnExactReachedByWrong : ChangeSpec := { name := "fnExactReachedBy", fn := fun _ => fun
  | [d1, d2, d3] => { results := [.lit (.bool false)], args := [d1, d2, d3] }
  | _ => none }
def FnExactReachedByWrongFalsely : Prop := fnExactReachedByRow.holds Try.pinned (OpenSpec.ofChange fnExactReachedByWrong)

/-- 'laws.FnExactFewestToCut': WHATEVER THE INPUT: true; the input reads as it did. -/
def fnExactFewestToCutSpec : ChangeSpec := { name := "fnExactFewestToCut", fn := fun _ => fun
  | [d1, d2, d3] => { results := [.lit (.bool true)], args := [d1, d2, d3] }
  | _ => none }
def fnExactFewestToCutRow : OpenClaim := { program := "ytafalojjbghlhaa", sum := "82397873c2cfadff65af56704c0e40cbea38cde1666b78830445fa9ed43e0c4f", func := "loop.example/g00315/laws.FnExactFewestToCut", spec := "fnExactFewestToCut", unfollowed := true, recurses := true, apart := false }
def FnExactFewestToCutSaid : Prop := fnExactFewestToCutRow.holds Try.pinned (OpenSpec.ofChange fnExactFewestToCutSpec)

/-- ITS FALSE NEIGHBOUR: 'it returns false'. Refute it at one input. -/
def fnExactFewestToCutWrong : ChangeSpec := { name := "fnExactFewestToCut", fn := fun _ => fun
  | [d1, d2, d3] => { results := [.lit (.bool false)], args := [d1, d2, d3] }
  | _ => none }
def FnExactFewestToCutWrongFalsely : Prop := fnExactFewestToCutRow.holds Try.pinned (OpenSpec.ofChange fnExactFewestToCutWrong)

/-- 'laws.FnMenger': WHATEVER THE INPUT: true; the input reads as it did. -/
def fnMengerSpec : ChangeSpec := { name := "fnMenger", fn := fun _ => fun
  | [d1, d2] => { results := [.lit (.bool true)], args := [d1, d2] }
  | _ => none }
def fnMengerRow : OpenClaim := { program := "ytafalojjbghlhaa", sum := "82397873c2cfadff65af56704c0e40cbea38cde1666b78830445fa9ed43e0c4f", func := "loop.example/g00315/laws.FnMenger", spec := "fnMenger", unfollowed := true, recurses := true, apart := false }
def FnMengerSaid : Prop := fnMengerRow.holds Try.pinned (OpenSpec.ofChange fnMengerSpec)

/-- ITS FALSE NEIGHBOUR: 'it returns false'. Refute it at one input. -/
def fnMengerWrong : ChangeSpec := { name := "fnMenger", fn := fun _ => fun
  | [d1, d2] => { results := [.lit (.bool false)], args := [d1, d2] }
  | _ => none }
def FnMengerWrongFalsely : Prop := fnMengerRow.holds Try.pinned (OpenSpec.ofChange fnMengerWrong)

/-- 'laws.FnWays': WHATEVER THE INPUT: true; the input reads as it did. -/
def fnWaysSpec : ChangeSpec := { name := "fnWays", fn := fun _ => fun
  | [d1, d2] => { results := [.lit (.bool true)], args := [d1, d2] }
  | _ => none }
def fnWaysRow : OpenClaim := { program := "ytafalojjbghlhaa", sum := "82397873c2cfadff65af56704c0e40cbea38cde1666b78830445fa9ed43e0c4f", func := "loop.example/g00315/laws.FnWays", spec := "fnWays", unfollowed := true, recurses := true, apart := false }
def FnWaysSaid : Prop := fnWaysRow.holds Try.pinned (OpenSpec.ofChange fnWaysSpec)

/-- ITS FALSE NEIGHBOUR: 'it returns false'. Refute it at one input. -/
def fnWaysWrong : ChangeSpec := { name := "fnWays", fn := fun _ => fun
  | [d1, d2] => { results := [.lit (.bool false)], args := [d1, d2] }
  | _ => none }
def FnWaysWrongFalsely : Prop := fnWaysRow.holds Try.pinned (OpenSpec.ofChange fnWaysWrong)

/- THE SECOND FORM. 'bulk': how many values and letters a reading holds, each counted each time it is reached (what is shared counts as often as it is met; a slice's spare places count too). A statement '..UptoSaid' is the law's where the arguments, and the package variables that the reading takes, are together of bulk at most 1048576: NARROWER than '..Said'. Prove '..Said' where nothing that the law and all that it calls make is longer than what came in: it says more and counts as full. Else prove '..UptoSaid'. A law counts once. -/
mutual
def uptoBulk {H : Type} : DataW H → Nat
  | .lit (.string bytes) => bytes.length + 1
  | .lit _ => 1
  | .nil => 1
  | .ptr d => uptoBulk d + 1
  | .slice elems spare => uptoBulkAll elems + uptoBulkAll spare + 1
  | .agg parts => uptoBulkAll parts + 1
  | .iface _ d => uptoBulk d + 1
  | .map entries => uptoBulkEntries entries + 1
  | .held _ => 1
def uptoBulkAll {H : Type} : List (DataW H) → Nat
  | [] => 0
  | d :: r => uptoBulk d + uptoBulkAll r
def uptoBulkEntries {H : Type} : List (Lit × DataW H) → Nat
  | [] => 0
  | x :: r => uptoBulkEntry x + uptoBulkEntries r
def uptoBulkEntry {H : Type} : Lit × DataW H → Nat
  | (.string bytes, d) => bytes.length + uptoBulk d + 1
  | (_, d) => uptoBulk d + 1
 end
def uptoSmall : (H : Type) → List (DataW H) → Bool := fun _ ds => decide (uptoBulkAll ds ≤ 1048576)
def OpenSpec.upto (s : _root_.Go.ChangeSpec) : _root_.Go.OpenSpec := { _root_.Go.OpenSpec.ofChange s with cond := some uptoSmall }

/-- 'laws.FnExactGoodLinks', WHERE WHAT IT READS IS OF BULK AT MOST 1048576: true; the input reads as it did. -/
def fnExactGoodLinksUptoRow : OpenClaim := { program := "ytafalojjbghlhaa", sum := "82397873c2cfadff65af56704c0e40cbea38cde1666b78830445fa9ed43e0c4f", func := "loop.example/g00315/laws.FnExactGoodLinks", spec := "fnExactGoodLinks", unfollowed := true, recurses := true, apart := false, narrowed := true }
def FnExactGoodLinksUptoSaid : Prop := fnExactGoodLinksUptoRow.holds Try.pinned (OpenSpec.upto fnExactGoodLinksSpec)

/-- 'laws.FnExactIsWay', WHERE WHAT IT READS IS OF BULK AT MOST 1048576: true; the input reads as it did. -/
def fnExactIsWayUptoRow : OpenClaim := { program := "ytafalojjbghlhaa", sum := "82397873c2cfadff65af56704c0e40cbea38cde1666b78830445fa9ed43e0c4f", func := "loop.example/g00315/laws.FnExactIsWay", spec := "fnExactIsWay", unfollowed := true, recurses := true, apart := false, narrowed := true }
def FnExactIsWayUptoSaid : Prop := fnExactIsWayUptoRow.holds Try.pinned (OpenSpec.upto fnExactIsWaySpec)

/-- 'laws.FnExactWaysApart', WHERE WHAT IT READS IS OF BULK AT MOST 1048576: true; the input reads as it did. -/
def fnExactWaysApartUptoRow : OpenClaim := { program := "ytafalojjbghlhaa", sum := "82397873c2cfadff65af56704c0e40cbea38cde1666b78830445fa9ed43e0c4f", func := "loop.example/g00315/laws.FnExactWaysApart", spec := "fnExactWaysApart", unfollowed := true, recurses := true, apart := false, narrowed := true }
def FnExactWaysApartUptoSaid : Prop := fnExactWaysApartUptoRow.holds Try.pinned (OpenSpec.upto fnExactWaysApartSpec)

/-- 'laws.FnExactAreApart', WHERE WHAT IT READS IS OF BULK AT MOST 1048576: true; the input reads as it did. -/
def fnExactAreApartUptoRow : OpenClaim := { program := "ytafalojjbghlhaa", sum := "82397873c2cfadff65af56704c0e40cbea38cde1666b78830445fa9ed43e0c4f", func := "loop.example/g00315/laws.FnExactAreApart", spec := "fnExactAreApart", unfollowed := true, recurses := true, apart := false, narrowed := true }
def FnExactAreApartUptoSaid : Prop := fnExactAreApartUptoRow.holds Try.pinned (OpenSpec.upto fnExactAreApartSpec)

/-- 'laws.FnExactReachedBy', WHERE WHAT IT READS IS OF BULK AT MOST 1048576: true; the input reads as it did. -/
def fnExactReachedByUptoRow : OpenClaim := { program := "ytafalojjbghlhaa", sum := "82397873c2cfadff65af56704c0e40cbea38cde1666b78830445fa9ed43e0c4f", func := "loop.example/g00315/laws.FnExactReachedBy", spec := "fnExactReachedBy", unfollowed := true, recurses := true, apart := false, narrowed := true }
def FnExactReachedByUptoSaid : Prop := fnExactReachedByUptoRow.holds Try.pinned (OpenSpec.upto fnExactReachedBySpec)

/-- 'laws.FnExactFewestToCut', WHERE WHAT IT READS IS OF BULK AT MOST 1048576: true; the input reads as it did. -/
def fnExactFewestToCutUptoRow : OpenClaim := { program := "ytafalojjbghlhaa", sum := "82397873c2cfadff65af56704c0e40cbea38cde1666b78830445fa9ed43e0c4f", func := "loop.example/g00315/laws.FnExactFewestToCut", spec := "fnExactFewestToCut", unfollowed := true, recurses := true, apart := false, narrowed := true }
def FnExactFewestToCutUptoSaid : Prop := fnExactFewestToCutUptoRow.holds Try.pinned (OpenSpec.upto fnExactFewestToCutSpec)

/-- 'laws.FnMenger', WHERE WHAT IT READS IS OF BULK AT MOST 1048576: true; the input reads as it did. -/
def fnMengerUptoRow : OpenClaim := { program := "ytafalojjbghlhaa", sum := "82397873c2cfadff65af56704c0e40cbea38cde1666b78830445fa9ed43e0c4f", func := "loop.example/g00315/laws.FnMenger", spec := "fnMenger", unfollowed := true, recurses := true, apart := false, narrowed := true }
def FnMengerUptoSaid : Prop := fnMengerUptoRow.holds Try.pinned (OpenSpec.upto fnMengerSpec)

/-- 'laws.FnWays', WHERE WHAT IT READS IS OF BULK AT MOST 1048576: true; the input reads as it did. -/
def fnWaysUptoRow : OpenClaim := { program := "ytafalojjbghlhaa", sum := "82397873c2cfadff65af56704c0e40cbea38cde1666b78830445fa9ed43e0c4f", func := "loop.example/g00315/laws.FnWays", spec := "fnWays", unfollowed := true, recurses := true, apart := false, narrowed := true }
def FnWaysUptoSaid : Prop := fnWaysUptoRow.holds Try.pinned (OpenSpec.upto fnWaysSpec)

end Rows
end Go.Proofs.Ytafalojjbghlhaa
