/-
  No cell of these rows narrows 'for every input' (looked for: loops, veiled, ifaces, maps, wideKeys, modest, calm, conditions, laid).
  DERIVED. THE GIVEN ROWS OF THIS SEAT. 11 by the template 'for every input the law returns true; each argument reads behind the call as it read before'; 0 by the template 'total and deterministic' (their statements: YtnngbbiajioghaaTotals.lean).
  GIVEN WITH THE SEED: the statements are not yours to turn. If you find one false, say at which input.
  Laid BY PROGRAM, IN A SANDBOX (cutbox-rows.mjs): the forced cells as the released guide's own fill.sh prints them over the translation e05283cfb2999c47… (all of the seat's roots in one cut). By AI agents, Wed Nov 11 2026. No macro, syntax, notation, axiom, sorry.
-/
import Derived.Test.YtnngbbiajioghaaChecked
import GoSem.Claim
import GoSem.ClaimJoined
import GoSem.ClaimMapViews
import Derived.JoinedTies
import Derived.KernelRfl
namespace Go.Proofs.Ytnngbbiajioghaa
/- THE CELL 'sum', in the pinned program and in every row, IS THE sha256 OF THE DUMP (.gsa) THAT YtnngbbiajioghaaProg.lean LOADS. Nothing in Lean hashes anything: it is a label: what it is worth is what the hold of that sum in a sandbox is worth. -/
noncomputable def Try.pinned : Pinned := { name := "ytnngbbiajioghaa", sum := "e05283cfb2999c47dfca26383ff29b91e186e44613308fba340d816a03a8f660", checked := Try.checked }
namespace Rows
def none {H : Type} : Left H := { results := [], args := [] }

/-- 'armadalaw03.SumOps': WHATEVER THE INPUT: true; the input reads as it did. -/
def sumOpsSpec : ChangeSpec := { name := "sumOps", fn := fun _ => fun
  | [d1, d2, d3, d4] => { results := [.lit (.bool true)], args := [d1, d2, d3, d4] }
  | _ => none }
def sumOpsRow : OpenClaim := { program := "ytnngbbiajioghaa", sum := "e05283cfb2999c47dfca26383ff29b91e186e44613308fba340d816a03a8f660", func := "armada/armadalaw03.SumOps", spec := "sumOps", inPlace := ["math/bits.Add64"], unfollowed := true, recurses := true, plainKeys := false, apart := false }
def SumOpsSaid : Prop := sumOpsRow.holds Try.pinned (OpenSpec.ofChange sumOpsSpec)

/-- ITS FALSE NEIGHBOUR: 'it returns false'. Refute it at one input. -/
def sumOpsWrong : ChangeSpec := { name := "sumOps", fn := fun _ => fun
  | [d1, d2, d3, d4] => { results := [.lit (.bool false)], args := [d1, d2, d3, d4] }
  | _ => none }
def SumOpsWrongFalsely : Prop := sumOpsRow.holds Try.pinned (OpenSpec.ofChange sumOpsWrong)

/-- 'armadalaw03.SumBytes': WHATEVER THE INPUT: true; the input reads as it did. -/
def sumBytesSpec : ChangeSpec := { name := "sumBytes", fn := fun _ => fun
  | [d] => { results := [.lit (.bool true)], args := [d] }
  | _ => none }
def sumBytesRow : OpenClaim := { program := "ytnngbbiajioghaa", sum := "e05283cfb2999c47dfca26383ff29b91e186e44613308fba340d816a03a8f660", func := "armada/armadalaw03.SumBytes", spec := "sumBytes", inPlace := ["math/bits.Add64"], unfollowed := true, recurses := true, plainKeys := false, apart := false }
def SumBytesSaid : Prop := sumBytesRow.holds Try.pinned (OpenSpec.ofChange sumBytesSpec)

/-- ITS FALSE NEIGHBOUR: 'it returns false'. Refute it at one input. -/
def sumBytesWrong : ChangeSpec := { name := "sumBytes", fn := fun _ => fun
  | [d] => { results := [.lit (.bool false)], args := [d] }
  | _ => none }
def SumBytesWrongFalsely : Prop := sumBytesRow.holds Try.pinned (OpenSpec.ofChange sumBytesWrong)

/-- 'armadalaw03.SumLaws': WHATEVER THE INPUT: true; the input reads as it did. -/
def sumLawsSpec : ChangeSpec := { name := "sumLaws", fn := fun _ => fun
  | [d1, d2, d3, d4, d5] => { results := [.lit (.bool true)], args := [d1, d2, d3, d4, d5] }
  | _ => none }
def sumLawsRow : OpenClaim := { program := "ytnngbbiajioghaa", sum := "e05283cfb2999c47dfca26383ff29b91e186e44613308fba340d816a03a8f660", func := "armada/armadalaw03.SumLaws", spec := "sumLaws", inPlace := ["math/bits.Add64"], unfollowed := true, recurses := true, plainKeys := false, apart := false }
def SumLawsSaid : Prop := sumLawsRow.holds Try.pinned (OpenSpec.ofChange sumLawsSpec)

/-- ITS FALSE NEIGHBOUR: 'it returns false'. Refute it at one input. -/
def sumLawsWrong : ChangeSpec := { name := "sumLaws", fn := fun _ => fun
  | [d1, d2, d3, d4, d5] => { results := [.lit (.bool false)], args := [d1, d2, d3, d4, d5] }
  | _ => none }
def SumLawsWrongFalsely : Prop := sumLawsRow.holds Try.pinned (OpenSpec.ofChange sumLawsWrong)

/-- 'armadalaw03.SumOrder': WHATEVER THE INPUT: true; the input reads as it did. -/
def sumOrderSpec : ChangeSpec := { name := "sumOrder", fn := fun _ => fun
  | [d1, d2, d3] => { results := [.lit (.bool true)], args := [d1, d2, d3] }
  | _ => none }
def sumOrderRow : OpenClaim := { program := "ytnngbbiajioghaa", sum := "e05283cfb2999c47dfca26383ff29b91e186e44613308fba340d816a03a8f660", func := "armada/armadalaw03.SumOrder", spec := "sumOrder", inPlace := ["math/bits.Add64"], unfollowed := true, recurses := true, plainKeys := false, apart := false }
def SumOrderSaid : Prop := sumOrderRow.holds Try.pinned (OpenSpec.ofChange sumOrderSpec)

/-- ITS FALSE NEIGHBOUR: 'it returns false'. Refute it at one input. -/
def sumOrderWrong : ChangeSpec := { name := "sumOrder", fn := fun _ => fun
  | [d1, d2, d3] => { results := [.lit (.bool false)], args := [d1, d2, d3] }
  | _ => none }
def SumOrderWrongFalsely : Prop := sumOrderRow.holds Try.pinned (OpenSpec.ofChange sumOrderWrong)

/-- 'armadalaw03.SumFloats': WHATEVER THE INPUT: true; the input reads as it did. -/
def sumFloatsSpec : ChangeSpec := { name := "sumFloats", fn := fun _ => fun
  | [d1, d2] => { results := [.lit (.bool true)], args := [d1, d2] }
  | _ => none }
def sumFloatsRow : OpenClaim := { program := "ytnngbbiajioghaa", sum := "e05283cfb2999c47dfca26383ff29b91e186e44613308fba340d816a03a8f660", func := "armada/armadalaw03.SumFloats", spec := "sumFloats", inPlace := ["math.Float64frombits", "math/bits.Add64", "math.Float64bits"], unfollowed := true, recurses := true, plainKeys := false, apart := false }
def SumFloatsSaid : Prop := sumFloatsRow.holds Try.pinned (OpenSpec.ofChange sumFloatsSpec)

/-- ITS FALSE NEIGHBOUR: 'it returns false'. Refute it at one input. -/
def sumFloatsWrong : ChangeSpec := { name := "sumFloats", fn := fun _ => fun
  | [d1, d2] => { results := [.lit (.bool false)], args := [d1, d2] }
  | _ => none }
def SumFloatsWrongFalsely : Prop := sumFloatsRow.holds Try.pinned (OpenSpec.ofChange sumFloatsWrong)

/-- 'armadalaw03.SumAccs': WHATEVER THE INPUT: true; the input reads as it did. -/
def sumAccsSpec : ChangeSpec := { name := "sumAccs", fn := fun _ => fun
  | [d] => { results := [.lit (.bool true)], args := [d] }
  | _ => none }
def sumAccsRow : OpenClaim := { program := "ytnngbbiajioghaa", sum := "e05283cfb2999c47dfca26383ff29b91e186e44613308fba340d816a03a8f660", func := "armada/armadalaw03.SumAccs", spec := "sumAccs", inPlace := ["math/bits.Add64"], unfollowed := true, recurses := true, plainKeys := false, apart := false }
def SumAccsSaid : Prop := sumAccsRow.holds Try.pinned (OpenSpec.ofChange sumAccsSpec)

/-- ITS FALSE NEIGHBOUR: 'it returns false'. Refute it at one input. -/
def sumAccsWrong : ChangeSpec := { name := "sumAccs", fn := fun _ => fun
  | [d] => { results := [.lit (.bool false)], args := [d] }
  | _ => none }
def SumAccsWrongFalsely : Prop := sumAccsRow.holds Try.pinned (OpenSpec.ofChange sumAccsWrong)

/-- 'armadalaw03.SumNil': WHATEVER THE INPUT: true; the input reads as it did. -/
def sumNilSpec : ChangeSpec := { name := "sumNil", fn := fun _ => fun
  | [d] => { results := [.lit (.bool true)], args := [d] }
  | _ => none }
def sumNilRow : OpenClaim := { program := "ytnngbbiajioghaa", sum := "e05283cfb2999c47dfca26383ff29b91e186e44613308fba340d816a03a8f660", func := "armada/armadalaw03.SumNil", spec := "sumNil", inPlace := ["math/bits.Add64"], unfollowed := true, recurses := true, plainKeys := false, apart := false }
def SumNilSaid : Prop := sumNilRow.holds Try.pinned (OpenSpec.ofChange sumNilSpec)

/-- ITS FALSE NEIGHBOUR: 'it returns false'. Refute it at one input. -/
def sumNilWrong : ChangeSpec := { name := "sumNil", fn := fun _ => fun
  | [d] => { results := [.lit (.bool false)], args := [d] }
  | _ => none }
def SumNilWrongFalsely : Prop := sumNilRow.holds Try.pinned (OpenSpec.ofChange sumNilWrong)

/-- 'armadalaw03.SumExact': WHATEVER THE INPUT: true; the input reads as it did. -/
def sumExactSpec : ChangeSpec := { name := "sumExact", fn := fun _ => fun
  | [d1, d2, d3] => { results := [.lit (.bool true)], args := [d1, d2, d3] }
  | _ => none }
def sumExactRow : OpenClaim := { program := "ytnngbbiajioghaa", sum := "e05283cfb2999c47dfca26383ff29b91e186e44613308fba340d816a03a8f660", func := "armada/armadalaw03.SumExact", spec := "sumExact", inPlace := ["math/bits.Add64", "math.Float64bits", "math.Float64frombits"], unfollowed := true, recurses := true, plainKeys := false, apart := false }
def SumExactSaid : Prop := sumExactRow.holds Try.pinned (OpenSpec.ofChange sumExactSpec)

/-- ITS FALSE NEIGHBOUR: 'it returns false'. Refute it at one input. -/
def sumExactWrong : ChangeSpec := { name := "sumExact", fn := fun _ => fun
  | [d1, d2, d3] => { results := [.lit (.bool false)], args := [d1, d2, d3] }
  | _ => none }
def SumExactWrongFalsely : Prop := sumExactRow.holds Try.pinned (OpenSpec.ofChange sumExactWrong)

/-- 'armadalaw03.SumReduces': WHATEVER THE INPUT: true; the input reads as it did. -/
def sumReducesSpec : ChangeSpec := { name := "sumReduces", fn := fun _ => fun
  | [d1, d2, d3] => { results := [.lit (.bool true)], args := [d1, d2, d3] }
  | _ => none }
def sumReducesRow : OpenClaim := { program := "ytnngbbiajioghaa", sum := "e05283cfb2999c47dfca26383ff29b91e186e44613308fba340d816a03a8f660", func := "armada/armadalaw03.SumReduces", spec := "sumReduces", inPlace := ["math/bits.Add64"], unfollowed := true, recurses := true, plainKeys := false, apart := false }
def SumReducesSaid : Prop := sumReducesRow.holds Try.pinned (OpenSpec.ofChange sumReducesSpec)

/-- ITS FALSE NEIGHBOUR: 'it returns false'. Refute it at one input. -/
def sumReducesWrong : ChangeSpec := { name := "sumReduces", fn := fun _ => fun
  | [d1, d2, d3] => { results := [.lit (.bool false)], args := [d1, d2, d3] }
  | _ => none }
def SumReducesWrongFalsely : Prop := sumReducesRow.holds Try.pinned (OpenSpec.ofChange sumReducesWrong)

/-- 'armadalaw03.SumScans': WHATEVER THE INPUT: true; the input reads as it did. -/
def sumScansSpec : ChangeSpec := { name := "sumScans", fn := fun _ => fun
  | [d1, d2, d3] => { results := [.lit (.bool true)], args := [d1, d2, d3] }
  | _ => none }
def sumScansRow : OpenClaim := { program := "ytnngbbiajioghaa", sum := "e05283cfb2999c47dfca26383ff29b91e186e44613308fba340d816a03a8f660", func := "armada/armadalaw03.SumScans", spec := "sumScans", inPlace := ["math/bits.Add64"], unfollowed := true, recurses := true, plainKeys := false, apart := false }
def SumScansSaid : Prop := sumScansRow.holds Try.pinned (OpenSpec.ofChange sumScansSpec)

/-- ITS FALSE NEIGHBOUR: 'it returns false'. Refute it at one input. -/
def sumScansWrong : ChangeSpec := { name := "sumScans", fn := fun _ => fun
  | [d1, d2, d3] => { results := [.lit (.bool false)], args := [d1, d2, d3] }
  | _ => none }
def SumScansWrongFalsely : Prop := sumScansRow.holds Try.pinned (OpenSpec.ofChange sumScansWrong)

/-- 'armadalaw03.SumDoubled': WHATEVER THE INPUT: true; the input reads as it did. -/
def sumDoubledSpec : ChangeSpec := { name := "sumDoubled", fn := fun _ => fun
  | [d] => { results := [.lit (.bool true)], args := [d] }
  | _ => none }
def sumDoubledRow : OpenClaim := { program := "ytnngbbiajioghaa", sum := "e05283cfb2999c47dfca26383ff29b91e186e44613308fba340d816a03a8f660", func := "armada/armadalaw03.SumDoubled", spec := "sumDoubled", inPlace := ["math.Float64frombits", "math.Float64bits", "math/bits.Add64"], unfollowed := true, recurses := true, plainKeys := false, apart := false }
def SumDoubledSaid : Prop := sumDoubledRow.holds Try.pinned (OpenSpec.ofChange sumDoubledSpec)

/-- ITS FALSE NEIGHBOUR: 'it returns false'. Refute it at one input. -/
def sumDoubledWrong : ChangeSpec := { name := "sumDoubled", fn := fun _ => fun
  | [d] => { results := [.lit (.bool false)], args := [d] }
  | _ => none }
def SumDoubledWrongFalsely : Prop := sumDoubledRow.holds Try.pinned (OpenSpec.ofChange sumDoubledWrong)

/- THE SECOND FORM. 'bulk': how many values and letters a reading holds, each counted each time it is reached (what is shared counts as often as it is met; a slice's spare places count too). A statement '..UptoSaid' is the law's where the arguments, and the package variables that the reading takes, are together of bulk at most 1048576: NARROWER than '..Said'. Prove '..Said' where nothing that the law and all that it calls make is longer than what came in: it says more and counts as full. Else prove '..UptoSaid'. A law counts once. -/
mutual
def uptoBulk {H : Type} : DataW H → Nat
  | .lit (.string bytes) => bytes.length + 1
  | .lit _ => 1
  | .nil => 1
  | .ptr d => uptoBulk d + 1
  | .slice elems spare => uptoBulkAll elems + uptoBulkAll spare + 1
  | .agg parts => uptoBulkAll parts + 1
  | .iface _ d => uptoBulk d + 1
  | .map entries => uptoBulkEntries entries + 1
  | .held _ => 1
def uptoBulkAll {H : Type} : List (DataW H) → Nat
  | [] => 0
  | d :: r => uptoBulk d + uptoBulkAll r
def uptoBulkEntries {H : Type} : List (Lit × DataW H) → Nat
  | [] => 0
  | x :: r => uptoBulkEntry x + uptoBulkEntries r
def uptoBulkEntry {H : Type} : Lit × DataW H → Nat
  | (.string bytes, d) => bytes.length + uptoBulk d + 1
  | (_, d) => uptoBulk d + 1
 end
def uptoSmall : (H : Type) → List (DataW H) → Bool := fun _ ds => decide (uptoBulkAll ds ≤ 1048576)
def OpenSpec.upto (s : _root_.Go.ChangeSpec) : _root_.Go.OpenSpec := { _root_.Go.OpenSpec.ofChange s with cond := some uptoSmall }

/-- 'armadalaw03.SumOps', WHERE WHAT IT READS IS OF BULK AT MOST 1048576: true; the input reads as it did. -/
def sumOpsUptoRow : OpenClaim := { program := "ytnngbbiajioghaa", sum := "e05283cfb2999c47dfca26383ff29b91e186e44613308fba340d816a03a8f660", func := "armada/armadalaw03.SumOps", spec := "sumOps", inPlace := ["math/bits.Add64"], unfollowed := true, recurses := true, plainKeys := false, apart := false, narrowed := true }
def SumOpsUptoSaid : Prop := sumOpsUptoRow.holds Try.pinned (OpenSpec.upto sumOpsSpec)

/-- 'armadalaw03.SumBytes', WHERE WHAT IT READS IS OF BULK AT MOST 1048576: true; the input reads as it did. -/
def sumBytesUptoRow : OpenClaim := { program := "ytnngbbiajioghaa", sum := "e05283cfb2999c47dfca26383ff29b91e186e44613308fba340d816a03a8f660", func := "armada/armadalaw03.SumBytes", spec := "sumBytes", inPlace := ["math/bits.Add64"], unfollowed := true, recurses := true, plainKeys := false, apart := false, narrowed := true }
def SumBytesUptoSaid : Prop := sumBytesUptoRow.holds Try.pinned (OpenSpec.upto sumBytesSpec)

/-- 'armadalaw03.SumLaws', WHERE WHAT IT READS IS OF BULK AT MOST 1048576: true; the input reads as it did. -/
def sumLawsUptoRow : OpenClaim := { program := "ytnngbbiajioghaa", sum := "e05283cfb2999c47dfca26383ff29b91e186e44613308fba340d816a03a8f660", func := "armada/armadalaw03.SumLaws", spec := "sumLaws", inPlace := ["math/bits.Add64"], unfollowed := true, recurses := true, plainKeys := false, apart := false, narrowed := true }
def SumLawsUptoSaid : Prop := sumLawsUptoRow.holds Try.pinned (OpenSpec.upto sumLawsSpec)

/-- 'armadalaw03.SumOrder', WHERE WHAT IT READS IS OF BULK AT MOST 1048576: true; the input reads as it did. -/
def sumOrderUptoRow : OpenClaim := { program := "ytnngbbiajioghaa", sum := "e05283cfb2999c47dfca26383ff29b91e186e44613308fba340d816a03a8f660", func := "armada/armadalaw03.SumOrder", spec := "sumOrder", inPlace := ["math/bits.Add64"], unfollowed := true, recurses := true, plainKeys := false, apart := false, narrowed := true }
def SumOrderUptoSaid : Prop := sumOrderUptoRow.holds Try.pinned (OpenSpec.upto sumOrderSpec)

/-- 'armadalaw03.SumFloats', WHERE WHAT IT READS IS OF BULK AT MOST 1048576: true; the input reads as it did. -/
def sumFloatsUptoRow : OpenClaim := { program := "ytnngbbiajioghaa", sum := "e05283cfb2999c47dfca26383ff29b91e186e44613308fba340d816a03a8f660", func := "armada/armadalaw03.SumFloats", spec := "sumFloats", inPlace := ["math.Float64frombits", "math/bits.Add64", "math.Float64bits"], unfollowed := true, recurses := true, plainKeys := false, apart := false, narrowed := true }
def SumFloatsUptoSaid : Prop := sumFloatsUptoRow.holds Try.pinned (OpenSpec.upto sumFloatsSpec)

/-- 'armadalaw03.SumAccs', WHERE WHAT IT READS IS OF BULK AT MOST 1048576: true; the input reads as it did. -/
def sumAccsUptoRow : OpenClaim := { program := "ytnngbbiajioghaa", sum := "e05283cfb2999c47dfca26383ff29b91e186e44613308fba340d816a03a8f660", func := "armada/armadalaw03.SumAccs", spec := "sumAccs", inPlace := ["math/bits.Add64"], unfollowed := true, recurses := true, plainKeys := false, apart := false, narrowed := true }
def SumAccsUptoSaid : Prop := sumAccsUptoRow.holds Try.pinned (OpenSpec.upto sumAccsSpec)

/-- 'armadalaw03.SumNil', WHERE WHAT IT READS IS OF BULK AT MOST 1048576: true; the input reads as it did. -/
def sumNilUptoRow : OpenClaim := { program := "ytnngbbiajioghaa", sum := "e05283cfb2999c47dfca26383ff29b91e186e44613308fba340d816a03a8f660", func := "armada/armadalaw03.SumNil", spec := "sumNil", inPlace := ["math/bits.Add64"], unfollowed := true, recurses := true, plainKeys := false, apart := false, narrowed := true }
def SumNilUptoSaid : Prop := sumNilUptoRow.holds Try.pinned (OpenSpec.upto sumNilSpec)

/-- 'armadalaw03.SumExact', WHERE WHAT IT READS IS OF BULK AT MOST 1048576: true; the input reads as it did. -/
def sumExactUptoRow : OpenClaim := { program := "ytnngbbiajioghaa", sum := "e05283cfb2999c47dfca26383ff29b91e186e44613308fba340d816a03a8f660", func := "armada/armadalaw03.SumExact", spec := "sumExact", inPlace := ["math/bits.Add64", "math.Float64bits", "math.Float64frombits"], unfollowed := true, recurses := true, plainKeys := false, apart := false, narrowed := true }
def SumExactUptoSaid : Prop := sumExactUptoRow.holds Try.pinned (OpenSpec.upto sumExactSpec)

/-- 'armadalaw03.SumReduces', WHERE WHAT IT READS IS OF BULK AT MOST 1048576: true; the input reads as it did. -/
def sumReducesUptoRow : OpenClaim := { program := "ytnngbbiajioghaa", sum := "e05283cfb2999c47dfca26383ff29b91e186e44613308fba340d816a03a8f660", func := "armada/armadalaw03.SumReduces", spec := "sumReduces", inPlace := ["math/bits.Add64"], unfollowed := true, recurses := true, plainKeys := false, apart := false, narrowed := true }
def SumReducesUptoSaid : Prop := sumReducesUptoRow.holds Try.pinned (OpenSpec.upto sumReducesSpec)

/-- 'armadalaw03.SumScans', WHERE WHAT IT READS IS OF BULK AT MOST 1048576: true; the input reads as it did. -/
def sumScansUptoRow : OpenClaim := { program := "ytnngbbiajioghaa", sum := "e05283cfb2999c47dfca26383ff29b91e186e44613308fba340d816a03a8f660", func := "armada/armadalaw03.SumScans", spec := "sumScans", inPlace := ["math/bits.Add64"], unfollowed := true, recurses := true, plainKeys := false, apart := false, narrowed := true }
def SumScansUptoSaid : Prop := sumScansUptoRow.holds Try.pinned (OpenSpec.upto sumScansSpec)

/-- 'armadalaw03.SumDoubled', WHERE WHAT IT READS IS OF BULK AT MOST 1048576: true; the input reads as it did. -/
def sumDoubledUptoRow : OpenClaim := { program := "ytnngbbiajioghaa", sum := "e05283cfb2999c47dfca26383ff29b91e186e44613308fba340d816a03a8f660", func := "armada/armadalaw03.SumDoubled", spec := "sumDoubled", inPlace := ["math.Float64frombits", "math.Float64bits", "math/bits.Add64"], unfollowed := true, recurses := true, plainKeys := false, apart := false, narrowed := true }
def SumDoubledUptoSaid : Prop := sumDoubledUptoRow.holds Try.pinned (OpenSpec.upto sumDoubledSpec)

end Rows
end Go.Proofs.Ytnngbbiajioghaa
