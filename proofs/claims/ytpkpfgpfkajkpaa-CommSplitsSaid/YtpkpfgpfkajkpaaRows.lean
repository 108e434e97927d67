/-
  No cell of these rows narrows 'for every input' (looked for: loops, veiled, ifaces, maps, wideKeys, modest, calm, conditions, laid).
  DERIVED. THE GIVEN ROWS OF THIS SEAT. 10 by the template 'for every input the law returns true; each argument reads behind the call as it read before'; 0 by the template 'total and deterministic' (their statements: YtpkpfgpfkajkpaaTotals.lean).
  GIVEN WITH THE SEED: the statements are not yours to turn. If you find one false, say at which input.
  Laid BY PROGRAM, IN A SANDBOX (cutbox-rows.mjs): the forced cells as the released guide's own fill.sh prints them over the translation 842da9be96204130… (all of the seat's roots in one cut). By AI agents, Wed Nov 11 2026. No macro, syntax, notation, axiom, sorry.
-/
import Derived.Test.YtpkpfgpfkajkpaaChecked
import GoSem.Claim
import GoSem.ClaimJoined
import GoSem.ClaimMapViews
import Derived.JoinedTies
import Derived.KernelRfl
namespace Go.Proofs.Ytpkpfgpfkajkpaa
/- THE CELL 'sum', in the pinned program and in every row, IS THE sha256 OF THE DUMP (.gsa) THAT YtpkpfgpfkajkpaaProg.lean LOADS. Nothing in Lean hashes anything: it is a label: what it is worth is what the hold of that sum in a sandbox is worth. -/
noncomputable def Try.pinned : Pinned := { name := "ytpkpfgpfkajkpaa", sum := "842da9be962041305f82252cfe231defe544facfc7ede0561eb6601356b850e8", checked := Try.checked }
namespace Rows
def none {H : Type} : Left H := { results := [], args := [] }

/-- 'armadalaw02.CommRanges': WHATEVER THE INPUT: true; the input reads as it did. -/
def commRangesSpec : ChangeSpec := { name := "commRanges", fn := fun _ => fun
  | [d1, d2] => { results := [.lit (.bool true)], args := [d1, d2] }
  | _ => none }
def commRangesRow : OpenClaim := { program := "ytpkpfgpfkajkpaa", sum := "842da9be962041305f82252cfe231defe544facfc7ede0561eb6601356b850e8", func := "armada/armadalaw02.CommRanges", spec := "commRanges", unfollowed := true, recurses := true, plainKeys := false, apart := false }
def CommRangesSaid : Prop := commRangesRow.holds Try.pinned (OpenSpec.ofChange commRangesSpec)

/-- ITS FALSE NEIGHBOUR: 'it returns false'. Refute it at one input. -/
def commRangesWrong : ChangeSpec := { name := "commRanges", fn := fun _ => fun
  | [d1, d2] => { results := [.lit (.bool false)], args := [d1, d2] }
  | _ => none }
def CommRangesWrongFalsely : Prop := commRangesRow.holds Try.pinned (OpenSpec.ofChange commRangesWrong)

/-- 'armadalaw02.CommFactors': WHATEVER THE INPUT: true; the input reads as it did. -/
def commFactorsSpec : ChangeSpec := { name := "commFactors", fn := fun _ => fun
  | [d1, d2] => { results := [.lit (.bool true)], args := [d1, d2] }
  | _ => none }
def commFactorsRow : OpenClaim := { program := "ytpkpfgpfkajkpaa", sum := "842da9be962041305f82252cfe231defe544facfc7ede0561eb6601356b850e8", func := "armada/armadalaw02.CommFactors", spec := "commFactors", unfollowed := true, recurses := true, plainKeys := false, apart := false }
def CommFactorsSaid : Prop := commFactorsRow.holds Try.pinned (OpenSpec.ofChange commFactorsSpec)

/-- ITS FALSE NEIGHBOUR: 'it returns false'. Refute it at one input. -/
def commFactorsWrong : ChangeSpec := { name := "commFactors", fn := fun _ => fun
  | [d1, d2] => { results := [.lit (.bool false)], args := [d1, d2] }
  | _ => none }
def CommFactorsWrongFalsely : Prop := commFactorsRow.holds Try.pinned (OpenSpec.ofChange commFactorsWrong)

/-- 'armadalaw02.CommSplits': WHATEVER THE INPUT: true; the input reads as it did. -/
def commSplitsSpec : ChangeSpec := { name := "commSplits", fn := fun _ => fun
  | [d1, d2, d3, d4] => { results := [.lit (.bool true)], args := [d1, d2, d3, d4] }
  | _ => none }
def commSplitsRow : OpenClaim := { program := "ytpkpfgpfkajkpaa", sum := "842da9be962041305f82252cfe231defe544facfc7ede0561eb6601356b850e8", func := "armada/armadalaw02.CommSplits", spec := "commSplits", unfollowed := true, recurses := true, plainKeys := false, apart := false }
def CommSplitsSaid : Prop := commSplitsRow.holds Try.pinned (OpenSpec.ofChange commSplitsSpec)

/-- ITS FALSE NEIGHBOUR: 'it returns false'. Refute it at one input. -/
def commSplitsWrong : ChangeSpec := { name := "commSplits", fn := fun _ => fun
  | [d1, d2, d3, d4] => { results := [.lit (.bool false)], args := [d1, d2, d3, d4] }
  | _ => none }
def CommSplitsWrongFalsely : Prop := commSplitsRow.holds Try.pinned (OpenSpec.ofChange commSplitsWrong)

/-- 'armadalaw02.CommPlaces': WHATEVER THE INPUT: true; the input reads as it did. -/
def commPlacesSpec : ChangeSpec := { name := "commPlaces", fn := fun _ => fun
  | [d1, d2, d3, d4] => { results := [.lit (.bool true)], args := [d1, d2, d3, d4] }
  | _ => none }
def commPlacesRow : OpenClaim := { program := "ytpkpfgpfkajkpaa", sum := "842da9be962041305f82252cfe231defe544facfc7ede0561eb6601356b850e8", func := "armada/armadalaw02.CommPlaces", spec := "commPlaces", unfollowed := true, recurses := true, plainKeys := false, apart := false }
def CommPlacesSaid : Prop := commPlacesRow.holds Try.pinned (OpenSpec.ofChange commPlacesSpec)

/-- ITS FALSE NEIGHBOUR: 'it returns false'. Refute it at one input. -/
def commPlacesWrong : ChangeSpec := { name := "commPlaces", fn := fun _ => fun
  | [d1, d2, d3, d4] => { results := [.lit (.bool false)], args := [d1, d2, d3, d4] }
  | _ => none }
def CommPlacesWrongFalsely : Prop := commPlacesRow.holds Try.pinned (OpenSpec.ofChange commPlacesWrong)

/-- 'armadalaw02.CommGroups': WHATEVER THE INPUT: true; the input reads as it did. -/
def commGroupsSpec : ChangeSpec := { name := "commGroups", fn := fun _ => fun
  | [d1, d2] => { results := [.lit (.bool true)], args := [d1, d2] }
  | _ => none }
def commGroupsRow : OpenClaim := { program := "ytpkpfgpfkajkpaa", sum := "842da9be962041305f82252cfe231defe544facfc7ede0561eb6601356b850e8", func := "armada/armadalaw02.CommGroups", spec := "commGroups", unfollowed := true, recurses := true, plainKeys := false, apart := false }
def CommGroupsSaid : Prop := commGroupsRow.holds Try.pinned (OpenSpec.ofChange commGroupsSpec)

/-- ITS FALSE NEIGHBOUR: 'it returns false'. Refute it at one input. -/
def commGroupsWrong : ChangeSpec := { name := "commGroups", fn := fun _ => fun
  | [d1, d2] => { results := [.lit (.bool false)], args := [d1, d2] }
  | _ => none }
def CommGroupsWrongFalsely : Prop := commGroupsRow.holds Try.pinned (OpenSpec.ofChange commGroupsWrong)

/-- 'armadalaw02.CommRanks': WHATEVER THE INPUT: true; the input reads as it did. -/
def commRanksSpec : ChangeSpec := { name := "commRanks", fn := fun _ => fun
  | [d1, d2, d3] => { results := [.lit (.bool true)], args := [d1, d2, d3] }
  | _ => none }
def commRanksRow : OpenClaim := { program := "ytpkpfgpfkajkpaa", sum := "842da9be962041305f82252cfe231defe544facfc7ede0561eb6601356b850e8", func := "armada/armadalaw02.CommRanks", spec := "commRanks", unfollowed := true, recurses := true, plainKeys := false, apart := false }
def CommRanksSaid : Prop := commRanksRow.holds Try.pinned (OpenSpec.ofChange commRanksSpec)

/-- ITS FALSE NEIGHBOUR: 'it returns false'. Refute it at one input. -/
def commRanksWrong : ChangeSpec := { name := "commRanks", fn := fun _ => fun
  | [d1, d2, d3] => { results := [.lit (.bool false)], args := [d1, d2, d3] }
  | _ => none }
def CommRanksWrongFalsely : Prop := commRanksRow.holds Try.pinned (OpenSpec.ofChange commRanksWrong)

/-- 'armadalaw02.CommNil': WHATEVER THE INPUT: true; the input reads as it did. -/
def commNilSpec : ChangeSpec := { name := "commNil", fn := fun _ => fun
  | [d1, d2] => { results := [.lit (.bool true)], args := [d1, d2] }
  | _ => none }
def commNilRow : OpenClaim := { program := "ytpkpfgpfkajkpaa", sum := "842da9be962041305f82252cfe231defe544facfc7ede0561eb6601356b850e8", func := "armada/armadalaw02.CommNil", spec := "commNil", inPlace := ["maps.clone"], unfollowed := true, recurses := true, plainKeys := false, apart := false }
def CommNilSaid : Prop := commNilRow.holds Try.pinned (OpenSpec.ofChange commNilSpec)

/-- ITS FALSE NEIGHBOUR: 'it returns false'. Refute it at one input. -/
def commNilWrong : ChangeSpec := { name := "commNil", fn := fun _ => fun
  | [d1, d2] => { results := [.lit (.bool false)], args := [d1, d2] }
  | _ => none }
def CommNilWrongFalsely : Prop := commNilRow.holds Try.pinned (OpenSpec.ofChange commNilWrong)

/-- 'armadalaw02.CommParts': WHATEVER THE INPUT: true; the input reads as it did. -/
def commPartsSpec : ChangeSpec := { name := "commParts", fn := fun _ => fun
  | [d1, d2, d3, d4] => { results := [.lit (.bool true)], args := [d1, d2, d3, d4] }
  | _ => none }
def commPartsRow : OpenClaim := { program := "ytpkpfgpfkajkpaa", sum := "842da9be962041305f82252cfe231defe544facfc7ede0561eb6601356b850e8", func := "armada/armadalaw02.CommParts", spec := "commParts", unfollowed := true, recurses := true, plainKeys := false, apart := false }
def CommPartsSaid : Prop := commPartsRow.holds Try.pinned (OpenSpec.ofChange commPartsSpec)

/-- ITS FALSE NEIGHBOUR: 'it returns false'. Refute it at one input. -/
def commPartsWrong : ChangeSpec := { name := "commParts", fn := fun _ => fun
  | [d1, d2, d3, d4] => { results := [.lit (.bool false)], args := [d1, d2, d3, d4] }
  | _ => none }
def CommPartsWrongFalsely : Prop := commPartsRow.holds Try.pinned (OpenSpec.ofChange commPartsWrong)

/-- 'armadalaw02.CommSets': WHATEVER THE INPUT: true; the input reads as it did. -/
def commSetsSpec : ChangeSpec := { name := "commSets", fn := fun _ => fun
  | [d1, d2] => { results := [.lit (.bool true)], args := [d1, d2] }
  | _ => none }
def commSetsRow : OpenClaim := { program := "ytpkpfgpfkajkpaa", sum := "842da9be962041305f82252cfe231defe544facfc7ede0561eb6601356b850e8", func := "armada/armadalaw02.CommSets", spec := "commSets", unfollowed := true, recurses := true, plainKeys := false, apart := false }
def CommSetsSaid : Prop := commSetsRow.holds Try.pinned (OpenSpec.ofChange commSetsSpec)

/-- ITS FALSE NEIGHBOUR: 'it returns false'. Refute it at one input. -/
def commSetsWrong : ChangeSpec := { name := "commSets", fn := fun _ => fun
  | [d1, d2] => { results := [.lit (.bool false)], args := [d1, d2] }
  | _ => none }
def CommSetsWrongFalsely : Prop := commSetsRow.holds Try.pinned (OpenSpec.ofChange commSetsWrong)

/-- 'armadalaw02.CommGrids': WHATEVER THE INPUT: true; the input reads as it did. -/
def commGridsSpec : ChangeSpec := { name := "commGrids", fn := fun _ => fun
  | [d1, d2, d3, d4, d5, d6, d7] => { results := [.lit (.bool true)], args := [d1, d2, d3, d4, d5, d6, d7] }
  | _ => none }
def commGridsRow : OpenClaim := { program := "ytpkpfgpfkajkpaa", sum := "842da9be962041305f82252cfe231defe544facfc7ede0561eb6601356b850e8", func := "armada/armadalaw02.CommGrids", spec := "commGrids", unfollowed := true, recurses := true, plainKeys := false, apart := false }
def CommGridsSaid : Prop := commGridsRow.holds Try.pinned (OpenSpec.ofChange commGridsSpec)

/-- ITS FALSE NEIGHBOUR: 'it returns false'. Refute it at one input. -/
def commGridsWrong : ChangeSpec := { name := "commGrids", fn := fun _ => fun
  | [d1, d2, d3, d4, d5, d6, d7] => { results := [.lit (.bool false)], args := [d1, d2, d3, d4, d5, d6, d7] }
  | _ => none }
def CommGridsWrongFalsely : Prop := commGridsRow.holds Try.pinned (OpenSpec.ofChange commGridsWrong)

/- THE SECOND FORM. 'bulk': how many values and letters a reading holds, each counted each time it is reached (what is shared counts as often as it is met; a slice's spare places count too). A statement '..UptoSaid' is the law's where the arguments, and the package variables that the reading takes, are together of bulk at most 1048576: NARROWER than '..Said'. Prove '..Said' where nothing that the law and all that it calls make is longer than what came in: it says more and counts as full. Else prove '..UptoSaid'. A law counts once. -/
mutual
def uptoBulk {H : Type} : DataW H → Nat
  | .lit (.string bytes) => bytes.length + 1
  | .lit _ => 1
  | .nil => 1
  | .ptr d => uptoBulk d + 1
  | .slice elems spare => uptoBulkAll elems + uptoBulkAll spare + 1
  | .agg parts => uptoBulkAll parts + 1
  | .iface _ d => uptoBulk d + 1
  | .map entries => uptoBulkEntries entries + 1
  | .held _ => 1
def uptoBulkAll {H : Type} : List (DataW H) → Nat
  | [] => 0
  | d :: r => uptoBulk d + uptoBulkAll r
def uptoBulkEntries {H : Type} : List (Lit × DataW H) → Nat
  | [] => 0
  | x :: r => uptoBulkEntry x + uptoBulkEntries r
def uptoBulkEntry {H : Type} : Lit × DataW H → Nat
  | (.string bytes, d) => bytes.length + uptoBulk d + 1
  | (_, d) => uptoBulk d + 1
 end
def uptoSmall : (H : Type) → List (DataW H) → Bool := fun _ ds => decide (uptoBulkAll ds ≤ 1048576)
def OpenSpec.upto (s : _root_.Go.ChangeSpec) : _root_.Go.OpenSpec := { _root_.Go.OpenSpec.ofChange s with cond := some uptoSmall }

/-- 'armadalaw02.CommRanges', WHERE WHAT IT READS IS OF BULK AT MOST 1048576: true; the input reads as it did. -/
def commRangesUptoRow : OpenClaim := { program := "ytpkpfgpfkajkpaa", sum := "842da9be962041305f82252cfe231defe544facfc7ede0561eb6601356b850e8", func := "armada/armadalaw02.CommRanges", spec := "commRanges", unfollowed := true, recurses := true, plainKeys := false, apart := false, narrowed := true }
def CommRangesUptoSaid : Prop := commRangesUptoRow.holds Try.pinned (OpenSpec.upto commRangesSpec)

/-- 'armadalaw02.CommFactors', WHERE WHAT IT READS IS OF BULK AT MOST 1048576: true; the input reads as it did. -/
def commFactorsUptoRow : OpenClaim := { program := "ytpkpfgpfkajkpaa", sum := "842da9be962041305f82252cfe231defe544facfc7ede0561eb6601356b850e8", func := "armada/armadalaw02.CommFactors", spec := "commFactors", unfollowed := true, recurses := true, plainKeys := false, apart := false, narrowed := true }
def CommFactorsUptoSaid : Prop := commFactorsUptoRow.holds Try.pinned (OpenSpec.upto commFactorsSpec)

/-- 'armadalaw02.CommSplits', WHERE WHAT IT READS IS OF BULK AT MOST 1048576: true; the input reads as it did. -/
def commSplitsUptoRow : OpenClaim := { program := "ytpkpfgpfkajkpaa", sum := "842da9be962041305f82252cfe231defe544facfc7ede0561eb6601356b850e8", func := "armada/armadalaw02.CommSplits", spec := "commSplits", unfollowed := true, recurses := true, plainKeys := false, apart := false, narrowed := true }
def CommSplitsUptoSaid : Prop := commSplitsUptoRow.holds Try.pinned (OpenSpec.upto commSplitsSpec)

/-- 'armadalaw02.CommPlaces', WHERE WHAT IT READS IS OF BULK AT MOST 1048576: true; the input reads as it did. -/
def commPlacesUptoRow : OpenClaim := { program := "ytpkpfgpfkajkpaa", sum := "842da9be962041305f82252cfe231defe544facfc7ede0561eb6601356b850e8", func := "armada/armadalaw02.CommPlaces", spec := "commPlaces", unfollowed := true, recurses := true, plainKeys := false, apart := false, narrowed := true }
def CommPlacesUptoSaid : Prop := commPlacesUptoRow.holds Try.pinned (OpenSpec.upto commPlacesSpec)

/-- 'armadalaw02.CommGroups', WHERE WHAT IT READS IS OF BULK AT MOST 1048576: true; the input reads as it did. -/
def commGroupsUptoRow : OpenClaim := { program := "ytpkpfgpfkajkpaa", sum := "842da9be962041305f82252cfe231defe544facfc7ede0561eb6601356b850e8", func := "armada/armadalaw02.CommGroups", spec := "commGroups", unfollowed := true, recurses := true, plainKeys := false, apart := false, narrowed := true }
def CommGroupsUptoSaid : Prop := commGroupsUptoRow.holds Try.pinned (OpenSpec.upto commGroupsSpec)

/-- 'armadalaw02.CommRanks', WHERE WHAT IT READS IS OF BULK AT MOST 1048576: true; the input reads as it did. -/
def commRanksUptoRow : OpenClaim := { program := "ytpkpfgpfkajkpaa", sum := "842da9be962041305f82252cfe231defe544facfc7ede0561eb6601356b850e8", func := "armada/armadalaw02.CommRanks", spec := "commRanks", unfollowed := true, recurses := true, plainKeys := false, apart := false, narrowed := true }
def CommRanksUptoSaid : Prop := commRanksUptoRow.holds Try.pinned (OpenSpec.upto commRanksSpec)

/-- 'armadalaw02.CommNil', WHERE WHAT IT READS IS OF BULK AT MOST 1048576: true; the input reads as it did. -/
def commNilUptoRow : OpenClaim := { program := "ytpkpfgpfkajkpaa", sum := "842da9be962041305f82252cfe231defe544facfc7ede0561eb6601356b850e8", func := "armada/armadalaw02.CommNil", spec := "commNil", inPlace := ["maps.clone"], unfollowed := true, recurses := true, plainKeys := false, apart := false, narrowed := true }
def CommNilUptoSaid : Prop := commNilUptoRow.holds Try.pinned (OpenSpec.upto commNilSpec)

/-- 'armadalaw02.CommParts', WHERE WHAT IT READS IS OF BULK AT MOST 1048576: true; the input reads as it did. -/
def commPartsUptoRow : OpenClaim := { program := "ytpkpfgpfkajkpaa", sum := "842da9be962041305f82252cfe231defe544facfc7ede0561eb6601356b850e8", func := "armada/armadalaw02.CommParts", spec := "commParts", unfollowed := true, recurses := true, plainKeys := false, apart := false, narrowed := true }
def CommPartsUptoSaid : Prop := commPartsUptoRow.holds Try.pinned (OpenSpec.upto commPartsSpec)

/-- 'armadalaw02.CommSets', WHERE WHAT IT READS IS OF BULK AT MOST 1048576: true; the input reads as it did. -/
def commSetsUptoRow : OpenClaim := { program := "ytpkpfgpfkajkpaa", sum := "842da9be962041305f82252cfe231defe544facfc7ede0561eb6601356b850e8", func := "armada/armadalaw02.CommSets", spec := "commSets", unfollowed := true, recurses := true, plainKeys := false, apart := false, narrowed := true }
def CommSetsUptoSaid : Prop := commSetsUptoRow.holds Try.pinned (OpenSpec.upto commSetsSpec)

/-- 'armadalaw02.CommGrids', WHERE WHAT IT READS IS OF BULK AT MOST 1048576: true; the input reads as it did. -/
def commGridsUptoRow : OpenClaim := { program := "ytpkpfgpfkajkpaa", sum := "842da9be962041305f82252cfe231defe544facfc7ede0561eb6601356b850e8", func := "armada/armadalaw02.CommGrids", spec := "commGrids", unfollowed := true, recurses := true, plainKeys := false, apart := false, narrowed := true }
def CommGridsUptoSaid : Prop := commGridsUptoRow.holds Try.pinned (OpenSpec.upto commGridsSpec)

end Rows
end Go.Proofs.Ytpkpfgpfkajkpaa
