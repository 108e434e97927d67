/-
  No cell of these rows narrows 'for every input' (looked for: loops, veiled, ifaces, maps, wideKeys, modest, calm, conditions, laid).
  DERIVED. THE GIVEN ROWS OF THIS SEAT. 10 by the template 'for every input the law returns true; each argument reads behind the call as it read before'; 0 by the template 'total and deterministic' (their statements: YtkjoolaahocgdaaGreatTotals.lean).
  GIVEN WITH THE SEED: the statements are not yours to turn. If you find one false, say at which input.
  Laid BY PROGRAM, IN A SANDBOX (cutbox-rows.mjs): the forced cells as the released guide's own fill.sh prints them over the translation 481095782b05c9e6… (all of the seat's roots in one cut). By AI agents, Wed Nov 11 2026. No macro, syntax, notation, axiom, sorry.
-/
import Derived.Test.YtkjoolaahocgdaaGreatChecked
import GoSem.Claim
import GoSem.ClaimJoined
import GoSem.ClaimMapViews
import Derived.JoinedTies
import Derived.KernelRfl
namespace Go.Proofs.YtkjoolaahocgdaaGreat
/- THE CELL 'sum', in the pinned program and in every row, IS THE sha256 OF THE DUMP (.gsa) THAT YtkjoolaahocgdaaGreatProg.lean LOADS. Nothing in Lean hashes anything: it is a label: what it is worth is what the hold of that sum in a sandbox is worth. -/
noncomputable def Tryz.pinned : Pinned := { name := "ytkjoolaahocgdaagreat", sum := "481095782b05c9e68b43de82747c3c485ca33cf586e325167cda51288b5e6e93", checked := Tryz.checked }
namespace Rows
def none {H : Type} : Left H := { results := [], args := [] }

/-- 'armadalaw11.WindowRaces': WHATEVER THE INPUT: true; the input reads as it did. -/
def windowRacesSpec : ChangeSpec := { name := "windowRaces", fn := fun _ => fun
  | [d] => { results := [.lit (.bool true)], args := [d] }
  | _ => none }
def windowRacesRow : OpenClaim := { program := "ytkjoolaahocgdaagreat", sum := "481095782b05c9e68b43de82747c3c485ca33cf586e325167cda51288b5e6e93", func := "armada/armadalaw11.WindowRaces", spec := "windowRaces", inPlace := ["math/bits.Add64"], unfollowed := true, recurses := true, plainKeys := false, apart := false }
def WindowRacesSaid : Prop := windowRacesRow.holds Tryz.pinned (OpenSpec.ofChange windowRacesSpec)

/-- ITS FALSE NEIGHBOUR: 'it returns false'. Refute it at one input. -/
def windowRacesWrong : ChangeSpec := { name := "windowRaces", fn := fun _ => fun
  | [d] => { results := [.lit (.bool false)], args := [d] }
  | _ => none }
def WindowRacesWrongFalsely : Prop := windowRacesRow.holds Tryz.pinned (OpenSpec.ofChange windowRacesWrong)

/-- 'armadalaw11.WindowRuns': WHATEVER THE INPUT: true; the input reads as it did. -/
def windowRunsSpec : ChangeSpec := { name := "windowRuns", fn := fun _ => fun
  | [d1, d2] => { results := [.lit (.bool true)], args := [d1, d2] }
  | _ => none }
def windowRunsRow : OpenClaim := { program := "ytkjoolaahocgdaagreat", sum := "481095782b05c9e68b43de82747c3c485ca33cf586e325167cda51288b5e6e93", func := "armada/armadalaw11.WindowRuns", spec := "windowRuns", inPlace := ["math/bits.Add64"], unfollowed := true, recurses := true, plainKeys := false, apart := false }
def WindowRunsSaid : Prop := windowRunsRow.holds Tryz.pinned (OpenSpec.ofChange windowRunsSpec)

/-- ITS FALSE NEIGHBOUR: 'it returns false'. Refute it at one input. -/
def windowRunsWrong : ChangeSpec := { name := "windowRuns", fn := fun _ => fun
  | [d1, d2] => { results := [.lit (.bool false)], args := [d1, d2] }
  | _ => none }
def WindowRunsWrongFalsely : Prop := windowRunsRow.holds Tryz.pinned (OpenSpec.ofChange windowRunsWrong)

/-- 'armadalaw11.WindowCounts': WHATEVER THE INPUT: true; the input reads as it did. -/
def windowCountsSpec : ChangeSpec := { name := "windowCounts", fn := fun _ => fun
  | [d1, d2, d3] => { results := [.lit (.bool true)], args := [d1, d2, d3] }
  | _ => none }
def windowCountsRow : OpenClaim := { program := "ytkjoolaahocgdaagreat", sum := "481095782b05c9e68b43de82747c3c485ca33cf586e325167cda51288b5e6e93", func := "armada/armadalaw11.WindowCounts", spec := "windowCounts", inPlace := ["math/bits.Add64"], unfollowed := true, recurses := true, plainKeys := false, apart := false }
def WindowCountsSaid : Prop := windowCountsRow.holds Tryz.pinned (OpenSpec.ofChange windowCountsSpec)

/-- ITS FALSE NEIGHBOUR: 'it returns false'. Refute it at one input. -/
def windowCountsWrong : ChangeSpec := { name := "windowCounts", fn := fun _ => fun
  | [d1, d2, d3] => { results := [.lit (.bool false)], args := [d1, d2, d3] }
  | _ => none }
def WindowCountsWrongFalsely : Prop := windowCountsRow.holds Tryz.pinned (OpenSpec.ofChange windowCountsWrong)

/-- 'armadalaw11.WindowExcludes': WHATEVER THE INPUT: true; the input reads as it did. -/
def windowExcludesSpec : ChangeSpec := { name := "windowExcludes", fn := fun _ => fun
  | [d1, d2] => { results := [.lit (.bool true)], args := [d1, d2] }
  | _ => none }
def windowExcludesRow : OpenClaim := { program := "ytkjoolaahocgdaagreat", sum := "481095782b05c9e68b43de82747c3c485ca33cf586e325167cda51288b5e6e93", func := "armada/armadalaw11.WindowExcludes", spec := "windowExcludes", inPlace := ["math/bits.Add64"], unfollowed := true, recurses := true, plainKeys := false, apart := false }
def WindowExcludesSaid : Prop := windowExcludesRow.holds Tryz.pinned (OpenSpec.ofChange windowExcludesSpec)

/-- ITS FALSE NEIGHBOUR: 'it returns false'. Refute it at one input. -/
def windowExcludesWrong : ChangeSpec := { name := "windowExcludes", fn := fun _ => fun
  | [d1, d2] => { results := [.lit (.bool false)], args := [d1, d2] }
  | _ => none }
def WindowExcludesWrongFalsely : Prop := windowExcludesRow.holds Tryz.pinned (OpenSpec.ofChange windowExcludesWrong)

/-- 'armadalaw11.WindowFences': WHATEVER THE INPUT: true; the input reads as it did. -/
def windowFencesSpec : ChangeSpec := { name := "windowFences", fn := fun _ => fun
  | [d1, d2, d3] => { results := [.lit (.bool true)], args := [d1, d2, d3] }
  | _ => none }
def windowFencesRow : OpenClaim := { program := "ytkjoolaahocgdaagreat", sum := "481095782b05c9e68b43de82747c3c485ca33cf586e325167cda51288b5e6e93", func := "armada/armadalaw11.WindowFences", spec := "windowFences", inPlace := ["math/bits.Add64"], unfollowed := true, recurses := true, plainKeys := false, apart := false }
def WindowFencesSaid : Prop := windowFencesRow.holds Tryz.pinned (OpenSpec.ofChange windowFencesSpec)

/-- ITS FALSE NEIGHBOUR: 'it returns false'. Refute it at one input. -/
def windowFencesWrong : ChangeSpec := { name := "windowFences", fn := fun _ => fun
  | [d1, d2, d3] => { results := [.lit (.bool false)], args := [d1, d2, d3] }
  | _ => none }
def WindowFencesWrongFalsely : Prop := windowFencesRow.holds Tryz.pinned (OpenSpec.ofChange windowFencesWrong)

/-- 'armadalaw11.WindowChecks': WHATEVER THE INPUT: true; the input reads as it did. -/
def windowChecksSpec : ChangeSpec := { name := "windowChecks", fn := fun _ => fun
  | [d] => { results := [.lit (.bool true)], args := [d] }
  | _ => none }
def windowChecksRow : OpenClaim := { program := "ytkjoolaahocgdaagreat", sum := "481095782b05c9e68b43de82747c3c485ca33cf586e325167cda51288b5e6e93", func := "armada/armadalaw11.WindowChecks", spec := "windowChecks", inPlace := ["math/bits.Add64"], unfollowed := true, recurses := true, plainKeys := false, apart := false }
def WindowChecksSaid : Prop := windowChecksRow.holds Tryz.pinned (OpenSpec.ofChange windowChecksSpec)

/-- ITS FALSE NEIGHBOUR: 'it returns false'. Refute it at one input. -/
def windowChecksWrong : ChangeSpec := { name := "windowChecks", fn := fun _ => fun
  | [d] => { results := [.lit (.bool false)], args := [d] }
  | _ => none }
def WindowChecksWrongFalsely : Prop := windowChecksRow.holds Tryz.pinned (OpenSpec.ofChange windowChecksWrong)

/-- 'armadalaw11.WindowOne': WHATEVER THE INPUT: true; the input reads as it did. -/
def windowOneSpec : ChangeSpec := { name := "windowOne", fn := fun _ => fun
  | [d1, d2, d3] => { results := [.lit (.bool true)], args := [d1, d2, d3] }
  | _ => none }
def windowOneRow : OpenClaim := { program := "ytkjoolaahocgdaagreat", sum := "481095782b05c9e68b43de82747c3c485ca33cf586e325167cda51288b5e6e93", func := "armada/armadalaw11.WindowOne", spec := "windowOne", inPlace := ["math/bits.Add64"], unfollowed := true, recurses := true, plainKeys := false, apart := false }
def WindowOneSaid : Prop := windowOneRow.holds Tryz.pinned (OpenSpec.ofChange windowOneSpec)

/-- ITS FALSE NEIGHBOUR: 'it returns false'. Refute it at one input. -/
def windowOneWrong : ChangeSpec := { name := "windowOne", fn := fun _ => fun
  | [d1, d2, d3] => { results := [.lit (.bool false)], args := [d1, d2, d3] }
  | _ => none }
def WindowOneWrongFalsely : Prop := windowOneRow.holds Tryz.pinned (OpenSpec.ofChange windowOneWrong)

/-- 'armadalaw11.WindowKnown': WHATEVER THE INPUT: true; the input reads as it did. -/
def windowKnownSpec : ChangeSpec := { name := "windowKnown", fn := fun _ => fun
  | [] => { results := [.lit (.bool true)], args := [] }
  | _ => none }
def windowKnownRow : OpenClaim := { program := "ytkjoolaahocgdaagreat", sum := "481095782b05c9e68b43de82747c3c485ca33cf586e325167cda51288b5e6e93", func := "armada/armadalaw11.WindowKnown", spec := "windowKnown", inPlace := ["math/bits.Add64"], unfollowed := true, recurses := true, plainKeys := false, apart := false }
def WindowKnownSaid : Prop := windowKnownRow.holds Tryz.pinned (OpenSpec.ofChange windowKnownSpec)

/-- ITS FALSE NEIGHBOUR: 'it returns false'. Refute it at one input. -/
def windowKnownWrong : ChangeSpec := { name := "windowKnown", fn := fun _ => fun
  | [] => { results := [.lit (.bool false)], args := [] }
  | _ => none }
def WindowKnownWrongFalsely : Prop := windowKnownRow.holds Tryz.pinned (OpenSpec.ofChange windowKnownWrong)

/-- 'armadalaw11.WindowBefores': WHATEVER THE INPUT: true; the input reads as it did. -/
def windowBeforesSpec : ChangeSpec := { name := "windowBefores", fn := fun _ => fun
  | [d1, d2, d3] => { results := [.lit (.bool true)], args := [d1, d2, d3] }
  | _ => none }
def windowBeforesRow : OpenClaim := { program := "ytkjoolaahocgdaagreat", sum := "481095782b05c9e68b43de82747c3c485ca33cf586e325167cda51288b5e6e93", func := "armada/armadalaw11.WindowBefores", spec := "windowBefores", inPlace := ["math/bits.Add64"], unfollowed := true, recurses := true, plainKeys := false, apart := false }
def WindowBeforesSaid : Prop := windowBeforesRow.holds Tryz.pinned (OpenSpec.ofChange windowBeforesSpec)

/-- ITS FALSE NEIGHBOUR: 'it returns false'. Refute it at one input. -/
def windowBeforesWrong : ChangeSpec := { name := "windowBefores", fn := fun _ => fun
  | [d1, d2, d3] => { results := [.lit (.bool false)], args := [d1, d2, d3] }
  | _ => none }
def WindowBeforesWrongFalsely : Prop := windowBeforesRow.holds Tryz.pinned (OpenSpec.ofChange windowBeforesWrong)

/-- 'armadalaw11.WindowStrict': WHATEVER THE INPUT: true; the input reads as it did. -/
def windowStrictSpec : ChangeSpec := { name := "windowStrict", fn := fun _ => fun
  | [d1, d2, d3, d4, d5] => { results := [.lit (.bool true)], args := [d1, d2, d3, d4, d5] }
  | _ => none }
def windowStrictRow : OpenClaim := { program := "ytkjoolaahocgdaagreat", sum := "481095782b05c9e68b43de82747c3c485ca33cf586e325167cda51288b5e6e93", func := "armada/armadalaw11.WindowStrict", spec := "windowStrict", inPlace := ["math/bits.Add64"], unfollowed := true, recurses := true, plainKeys := false, apart := false }
def WindowStrictSaid : Prop := windowStrictRow.holds Tryz.pinned (OpenSpec.ofChange windowStrictSpec)

/-- ITS FALSE NEIGHBOUR: 'it returns false'. Refute it at one input. -/
def windowStrictWrong : ChangeSpec := { name := "windowStrict", fn := fun _ => fun
  | [d1, d2, d3, d4, d5] => { results := [.lit (.bool false)], args := [d1, d2, d3, d4, d5] }
  | _ => none }
def WindowStrictWrongFalsely : Prop := windowStrictRow.holds Tryz.pinned (OpenSpec.ofChange windowStrictWrong)

/- THE SECOND FORM. 'bulk': how many values and letters a reading holds, each counted each time it is reached (what is shared counts as often as it is met; a slice's spare places count too). A statement '..UptoSaid' is the law's where the arguments, and the package variables that the reading takes, are together of bulk at most 1048576: NARROWER than '..Said'. Prove '..Said' where nothing that the law and all that it calls make is longer than what came in: it says more and counts as full. Else prove '..UptoSaid'. A law counts once. -/
mutual
def uptoBulk {H : Type} : DataW H → Nat
  | .lit (.string bytes) => bytes.length + 1
  | .lit _ => 1
  | .nil => 1
  | .ptr d => uptoBulk d + 1
  | .slice elems spare => uptoBulkAll elems + uptoBulkAll spare + 1
  | .agg parts => uptoBulkAll parts + 1
  | .iface _ d => uptoBulk d + 1
  | .map entries => uptoBulkEntries entries + 1
  | .held _ => 1
def uptoBulkAll {H : Type} : List (DataW H) → Nat
  | [] => 0
  | d :: r => uptoBulk d + uptoBulkAll r
def uptoBulkEntries {H : Type} : List (Lit × DataW H) → Nat
  | [] => 0
  | x :: r => uptoBulkEntry x + uptoBulkEntries r
def uptoBulkEntry {H : Type} : Lit × DataW H → Nat
  | (.string bytes, d) => bytes.length + uptoBulk d + 1
  | (_, d) => uptoBulk d + 1
 end
def uptoSmall : (H : Type) → List (DataW H) → Bool := fun _ ds => decide (uptoBulkAll ds ≤ 1048576)
def OpenSpec.upto (s : _root_.Go.ChangeSpec) : _root_.Go.OpenSpec := { _root_.Go.OpenSpec.ofChange s with cond := some uptoSmall }

/-- 'armadalaw11.WindowRaces', WHERE WHAT IT READS IS OF BULK AT MOST 1048576: true; the input reads as it did. -/
def windowRacesUptoRow : OpenClaim := { program := "ytkjoolaahocgdaagreat", sum := "481095782b05c9e68b43de82747c3c485ca33cf586e325167cda51288b5e6e93", func := "armada/armadalaw11.WindowRaces", spec := "windowRaces", inPlace := ["math/bits.Add64"], unfollowed := true, recurses := true, plainKeys := false, apart := false, narrowed := true }
def WindowRacesUptoSaid : Prop := windowRacesUptoRow.holds Tryz.pinned (OpenSpec.upto windowRacesSpec)

/-- 'armadalaw11.WindowRuns', WHERE WHAT IT READS IS OF BULK AT MOST 1048576: true; the input reads as it did. -/
def windowRunsUptoRow : OpenClaim := { program := "ytkjoolaahocgdaagreat", sum := "481095782b05c9e68b43de82747c3c485ca33cf586e325167cda51288b5e6e93", func := "armada/armadalaw11.WindowRuns", spec := "windowRuns", inPlace := ["math/bits.Add64"], unfollowed := true, recurses := true, plainKeys := false, apart := false, narrowed := true }
def WindowRunsUptoSaid : Prop := windowRunsUptoRow.holds Tryz.pinned (OpenSpec.upto windowRunsSpec)

/-- 'armadalaw11.WindowCounts', WHERE WHAT IT READS IS OF BULK AT MOST 1048576: true; the input reads as it did. -/
def windowCountsUptoRow : OpenClaim := { program := "ytkjoolaahocgdaagreat", sum := "481095782b05c9e68b43de82747c3c485ca33cf586e325167cda51288b5e6e93", func := "armada/armadalaw11.WindowCounts", spec := "windowCounts", inPlace := ["math/bits.Add64"], unfollowed := true, recurses := true, plainKeys := false, apart := false, narrowed := true }
def WindowCountsUptoSaid : Prop := windowCountsUptoRow.holds Tryz.pinned (OpenSpec.upto windowCountsSpec)

/-- 'armadalaw11.WindowExcludes', WHERE WHAT IT READS IS OF BULK AT MOST 1048576: true; the input reads as it did. -/
def windowExcludesUptoRow : OpenClaim := { program := "ytkjoolaahocgdaagreat", sum := "481095782b05c9e68b43de82747c3c485ca33cf586e325167cda51288b5e6e93", func := "armada/armadalaw11.WindowExcludes", spec := "windowExcludes", inPlace := ["math/bits.Add64"], unfollowed := true, recurses := true, plainKeys := false, apart := false, narrowed := true }
def WindowExcludesUptoSaid : Prop := windowExcludesUptoRow.holds Tryz.pinned (OpenSpec.upto windowExcludesSpec)

/-- 'armadalaw11.WindowFences', WHERE WHAT IT READS IS OF BULK AT MOST 1048576: true; the input reads as it did. -/
def windowFencesUptoRow : OpenClaim := { program := "ytkjoolaahocgdaagreat", sum := "481095782b05c9e68b43de82747c3c485ca33cf586e325167cda51288b5e6e93", func := "armada/armadalaw11.WindowFences", spec := "windowFences", inPlace := ["math/bits.Add64"], unfollowed := true, recurses := true, plainKeys := false, apart := false, narrowed := true }
def WindowFencesUptoSaid : Prop := windowFencesUptoRow.holds Tryz.pinned (OpenSpec.upto windowFencesSpec)

/-- 'armadalaw11.WindowChecks', WHERE WHAT IT READS IS OF BULK AT MOST 1048576: true; the input reads as it did. -/
def windowChecksUptoRow : OpenClaim := { program := "ytkjoolaahocgdaagreat", sum := "481095782b05c9e68b43de82747c3c485ca33cf586e325167cda51288b5e6e93", func := "armada/armadalaw11.WindowChecks", spec := "windowChecks", inPlace := ["math/bits.Add64"], unfollowed := true, recurses := true, plainKeys := false, apart := false, narrowed := true }
def WindowChecksUptoSaid : Prop := windowChecksUptoRow.holds Tryz.pinned (OpenSpec.upto windowChecksSpec)

/-- 'armadalaw11.WindowOne', WHERE WHAT IT READS IS OF BULK AT MOST 1048576: true; the input reads as it did. -/
def windowOneUptoRow : OpenClaim := { program := "ytkjoolaahocgdaagreat", sum := "481095782b05c9e68b43de82747c3c485ca33cf586e325167cda51288b5e6e93", func := "armada/armadalaw11.WindowOne", spec := "windowOne", inPlace := ["math/bits.Add64"], unfollowed := true, recurses := true, plainKeys := false, apart := false, narrowed := true }
def WindowOneUptoSaid : Prop := windowOneUptoRow.holds Tryz.pinned (OpenSpec.upto windowOneSpec)

/-- 'armadalaw11.WindowKnown', WHERE WHAT IT READS IS OF BULK AT MOST 1048576: true; the input reads as it did. -/
def windowKnownUptoRow : OpenClaim := { program := "ytkjoolaahocgdaagreat", sum := "481095782b05c9e68b43de82747c3c485ca33cf586e325167cda51288b5e6e93", func := "armada/armadalaw11.WindowKnown", spec := "windowKnown", inPlace := ["math/bits.Add64"], unfollowed := true, recurses := true, plainKeys := false, apart := false, narrowed := true }
def WindowKnownUptoSaid : Prop := windowKnownUptoRow.holds Tryz.pinned (OpenSpec.upto windowKnownSpec)

/-- 'armadalaw11.WindowBefores', WHERE WHAT IT READS IS OF BULK AT MOST 1048576: true; the input reads as it did. -/
def windowBeforesUptoRow : OpenClaim := { program := "ytkjoolaahocgdaagreat", sum := "481095782b05c9e68b43de82747c3c485ca33cf586e325167cda51288b5e6e93", func := "armada/armadalaw11.WindowBefores", spec := "windowBefores", inPlace := ["math/bits.Add64"], unfollowed := true, recurses := true, plainKeys := false, apart := false, narrowed := true }
def WindowBeforesUptoSaid : Prop := windowBeforesUptoRow.holds Tryz.pinned (OpenSpec.upto windowBeforesSpec)

/-- 'armadalaw11.WindowStrict', WHERE WHAT IT READS IS OF BULK AT MOST 1048576: true; the input reads as it did. -/
def windowStrictUptoRow : OpenClaim := { program := "ytkjoolaahocgdaagreat", sum := "481095782b05c9e68b43de82747c3c485ca33cf586e325167cda51288b5e6e93", func := "armada/armadalaw11.WindowStrict", spec := "windowStrict", inPlace := ["math/bits.Add64"], unfollowed := true, recurses := true, plainKeys := false, apart := false, narrowed := true }
def WindowStrictUptoSaid : Prop := windowStrictUptoRow.holds Tryz.pinned (OpenSpec.upto windowStrictSpec)

end Rows
end Go.Proofs.YtkjoolaahocgdaaGreat
