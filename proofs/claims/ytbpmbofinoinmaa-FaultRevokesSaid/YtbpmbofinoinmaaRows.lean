/-
  No cell of these rows narrows 'for every input' (looked for: loops, veiled, ifaces, maps, wideKeys, modest, calm, conditions, laid).
  DERIVED. THE GIVEN ROWS OF THIS SEAT. 8 by the template 'for every input the law returns true; each argument reads behind the call as it read before'; 0 by the template 'total and deterministic' (their statements: YtbpmbofinoinmaaTotals.lean).
  GIVEN WITH THE SEED: the statements are not yours to turn. If you find one false, say at which input.
  Laid BY PROGRAM, IN A SANDBOX (cutbox-rows.mjs): the forced cells as the released guide's own fill.sh prints them over the translation 7704708c862fae23… (all of the seat's roots in one cut). By AI agents, Wed Nov 11 2026. No macro, syntax, notation, axiom, sorry.
-/
import Derived.Test.YtbpmbofinoinmaaChecked
import GoSem.Claim
import GoSem.ClaimJoined
import GoSem.ClaimMapViews
import Derived.JoinedTies
import Derived.KernelRfl
namespace Go.Proofs.Ytbpmbofinoinmaa
/- THE CELL 'sum', in the pinned program and in every row, IS THE sha256 OF THE DUMP (.gsa) THAT YtbpmbofinoinmaaProg.lean LOADS. Nothing in Lean hashes anything: it is a label: what it is worth is what the hold of that sum in a sandbox is worth. -/
noncomputable def Try.pinned : Pinned := { name := "ytbpmbofinoinmaa", sum := "7704708c862fae238f0bbee9b0801b645bf80d7722afa370c234e78e915d6f0c", checked := Try.checked }
namespace Rows
def none {H : Type} : Left H := { results := [], args := [] }

/-- 'armadalaw13.FaultChecks': WHATEVER THE INPUT: true; the input reads as it did. -/
def faultChecksSpec : ChangeSpec := { name := "faultChecks", fn := fun _ => fun
  | [d1, d2] => { results := [.lit (.bool true)], args := [d1, d2] }
  | _ => none }
def faultChecksRow : OpenClaim := { program := "ytbpmbofinoinmaa", sum := "7704708c862fae238f0bbee9b0801b645bf80d7722afa370c234e78e915d6f0c", func := "armada/armadalaw13.FaultChecks", spec := "faultChecks", unfollowed := true, recurses := true, apart := false }
def FaultChecksSaid : Prop := faultChecksRow.holds Try.pinned (OpenSpec.ofChange faultChecksSpec)

/-- ITS FALSE NEIGHBOUR: 'it returns false'. Refute it at one input. -/
def faultChecksWrong : ChangeSpec := { name := "faultChecks", fn := fun _ => fun
  | [d1, d2] => { results := [.lit (.bool false)], args := [d1, d2] }
  | _ => none }
def FaultChecksWrongFalsely : Prop := faultChecksRow.holds Try.pinned (OpenSpec.ofChange faultChecksWrong)

/-- 'armadalaw13.FaultAgreements': WHATEVER THE INPUT: true; the input reads as it did. -/
def faultAgreementsSpec : ChangeSpec := { name := "faultAgreements", fn := fun _ => fun
  | [d1, d2, d3] => { results := [.lit (.bool true)], args := [d1, d2, d3] }
  | _ => none }
def faultAgreementsRow : OpenClaim := { program := "ytbpmbofinoinmaa", sum := "7704708c862fae238f0bbee9b0801b645bf80d7722afa370c234e78e915d6f0c", func := "armada/armadalaw13.FaultAgreements", spec := "faultAgreements", unfollowed := true, recurses := true, apart := false }
def FaultAgreementsSaid : Prop := faultAgreementsRow.holds Try.pinned (OpenSpec.ofChange faultAgreementsSpec)

/-- ITS FALSE NEIGHBOUR: 'it returns false'. Refute it at one input. -/
def faultAgreementsWrong : ChangeSpec := { name := "faultAgreements", fn := fun _ => fun
  | [d1, d2, d3] => { results := [.lit (.bool false)], args := [d1, d2, d3] }
  | _ => none }
def FaultAgreementsWrongFalsely : Prop := faultAgreementsRow.holds Try.pinned (OpenSpec.ofChange faultAgreementsWrong)

/-- 'armadalaw13.FaultNews': WHATEVER THE INPUT: true; the input reads as it did. -/
def faultNewsSpec : ChangeSpec := { name := "faultNews", fn := fun _ => fun
  | [d1, d2, d3] => { results := [.lit (.bool true)], args := [d1, d2, d3] }
  | _ => none }
def faultNewsRow : OpenClaim := { program := "ytbpmbofinoinmaa", sum := "7704708c862fae238f0bbee9b0801b645bf80d7722afa370c234e78e915d6f0c", func := "armada/armadalaw13.FaultNews", spec := "faultNews", unfollowed := true, recurses := true, apart := false }
def FaultNewsSaid : Prop := faultNewsRow.holds Try.pinned (OpenSpec.ofChange faultNewsSpec)

/-- ITS FALSE NEIGHBOUR: 'it returns false'. Refute it at one input. -/
def faultNewsWrong : ChangeSpec := { name := "faultNews", fn := fun _ => fun
  | [d1, d2, d3] => { results := [.lit (.bool false)], args := [d1, d2, d3] }
  | _ => none }
def FaultNewsWrongFalsely : Prop := faultNewsRow.holds Try.pinned (OpenSpec.ofChange faultNewsWrong)

/-- 'armadalaw13.FaultAgree': WHATEVER THE INPUT: true; the input reads as it did. -/
def faultAgreeSpec : ChangeSpec := { name := "faultAgree", fn := fun _ => fun
  | [d1, d2, d3] => { results := [.lit (.bool true)], args := [d1, d2, d3] }
  | _ => none }
def faultAgreeRow : OpenClaim := { program := "ytbpmbofinoinmaa", sum := "7704708c862fae238f0bbee9b0801b645bf80d7722afa370c234e78e915d6f0c", func := "armada/armadalaw13.FaultAgree", spec := "faultAgree", unfollowed := true, recurses := true, apart := false }
def FaultAgreeSaid : Prop := faultAgreeRow.holds Try.pinned (OpenSpec.ofChange faultAgreeSpec)

/-- ITS FALSE NEIGHBOUR: 'it returns false'. Refute it at one input. -/
def faultAgreeWrong : ChangeSpec := { name := "faultAgree", fn := fun _ => fun
  | [d1, d2, d3] => { results := [.lit (.bool false)], args := [d1, d2, d3] }
  | _ => none }
def FaultAgreeWrongFalsely : Prop := faultAgreeRow.holds Try.pinned (OpenSpec.ofChange faultAgreeWrong)

/-- 'armadalaw13.FaultSpreads': WHATEVER THE INPUT: true; the input reads as it did. -/
def faultSpreadsSpec : ChangeSpec := { name := "faultSpreads", fn := fun _ => fun
  | [d1, d2, d3] => { results := [.lit (.bool true)], args := [d1, d2, d3] }
  | _ => none }
def faultSpreadsRow : OpenClaim := { program := "ytbpmbofinoinmaa", sum := "7704708c862fae238f0bbee9b0801b645bf80d7722afa370c234e78e915d6f0c", func := "armada/armadalaw13.FaultSpreads", spec := "faultSpreads", unfollowed := true, recurses := true, apart := false }
def FaultSpreadsSaid : Prop := faultSpreadsRow.holds Try.pinned (OpenSpec.ofChange faultSpreadsSpec)

/-- ITS FALSE NEIGHBOUR: 'it returns false'. Refute it at one input. -/
def faultSpreadsWrong : ChangeSpec := { name := "faultSpreads", fn := fun _ => fun
  | [d1, d2, d3] => { results := [.lit (.bool false)], args := [d1, d2, d3] }
  | _ => none }
def FaultSpreadsWrongFalsely : Prop := faultSpreadsRow.holds Try.pinned (OpenSpec.ofChange faultSpreadsWrong)

/-- 'armadalaw13.FaultShrinks': WHATEVER THE INPUT: true; the input reads as it did. -/
def faultShrinksSpec : ChangeSpec := { name := "faultShrinks", fn := fun _ => fun
  | [d1, d2, d3] => { results := [.lit (.bool true)], args := [d1, d2, d3] }
  | _ => none }
def faultShrinksRow : OpenClaim := { program := "ytbpmbofinoinmaa", sum := "7704708c862fae238f0bbee9b0801b645bf80d7722afa370c234e78e915d6f0c", func := "armada/armadalaw13.FaultShrinks", spec := "faultShrinks", unfollowed := true, recurses := true, apart := false }
def FaultShrinksSaid : Prop := faultShrinksRow.holds Try.pinned (OpenSpec.ofChange faultShrinksSpec)

/-- ITS FALSE NEIGHBOUR: 'it returns false'. Refute it at one input. -/
def faultShrinksWrong : ChangeSpec := { name := "faultShrinks", fn := fun _ => fun
  | [d1, d2, d3] => { results := [.lit (.bool false)], args := [d1, d2, d3] }
  | _ => none }
def FaultShrinksWrongFalsely : Prop := faultShrinksRow.holds Try.pinned (OpenSpec.ofChange faultShrinksWrong)

/-- 'armadalaw13.FaultRevokes': WHATEVER THE INPUT: true; the input reads as it did. -/
def faultRevokesSpec : ChangeSpec := { name := "faultRevokes", fn := fun _ => fun
  | [d1, d2, d3, d4, d5] => { results := [.lit (.bool true)], args := [d1, d2, d3, d4, d5] }
  | _ => none }
def faultRevokesRow : OpenClaim := { program := "ytbpmbofinoinmaa", sum := "7704708c862fae238f0bbee9b0801b645bf80d7722afa370c234e78e915d6f0c", func := "armada/armadalaw13.FaultRevokes", spec := "faultRevokes", unfollowed := true, recurses := true, apart := false }
def FaultRevokesSaid : Prop := faultRevokesRow.holds Try.pinned (OpenSpec.ofChange faultRevokesSpec)

/-- ITS FALSE NEIGHBOUR: 'it returns false'. Refute it at one input. -/
def faultRevokesWrong : ChangeSpec := { name := "faultRevokes", fn := fun _ => fun
  | [d1, d2, d3, d4, d5] => { results := [.lit (.bool false)], args := [d1, d2, d3, d4, d5] }
  | _ => none }
def FaultRevokesWrongFalsely : Prop := faultRevokesRow.holds Try.pinned (OpenSpec.ofChange faultRevokesWrong)

/-- 'armadalaw13.FaultKnown': WHATEVER THE INPUT: true; the input reads as it did. -/
def faultKnownSpec : ChangeSpec := { name := "faultKnown", fn := fun _ => fun
  | [] => { results := [.lit (.bool true)], args := [] }
  | _ => none }
def faultKnownRow : OpenClaim := { program := "ytbpmbofinoinmaa", sum := "7704708c862fae238f0bbee9b0801b645bf80d7722afa370c234e78e915d6f0c", func := "armada/armadalaw13.FaultKnown", spec := "faultKnown", unfollowed := true, recurses := true, apart := false }
def FaultKnownSaid : Prop := faultKnownRow.holds Try.pinned (OpenSpec.ofChange faultKnownSpec)

/-- ITS FALSE NEIGHBOUR: 'it returns false'. Refute it at one input. -/
def faultKnownWrong : ChangeSpec := { name := "faultKnown", fn := fun _ => fun
  | [] => { results := [.lit (.bool false)], args := [] }
  | _ => none }
def FaultKnownWrongFalsely : Prop := faultKnownRow.holds Try.pinned (OpenSpec.ofChange faultKnownWrong)

/- THE SECOND FORM. 'bulk': how many values and letters a reading holds, each counted each time it is reached (what is shared counts as often as it is met; a slice's spare places count too). A statement '..UptoSaid' is the law's where the arguments, and the package variables that the reading takes, are together of bulk at most 1048576: NARROWER than '..Said'. Prove '..Said' where nothing that the law and all that it calls make is longer than what came in: it says more and counts as full. Else prove '..UptoSaid'. A law counts once. -/
mutual
def uptoBulk {H : Type} : DataW H → Nat
  | .lit (.string bytes) => bytes.length + 1
  | .lit _ => 1
  | .nil => 1
  | .ptr d => uptoBulk d + 1
  | .slice elems spare => uptoBulkAll elems + uptoBulkAll spare + 1
  | .agg parts => uptoBulkAll parts + 1
  | .iface _ d => uptoBulk d + 1
  | .map entries => uptoBulkEntries entries + 1
  | .held _ => 1
def uptoBulkAll {H : Type} : List (DataW H) → Nat
  | [] => 0
  | d :: r => uptoBulk d + uptoBulkAll r
def uptoBulkEntries {H : Type} : List (Lit × DataW H) → Nat
  | [] => 0
  | x :: r => uptoBulkEntry x + uptoBulkEntries r
def uptoBulkEntry {H : Type} : Lit × DataW H → Nat
  | (.string bytes, d) => bytes.length + uptoBulk d + 1
  | (_, d) => uptoBulk d + 1
 end
def uptoSmall : (H : Type) → List (DataW H) → Bool := fun _ ds => decide (uptoBulkAll ds ≤ 1048576)
def OpenSpec.upto (s : _root_.Go.ChangeSpec) : _root_.Go.OpenSpec := { _root_.Go.OpenSpec.ofChange s with cond := some uptoSmall }

/-- 'armadalaw13.FaultChecks', WHERE WHAT IT READS IS OF BULK AT MOST 1048576: true; the input reads as it did. -/
def faultChecksUptoRow : OpenClaim := { program := "ytbpmbofinoinmaa", sum := "7704708c862fae238f0bbee9b0801b645bf80d7722afa370c234e78e915d6f0c", func := "armada/armadalaw13.FaultChecks", spec := "faultChecks", unfollowed := true, recurses := true, apart := false, narrowed := true }
def FaultChecksUptoSaid : Prop := faultChecksUptoRow.holds Try.pinned (OpenSpec.upto faultChecksSpec)

/-- 'armadalaw13.FaultAgreements', WHERE WHAT IT READS IS OF BULK AT MOST 1048576: true; the input reads as it did. -/
def faultAgreementsUptoRow : OpenClaim := { program := "ytbpmbofinoinmaa", sum := "7704708c862fae238f0bbee9b0801b645bf80d7722afa370c234e78e915d6f0c", func := "armada/armadalaw13.FaultAgreements", spec := "faultAgreements", unfollowed := true, recurses := true, apart := false, narrowed := true }
def FaultAgreementsUptoSaid : Prop := faultAgreementsUptoRow.holds Try.pinned (OpenSpec.upto faultAgreementsSpec)

/-- 'armadalaw13.FaultNews', WHERE WHAT IT READS IS OF BULK AT MOST 1048576: true; the input reads as it did. -/
def faultNewsUptoRow : OpenClaim := { program := "ytbpmbofinoinmaa", sum := "7704708c862fae238f0bbee9b0801b645bf80d7722afa370c234e78e915d6f0c", func := "armada/armadalaw13.FaultNews", spec := "faultNews", unfollowed := true, recurses := true, apart := false, narrowed := true }
def FaultNewsUptoSaid : Prop := faultNewsUptoRow.holds Try.pinned (OpenSpec.upto faultNewsSpec)

/-- 'armadalaw13.FaultAgree', WHERE WHAT IT READS IS OF BULK AT MOST 1048576: true; the input reads as it did. -/
def faultAgreeUptoRow : OpenClaim := { program := "ytbpmbofinoinmaa", sum := "7704708c862fae238f0bbee9b0801b645bf80d7722afa370c234e78e915d6f0c", func := "armada/armadalaw13.FaultAgree", spec := "faultAgree", unfollowed := true, recurses := true, apart := false, narrowed := true }
def FaultAgreeUptoSaid : Prop := faultAgreeUptoRow.holds Try.pinned (OpenSpec.upto faultAgreeSpec)

/-- 'armadalaw13.FaultSpreads', WHERE WHAT IT READS IS OF BULK AT MOST 1048576: true; the input reads as it did. -/
def faultSpreadsUptoRow : OpenClaim := { program := "ytbpmbofinoinmaa", sum := "7704708c862fae238f0bbee9b0801b645bf80d7722afa370c234e78e915d6f0c", func := "armada/armadalaw13.FaultSpreads", spec := "faultSpreads", unfollowed := true, recurses := true, apart := false, narrowed := true }
def FaultSpreadsUptoSaid : Prop := faultSpreadsUptoRow.holds Try.pinned (OpenSpec.upto faultSpreadsSpec)

/-- 'armadalaw13.FaultShrinks', WHERE WHAT IT READS IS OF BULK AT MOST 1048576: true; the input reads as it did. -/
def faultShrinksUptoRow : OpenClaim := { program := "ytbpmbofinoinmaa", sum := "7704708c862fae238f0bbee9b0801b645bf80d7722afa370c234e78e915d6f0c", func := "armada/armadalaw13.FaultShrinks", spec := "faultShrinks", unfollowed := true, recurses := true, apart := false, narrowed := true }
def FaultShrinksUptoSaid : Prop := faultShrinksUptoRow.holds Try.pinned (OpenSpec.upto faultShrinksSpec)

/-- 'armadalaw13.FaultRevokes', WHERE WHAT IT READS IS OF BULK AT MOST 1048576: true; the input reads as it did. -/
def faultRevokesUptoRow : OpenClaim := { program := "ytbpmbofinoinmaa", sum := "7704708c862fae238f0bbee9b0801b645bf80d7722afa370c234e78e915d6f0c", func := "armada/armadalaw13.FaultRevokes", spec := "faultRevokes", unfollowed := true, recurses := true, apart := false, narrowed := true }
def FaultRevokesUptoSaid : Prop := faultRevokesUptoRow.holds Try.pinned (OpenSpec.upto faultRevokesSpec)

/-- 'armadalaw13.FaultKnown', WHERE WHAT IT READS IS OF BULK AT MOST 1048576: true; the input reads as it did. -/
def faultKnownUptoRow : OpenClaim := { program := "ytbpmbofinoinmaa", sum := "7704708c862fae238f0bbee9b0801b645bf80d7722afa370c234e78e915d6f0c", func := "armada/armadalaw13.FaultKnown", spec := "faultKnown", unfollowed := true, recurses := true, apart := false, narrowed := true }
def FaultKnownUptoSaid : Prop := faultKnownUptoRow.holds Try.pinned (OpenSpec.upto faultKnownSpec)

end Rows
end Go.Proofs.Ytbpmbofinoinmaa
