/-
  NARROWER THAN 'FOR EVERY INPUT', by the rows' own cells (each row's printed sentence says how): FileViews: loops · FileTiles: loops · FileCollects: loops · FileMerges: loops · FileAtomic: loops.
  DERIVED. THE GIVEN ROWS OF THIS SEAT. 9 by the template 'for every input the law returns true; each argument reads behind the call as it read before'; 0 by the template 'total and deterministic' (their statements: YtgdocflpobncmaaGreatTotals.lean).
  GIVEN WITH THE SEED: the statements are not yours to turn. If you find one false, say at which input.
  Laid BY PROGRAM, IN A SANDBOX (cutbox-rows.mjs): the forced cells as the released guide's own fill.sh prints them over the translation 1425f6b82c8205da… (all of the seat's roots in one cut). By AI agents, Wed Nov 11 2026. No macro, syntax, notation, axiom, sorry.
-/
import Derived.Test.YtgdocflpobncmaaGreatChecked
import GoSem.Claim
import GoSem.ClaimJoined
import GoSem.ClaimMapViews
import Derived.JoinedTies
import Derived.KernelRfl
namespace Go.Proofs.YtgdocflpobncmaaGreat
/- THE CELL 'sum', in the pinned program and in every row, IS THE sha256 OF THE DUMP (.gsa) THAT YtgdocflpobncmaaGreatProg.lean LOADS. Nothing in Lean hashes anything: it is a label: what it is worth is what the hold of that sum in a sandbox is worth. -/
noncomputable def Tryz.pinned : Pinned := { name := "ytgdocflpobncmaagreat", sum := "1425f6b82c8205da58c6ca222b6b37e798ce5d70cd43d57c88322a1ea82b3f8a", checked := Tryz.checked }
namespace Rows
def none {H : Type} : Left H := { results := [], args := [] }

/-- 'armadalaw12.FileViews': WHATEVER THE INPUT: true; the input reads as it did. -/
def fileViewsSpec : ChangeSpec := { name := "fileViews", fn := fun _ => fun
  | [d1, d2, d3] => { results := [.lit (.bool true)], args := [d1, d2, d3] }
  | _ => none }
def fileViewsRow : OpenClaim := { program := "ytgdocflpobncmaagreat", sum := "1425f6b82c8205da58c6ca222b6b37e798ce5d70cd43d57c88322a1ea82b3f8a", func := "armada/armadalaw12.FileViews", spec := "fileViews", unfollowed := true, recurses := true, loops := true, apart := false }
def FileViewsSaid : Prop := fileViewsRow.holds Tryz.pinned (OpenSpec.ofChange fileViewsSpec)

/-- ITS FALSE NEIGHBOUR: 'it returns false'. Refute it at one input. -/
def fileViewsWrong : ChangeSpec := { name := "fileViews", fn := fun _ => fun
  | [d1, d2, d3] => { results := [.lit (.bool false)], args := [d1, d2, d3] }
  | _ => none }
def FileViewsWrongFalsely : Prop := fileViewsRow.holds Tryz.pinned (OpenSpec.ofChange fileViewsWrong)

/-- 'armadalaw12.FileTiles': WHATEVER THE INPUT: true; the input reads as it did. -/
def fileTilesSpec : ChangeSpec := { name := "fileTiles", fn := fun _ => fun
  | [d1, d2, d3, d4] => { results := [.lit (.bool true)], args := [d1, d2, d3, d4] }
  | _ => none }
def fileTilesRow : OpenClaim := { program := "ytgdocflpobncmaagreat", sum := "1425f6b82c8205da58c6ca222b6b37e798ce5d70cd43d57c88322a1ea82b3f8a", func := "armada/armadalaw12.FileTiles", spec := "fileTiles", unfollowed := true, recurses := true, loops := true, apart := false }
def FileTilesSaid : Prop := fileTilesRow.holds Tryz.pinned (OpenSpec.ofChange fileTilesSpec)

/-- ITS FALSE NEIGHBOUR: 'it returns false'. Refute it at one input. -/
def fileTilesWrong : ChangeSpec := { name := "fileTiles", fn := fun _ => fun
  | [d1, d2, d3, d4] => { results := [.lit (.bool false)], args := [d1, d2, d3, d4] }
  | _ => none }
def FileTilesWrongFalsely : Prop := fileTilesRow.holds Tryz.pinned (OpenSpec.ofChange fileTilesWrong)

/-- 'armadalaw12.FileStripes': WHATEVER THE INPUT: true; the input reads as it did. -/
def fileStripesSpec : ChangeSpec := { name := "fileStripes", fn := fun _ => fun
  | [d1, d2, d3, d4] => { results := [.lit (.bool true)], args := [d1, d2, d3, d4] }
  | _ => none }
def fileStripesRow : OpenClaim := { program := "ytgdocflpobncmaagreat", sum := "1425f6b82c8205da58c6ca222b6b37e798ce5d70cd43d57c88322a1ea82b3f8a", func := "armada/armadalaw12.FileStripes", spec := "fileStripes", unfollowed := true, recurses := true, apart := false }
def FileStripesSaid : Prop := fileStripesRow.holds Tryz.pinned (OpenSpec.ofChange fileStripesSpec)

/-- ITS FALSE NEIGHBOUR: 'it returns false'. Refute it at one input. -/
def fileStripesWrong : ChangeSpec := { name := "fileStripes", fn := fun _ => fun
  | [d1, d2, d3, d4] => { results := [.lit (.bool false)], args := [d1, d2, d3, d4] }
  | _ => none }
def FileStripesWrongFalsely : Prop := fileStripesRow.holds Tryz.pinned (OpenSpec.ofChange fileStripesWrong)

/-- 'armadalaw12.FileCollects': WHATEVER THE INPUT: true; the input reads as it did. -/
def fileCollectsSpec : ChangeSpec := { name := "fileCollects", fn := fun _ => fun
  | [d1, d2] => { results := [.lit (.bool true)], args := [d1, d2] }
  | _ => none }
def fileCollectsRow : OpenClaim := { program := "ytgdocflpobncmaagreat", sum := "1425f6b82c8205da58c6ca222b6b37e798ce5d70cd43d57c88322a1ea82b3f8a", func := "armada/armadalaw12.FileCollects", spec := "fileCollects", unfollowed := true, recurses := true, loops := true, apart := false }
def FileCollectsSaid : Prop := fileCollectsRow.holds Tryz.pinned (OpenSpec.ofChange fileCollectsSpec)

/-- ITS FALSE NEIGHBOUR: 'it returns false'. Refute it at one input. -/
def fileCollectsWrong : ChangeSpec := { name := "fileCollects", fn := fun _ => fun
  | [d1, d2] => { results := [.lit (.bool false)], args := [d1, d2] }
  | _ => none }
def FileCollectsWrongFalsely : Prop := fileCollectsRow.holds Tryz.pinned (OpenSpec.ofChange fileCollectsWrong)

/-- 'armadalaw12.FileMerges': WHATEVER THE INPUT: true; the input reads as it did. -/
def fileMergesSpec : ChangeSpec := { name := "fileMerges", fn := fun _ => fun
  | [d1, d2, d3] => { results := [.lit (.bool true)], args := [d1, d2, d3] }
  | _ => none }
def fileMergesRow : OpenClaim := { program := "ytgdocflpobncmaagreat", sum := "1425f6b82c8205da58c6ca222b6b37e798ce5d70cd43d57c88322a1ea82b3f8a", func := "armada/armadalaw12.FileMerges", spec := "fileMerges", unfollowed := true, recurses := true, loops := true, apart := false }
def FileMergesSaid : Prop := fileMergesRow.holds Tryz.pinned (OpenSpec.ofChange fileMergesSpec)

/-- ITS FALSE NEIGHBOUR: 'it returns false'. Refute it at one input. -/
def fileMergesWrong : ChangeSpec := { name := "fileMerges", fn := fun _ => fun
  | [d1, d2, d3] => { results := [.lit (.bool false)], args := [d1, d2, d3] }
  | _ => none }
def FileMergesWrongFalsely : Prop := fileMergesRow.holds Tryz.pinned (OpenSpec.ofChange fileMergesWrong)

/-- 'armadalaw12.FileAtomic': WHATEVER THE INPUT: true; the input reads as it did. -/
def fileAtomicSpec : ChangeSpec := { name := "fileAtomic", fn := fun _ => fun
  | [d1, d2, d3, d4] => { results := [.lit (.bool true)], args := [d1, d2, d3, d4] }
  | _ => none }
def fileAtomicRow : OpenClaim := { program := "ytgdocflpobncmaagreat", sum := "1425f6b82c8205da58c6ca222b6b37e798ce5d70cd43d57c88322a1ea82b3f8a", func := "armada/armadalaw12.FileAtomic", spec := "fileAtomic", unfollowed := true, recurses := true, loops := true, apart := false }
def FileAtomicSaid : Prop := fileAtomicRow.holds Tryz.pinned (OpenSpec.ofChange fileAtomicSpec)

/-- ITS FALSE NEIGHBOUR: 'it returns false'. Refute it at one input. -/
def fileAtomicWrong : ChangeSpec := { name := "fileAtomic", fn := fun _ => fun
  | [d1, d2, d3, d4] => { results := [.lit (.bool false)], args := [d1, d2, d3, d4] }
  | _ => none }
def FileAtomicWrongFalsely : Prop := fileAtomicRow.holds Tryz.pinned (OpenSpec.ofChange fileAtomicWrong)

/-- 'armadalaw12.FilePlays': WHATEVER THE INPUT: true; the input reads as it did. -/
def filePlaysSpec : ChangeSpec := { name := "filePlays", fn := fun _ => fun
  | [d1, d2, d3] => { results := [.lit (.bool true)], args := [d1, d2, d3] }
  | _ => none }
def filePlaysRow : OpenClaim := { program := "ytgdocflpobncmaagreat", sum := "1425f6b82c8205da58c6ca222b6b37e798ce5d70cd43d57c88322a1ea82b3f8a", func := "armada/armadalaw12.FilePlays", spec := "filePlays", unfollowed := true, recurses := true, apart := false }
def FilePlaysSaid : Prop := filePlaysRow.holds Tryz.pinned (OpenSpec.ofChange filePlaysSpec)

/-- ITS FALSE NEIGHBOUR: 'it returns false'. Refute it at one input. -/
def filePlaysWrong : ChangeSpec := { name := "filePlays", fn := fun _ => fun
  | [d1, d2, d3] => { results := [.lit (.bool false)], args := [d1, d2, d3] }
  | _ => none }
def FilePlaysWrongFalsely : Prop := filePlaysRow.holds Tryz.pinned (OpenSpec.ofChange filePlaysWrong)

/-- 'armadalaw12.FileCrashes': WHATEVER THE INPUT: true; the input reads as it did. -/
def fileCrashesSpec : ChangeSpec := { name := "fileCrashes", fn := fun _ => fun
  | [d1, d2, d3] => { results := [.lit (.bool true)], args := [d1, d2, d3] }
  | _ => none }
def fileCrashesRow : OpenClaim := { program := "ytgdocflpobncmaagreat", sum := "1425f6b82c8205da58c6ca222b6b37e798ce5d70cd43d57c88322a1ea82b3f8a", func := "armada/armadalaw12.FileCrashes", spec := "fileCrashes", unfollowed := true, recurses := true, apart := false }
def FileCrashesSaid : Prop := fileCrashesRow.holds Tryz.pinned (OpenSpec.ofChange fileCrashesSpec)

/-- ITS FALSE NEIGHBOUR: 'it returns false'. Refute it at one input. -/
def fileCrashesWrong : ChangeSpec := { name := "fileCrashes", fn := fun _ => fun
  | [d1, d2, d3] => { results := [.lit (.bool false)], args := [d1, d2, d3] }
  | _ => none }
def FileCrashesWrongFalsely : Prop := fileCrashesRow.holds Tryz.pinned (OpenSpec.ofChange fileCrashesWrong)

/-- 'armadalaw12.FileKnown': WHATEVER THE INPUT: true; the input reads as it did. -/
def fileKnownSpec : ChangeSpec := { name := "fileKnown", fn := fun _ => fun
  | [] => { results := [.lit (.bool true)], args := [] }
  | _ => none }
def fileKnownRow : OpenClaim := { program := "ytgdocflpobncmaagreat", sum := "1425f6b82c8205da58c6ca222b6b37e798ce5d70cd43d57c88322a1ea82b3f8a", func := "armada/armadalaw12.FileKnown", spec := "fileKnown", unfollowed := true, recurses := true, apart := false }
def FileKnownSaid : Prop := fileKnownRow.holds Tryz.pinned (OpenSpec.ofChange fileKnownSpec)

/-- ITS FALSE NEIGHBOUR: 'it returns false'. Refute it at one input. -/
def fileKnownWrong : ChangeSpec := { name := "fileKnown", fn := fun _ => fun
  | [] => { results := [.lit (.bool false)], args := [] }
  | _ => none }
def FileKnownWrongFalsely : Prop := fileKnownRow.holds Tryz.pinned (OpenSpec.ofChange fileKnownWrong)

/- THE SECOND FORM. 'bulk': how many values and letters a reading holds, each counted each time it is reached (what is shared counts as often as it is met; a slice's spare places count too). A statement '..UptoSaid' is the law's where the arguments, and the package variables that the reading takes, are together of bulk at most 1048576: NARROWER than '..Said'. Prove '..Said' where nothing that the law and all that it calls make is longer than what came in: it says more and counts as full. Else prove '..UptoSaid'. A law counts once. -/
mutual
def uptoBulk {H : Type} : DataW H → Nat
  | .lit (.string bytes) => bytes.length + 1
  | .lit _ => 1
  | .nil => 1
  | .ptr d => uptoBulk d + 1
  | .slice elems spare => uptoBulkAll elems + uptoBulkAll spare + 1
  | .agg parts => uptoBulkAll parts + 1
  | .iface _ d => uptoBulk d + 1
  | .map entries => uptoBulkEntries entries + 1
  | .held _ => 1
def uptoBulkAll {H : Type} : List (DataW H) → Nat
  | [] => 0
  | d :: r => uptoBulk d + uptoBulkAll r
def uptoBulkEntries {H : Type} : List (Lit × DataW H) → Nat
  | [] => 0
  | x :: r => uptoBulkEntry x + uptoBulkEntries r
def uptoBulkEntry {H : Type} : Lit × DataW H → Nat
  | (.string bytes, d) => bytes.length + uptoBulk d + 1
  | (_, d) => uptoBulk d + 1
 end
def uptoSmall : (H : Type) → List (DataW H) → Bool := fun _ ds => decide (uptoBulkAll ds ≤ 1048576)
def OpenSpec.upto (s : _root_.Go.ChangeSpec) : _root_.Go.OpenSpec := { _root_.Go.OpenSpec.ofChange s with cond := some uptoSmall }

/-- 'armadalaw12.FileViews', WHERE WHAT IT READS IS OF BULK AT MOST 1048576: true; the input reads as it did. -/
def fileViewsUptoRow : OpenClaim := { program := "ytgdocflpobncmaagreat", sum := "1425f6b82c8205da58c6ca222b6b37e798ce5d70cd43d57c88322a1ea82b3f8a", func := "armada/armadalaw12.FileViews", spec := "fileViews", unfollowed := true, recurses := true, loops := true, apart := false, narrowed := true }
def FileViewsUptoSaid : Prop := fileViewsUptoRow.holds Tryz.pinned (OpenSpec.upto fileViewsSpec)

/-- 'armadalaw12.FileTiles', WHERE WHAT IT READS IS OF BULK AT MOST 1048576: true; the input reads as it did. -/
def fileTilesUptoRow : OpenClaim := { program := "ytgdocflpobncmaagreat", sum := "1425f6b82c8205da58c6ca222b6b37e798ce5d70cd43d57c88322a1ea82b3f8a", func := "armada/armadalaw12.FileTiles", spec := "fileTiles", unfollowed := true, recurses := true, loops := true, apart := false, narrowed := true }
def FileTilesUptoSaid : Prop := fileTilesUptoRow.holds Tryz.pinned (OpenSpec.upto fileTilesSpec)

/-- 'armadalaw12.FileStripes', WHERE WHAT IT READS IS OF BULK AT MOST 1048576: true; the input reads as it did. -/
def fileStripesUptoRow : OpenClaim := { program := "ytgdocflpobncmaagreat", sum := "1425f6b82c8205da58c6ca222b6b37e798ce5d70cd43d57c88322a1ea82b3f8a", func := "armada/armadalaw12.FileStripes", spec := "fileStripes", unfollowed := true, recurses := true, apart := false, narrowed := true }
def FileStripesUptoSaid : Prop := fileStripesUptoRow.holds Tryz.pinned (OpenSpec.upto fileStripesSpec)

/-- 'armadalaw12.FileCollects', WHERE WHAT IT READS IS OF BULK AT MOST 1048576: true; the input reads as it did. -/
def fileCollectsUptoRow : OpenClaim := { program := "ytgdocflpobncmaagreat", sum := "1425f6b82c8205da58c6ca222b6b37e798ce5d70cd43d57c88322a1ea82b3f8a", func := "armada/armadalaw12.FileCollects", spec := "fileCollects", unfollowed := true, recurses := true, loops := true, apart := false, narrowed := true }
def FileCollectsUptoSaid : Prop := fileCollectsUptoRow.holds Tryz.pinned (OpenSpec.upto fileCollectsSpec)

/-- 'armadalaw12.FileMerges', WHERE WHAT IT READS IS OF BULK AT MOST 1048576: true; the input reads as it did. -/
def fileMergesUptoRow : OpenClaim := { program := "ytgdocflpobncmaagreat", sum := "1425f6b82c8205da58c6ca222b6b37e798ce5d70cd43d57c88322a1ea82b3f8a", func := "armada/armadalaw12.FileMerges", spec := "fileMerges", unfollowed := true, recurses := true, loops := true, apart := false, narrowed := true }
def FileMergesUptoSaid : Prop := fileMergesUptoRow.holds Tryz.pinned (OpenSpec.upto fileMergesSpec)

/-- 'armadalaw12.FileAtomic', WHERE WHAT IT READS IS OF BULK AT MOST 1048576: true; the input reads as it did. -/
def fileAtomicUptoRow : OpenClaim := { program := "ytgdocflpobncmaagreat", sum := "1425f6b82c8205da58c6ca222b6b37e798ce5d70cd43d57c88322a1ea82b3f8a", func := "armada/armadalaw12.FileAtomic", spec := "fileAtomic", unfollowed := true, recurses := true, loops := true, apart := false, narrowed := true }
def FileAtomicUptoSaid : Prop := fileAtomicUptoRow.holds Tryz.pinned (OpenSpec.upto fileAtomicSpec)

/-- 'armadalaw12.FilePlays', WHERE WHAT IT READS IS OF BULK AT MOST 1048576: true; the input reads as it did. -/
def filePlaysUptoRow : OpenClaim := { program := "ytgdocflpobncmaagreat", sum := "1425f6b82c8205da58c6ca222b6b37e798ce5d70cd43d57c88322a1ea82b3f8a", func := "armada/armadalaw12.FilePlays", spec := "filePlays", unfollowed := true, recurses := true, apart := false, narrowed := true }
def FilePlaysUptoSaid : Prop := filePlaysUptoRow.holds Tryz.pinned (OpenSpec.upto filePlaysSpec)

/-- 'armadalaw12.FileCrashes', WHERE WHAT IT READS IS OF BULK AT MOST 1048576: true; the input reads as it did. -/
def fileCrashesUptoRow : OpenClaim := { program := "ytgdocflpobncmaagreat", sum := "1425f6b82c8205da58c6ca222b6b37e798ce5d70cd43d57c88322a1ea82b3f8a", func := "armada/armadalaw12.FileCrashes", spec := "fileCrashes", unfollowed := true, recurses := true, apart := false, narrowed := true }
def FileCrashesUptoSaid : Prop := fileCrashesUptoRow.holds Tryz.pinned (OpenSpec.upto fileCrashesSpec)

/-- 'armadalaw12.FileKnown', WHERE WHAT IT READS IS OF BULK AT MOST 1048576: true; the input reads as it did. -/
def fileKnownUptoRow : OpenClaim := { program := "ytgdocflpobncmaagreat", sum := "1425f6b82c8205da58c6ca222b6b37e798ce5d70cd43d57c88322a1ea82b3f8a", func := "armada/armadalaw12.FileKnown", spec := "fileKnown", unfollowed := true, recurses := true, apart := false, narrowed := true }
def FileKnownUptoSaid : Prop := fileKnownUptoRow.holds Tryz.pinned (OpenSpec.upto fileKnownSpec)

end Rows
end Go.Proofs.YtgdocflpobncmaaGreat
