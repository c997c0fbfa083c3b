/-
  No cell of these rows narrows 'for every input' (looked for: loops, veiled, ifaces, maps, wideKeys, modest, calm, conditions, laid).
  DERIVED. THE GIVEN ROWS OF THIS SEAT. 12 by the template 'for every input the law returns true; each argument reads behind the call as it read before'; 0 by the template 'total and deterministic' (their statements: YtfhpgfbakimmhaaTotals.lean).
  GIVEN WITH THE SEED: the statements are not yours to turn. If you find one false, say at which input.
  Laid BY PROGRAM, IN A SANDBOX (cutbox-rows.mjs): the forced cells as the released guide's own fill.sh prints them over the translation c3ea350e200b3ede… (all of the seat's roots in one cut). By AI agents, Wed Nov 11 2026. No macro, syntax, notation, axiom, sorry.
-/
import Derived.Test.YtfhpgfbakimmhaaChecked
import GoSem.Claim
import GoSem.ClaimJoined
import GoSem.ClaimMapViews
import Derived.JoinedTies
import Derived.KernelRfl
namespace Go.Proofs.Ytfhpgfbakimmhaa
/- THE CELL 'sum', in the pinned program and in every row, IS THE sha256 OF THE DUMP (.gsa) THAT YtfhpgfbakimmhaaProg.lean LOADS. Nothing in Lean hashes anything: it is a label: what it is worth is what the hold of that sum in a sandbox is worth. -/
noncomputable def Try.pinned : Pinned := { name := "ytfhpgfbakimmhaa", sum := "c3ea350e200b3ede54ad0cdec9defb41dabe75de743cb6d06159ac129351c28a", checked := Try.checked }
namespace Rows
def none {H : Type} : Left H := { results := [], args := [] }

/-- 'laws.FnExactValidFs': WHATEVER THE INPUT: true; the input reads as it did. -/
def fnExactValidFsSpec : ChangeSpec := { name := "fnExactValidFs", fn := fun _ => fun
  | [d] => { results := [.lit (.bool true)], args := [d] }
  | _ => none }
def fnExactValidFsRow : OpenClaim := { program := "ytfhpgfbakimmhaa", sum := "c3ea350e200b3ede54ad0cdec9defb41dabe75de743cb6d06159ac129351c28a", func := "loop.example/s02863/laws.FnExactValidFs", spec := "fnExactValidFs", inPlace := ["internal/bytealg.Compare"], apart := false }
def FnExactValidFsSaid : Prop := fnExactValidFsRow.holds Try.pinned (OpenSpec.ofChange fnExactValidFsSpec)

/-- ITS FALSE NEIGHBOUR: 'it returns false'. Refute it at one input. -/
def fnExactValidFsWrong : ChangeSpec := { name := "fnExactValidFs", fn := fun _ => fun
  | [d] => { results := [.lit (.bool false)], args := [d] }
  | _ => none }
def FnExactValidFsWrongFalsely : Prop := fnExactValidFsRow.holds Try.pinned (OpenSpec.ofChange fnExactValidFsWrong)

/-- 'laws.FnExactFsRead': WHATEVER THE INPUT: true; the input reads as it did. -/
def fnExactFsReadSpec : ChangeSpec := { name := "fnExactFsRead", fn := fun _ => fun
  | [d1, d2] => { results := [.lit (.bool true)], args := [d1, d2] }
  | _ => none }
def fnExactFsReadRow : OpenClaim := { program := "ytfhpgfbakimmhaa", sum := "c3ea350e200b3ede54ad0cdec9defb41dabe75de743cb6d06159ac129351c28a", func := "loop.example/s02863/laws.FnExactFsRead", spec := "fnExactFsRead", inPlace := ["internal/bytealg.Compare", "internal/reflectlite.TypeOf"], unfollowed := true, recurses := true, apart := false }
def FnExactFsReadSaid : Prop := fnExactFsReadRow.holds Try.pinned (OpenSpec.ofChange fnExactFsReadSpec)

/-- ITS FALSE NEIGHBOUR: 'it returns false'. Refute it at one input. -/
def fnExactFsReadWrong : ChangeSpec := { name := "fnExactFsRead", fn := fun _ => fun
  | [d1, d2] => { results := [.lit (.bool false)], args := [d1, d2] }
  | _ => none }
def FnExactFsReadWrongFalsely : Prop := fnExactFsReadRow.holds Try.pinned (OpenSpec.ofChange fnExactFsReadWrong)

/-- 'laws.FnExactFsCrash': WHATEVER THE INPUT: true; the input reads as it did. -/
def fnExactFsCrashSpec : ChangeSpec := { name := "fnExactFsCrash", fn := fun _ => fun
  | [d1, d2] => { results := [.lit (.bool true)], args := [d1, d2] }
  | _ => none }
def fnExactFsCrashRow : OpenClaim := { program := "ytfhpgfbakimmhaa", sum := "c3ea350e200b3ede54ad0cdec9defb41dabe75de743cb6d06159ac129351c28a", func := "loop.example/s02863/laws.FnExactFsCrash", spec := "fnExactFsCrash", inPlace := ["internal/bytealg.Compare", "internal/reflectlite.TypeOf"], unfollowed := true, recurses := true, apart := false }
def FnExactFsCrashSaid : Prop := fnExactFsCrashRow.holds Try.pinned (OpenSpec.ofChange fnExactFsCrashSpec)

/-- ITS FALSE NEIGHBOUR: 'it returns false'. Refute it at one input. -/
def fnExactFsCrashWrong : ChangeSpec := { name := "fnExactFsCrash", fn := fun _ => fun
  | [d1, d2] => { results := [.lit (.bool false)], args := [d1, d2] }
  | _ => none }
def FnExactFsCrashWrongFalsely : Prop := fnExactFsCrashRow.holds Try.pinned (OpenSpec.ofChange fnExactFsCrashWrong)

/-- 'laws.FnExactFsRemove': WHATEVER THE INPUT: true; the input reads as it did. -/
def fnExactFsRemoveSpec : ChangeSpec := { name := "fnExactFsRemove", fn := fun _ => fun
  | [d1, d2] => { results := [.lit (.bool true)], args := [d1, d2] }
  | _ => none }
def fnExactFsRemoveRow : OpenClaim := { program := "ytfhpgfbakimmhaa", sum := "c3ea350e200b3ede54ad0cdec9defb41dabe75de743cb6d06159ac129351c28a", func := "loop.example/s02863/laws.FnExactFsRemove", spec := "fnExactFsRemove", inPlace := ["internal/bytealg.Compare", "internal/reflectlite.TypeOf"], unfollowed := true, recurses := true, apart := false }
def FnExactFsRemoveSaid : Prop := fnExactFsRemoveRow.holds Try.pinned (OpenSpec.ofChange fnExactFsRemoveSpec)

/-- ITS FALSE NEIGHBOUR: 'it returns false'. Refute it at one input. -/
def fnExactFsRemoveWrong : ChangeSpec := { name := "fnExactFsRemove", fn := fun _ => fun
  | [d1, d2] => { results := [.lit (.bool false)], args := [d1, d2] }
  | _ => none }
def FnExactFsRemoveWrongFalsely : Prop := fnExactFsRemoveRow.holds Try.pinned (OpenSpec.ofChange fnExactFsRemoveWrong)

/-- 'laws.FnExactFsSync': WHATEVER THE INPUT: true; the input reads as it did. -/
def fnExactFsSyncSpec : ChangeSpec := { name := "fnExactFsSync", fn := fun _ => fun
  | [d1, d2] => { results := [.lit (.bool true)], args := [d1, d2] }
  | _ => none }
def fnExactFsSyncRow : OpenClaim := { program := "ytfhpgfbakimmhaa", sum := "c3ea350e200b3ede54ad0cdec9defb41dabe75de743cb6d06159ac129351c28a", func := "loop.example/s02863/laws.FnExactFsSync", spec := "fnExactFsSync", inPlace := ["internal/bytealg.Compare", "internal/reflectlite.TypeOf"], unfollowed := true, recurses := true, apart := false }
def FnExactFsSyncSaid : Prop := fnExactFsSyncRow.holds Try.pinned (OpenSpec.ofChange fnExactFsSyncSpec)

/-- ITS FALSE NEIGHBOUR: 'it returns false'. Refute it at one input. -/
def fnExactFsSyncWrong : ChangeSpec := { name := "fnExactFsSync", fn := fun _ => fun
  | [d1, d2] => { results := [.lit (.bool false)], args := [d1, d2] }
  | _ => none }
def FnExactFsSyncWrongFalsely : Prop := fnExactFsSyncRow.holds Try.pinned (OpenSpec.ofChange fnExactFsSyncWrong)

/-- 'laws.FnExactFsWrite': WHATEVER THE INPUT: true; the input reads as it did. -/
def fnExactFsWriteSpec : ChangeSpec := { name := "fnExactFsWrite", fn := fun _ => fun
  | [d1, d2, d3] => { results := [.lit (.bool true)], args := [d1, d2, d3] }
  | _ => none }
def fnExactFsWriteRow : OpenClaim := { program := "ytfhpgfbakimmhaa", sum := "c3ea350e200b3ede54ad0cdec9defb41dabe75de743cb6d06159ac129351c28a", func := "loop.example/s02863/laws.FnExactFsWrite", spec := "fnExactFsWrite", inPlace := ["internal/bytealg.Compare", "slices.overlaps[loop.example/s02863/impl.FsFile]", "internal/reflectlite.TypeOf"], unfollowed := true, recurses := true, apart := false }
def FnExactFsWriteSaid : Prop := fnExactFsWriteRow.holds Try.pinned (OpenSpec.ofChange fnExactFsWriteSpec)

/-- ITS FALSE NEIGHBOUR: 'it returns false'. Refute it at one input. -/
def fnExactFsWriteWrong : ChangeSpec := { name := "fnExactFsWrite", fn := fun _ => fun
  | [d1, d2, d3] => { results := [.lit (.bool false)], args := [d1, d2, d3] }
  | _ => none }
def FnExactFsWriteWrongFalsely : Prop := fnExactFsWriteRow.holds Try.pinned (OpenSpec.ofChange fnExactFsWriteWrong)

/-- 'laws.FnExactFsRename': WHATEVER THE INPUT: true; the input reads as it did. -/
def fnExactFsRenameSpec : ChangeSpec := { name := "fnExactFsRename", fn := fun _ => fun
  | [d1, d2, d3] => { results := [.lit (.bool true)], args := [d1, d2, d3] }
  | _ => none }
def fnExactFsRenameRow : OpenClaim := { program := "ytfhpgfbakimmhaa", sum := "c3ea350e200b3ede54ad0cdec9defb41dabe75de743cb6d06159ac129351c28a", func := "loop.example/s02863/laws.FnExactFsRename", spec := "fnExactFsRename", inPlace := ["internal/bytealg.Compare", "slices.overlaps[loop.example/s02863/impl.FsFile]", "internal/reflectlite.TypeOf"], unfollowed := true, recurses := true, apart := false }
def FnExactFsRenameSaid : Prop := fnExactFsRenameRow.holds Try.pinned (OpenSpec.ofChange fnExactFsRenameSpec)

/-- ITS FALSE NEIGHBOUR: 'it returns false'. Refute it at one input. -/
def fnExactFsRenameWrong : ChangeSpec := { name := "fnExactFsRename", fn := fun _ => fun
  | [d1, d2, d3] => { results := [.lit (.bool false)], args := [d1, d2, d3] }
  | _ => none }
def FnExactFsRenameWrongFalsely : Prop := fnExactFsRenameRow.holds Try.pinned (OpenSpec.ofChange fnExactFsRenameWrong)

/-- 'laws.FnExactValidDoc': WHATEVER THE INPUT: true; the input reads as it did. -/
def fnExactValidDocSpec : ChangeSpec := { name := "fnExactValidDoc", fn := fun _ => fun
  | [d] => { results := [.lit (.bool true)], args := [d] }
  | _ => none }
def fnExactValidDocRow : OpenClaim := { program := "ytfhpgfbakimmhaa", sum := "c3ea350e200b3ede54ad0cdec9defb41dabe75de743cb6d06159ac129351c28a", func := "loop.example/s02863/laws.FnExactValidDoc", spec := "fnExactValidDoc", inPlace := ["internal/bytealg.IndexByte"], unfollowed := true, recurses := true, apart := false }
def FnExactValidDocSaid : Prop := fnExactValidDocRow.holds Try.pinned (OpenSpec.ofChange fnExactValidDocSpec)

/-- ITS FALSE NEIGHBOUR: 'it returns false'. Refute it at one input. -/
def fnExactValidDocWrong : ChangeSpec := { name := "fnExactValidDoc", fn := fun _ => fun
  | [d] => { results := [.lit (.bool false)], args := [d] }
  | _ => none }
def FnExactValidDocWrongFalsely : Prop := fnExactValidDocRow.holds Try.pinned (OpenSpec.ofChange fnExactValidDocWrong)

/-- 'laws.FnExactFlatText': WHATEVER THE INPUT: true; the input reads as it did. -/
def fnExactFlatTextSpec : ChangeSpec := { name := "fnExactFlatText", fn := fun _ => fun
  | [d] => { results := [.lit (.bool true)], args := [d] }
  | _ => none }
def fnExactFlatTextRow : OpenClaim := { program := "ytfhpgfbakimmhaa", sum := "c3ea350e200b3ede54ad0cdec9defb41dabe75de743cb6d06159ac129351c28a", func := "loop.example/s02863/laws.FnExactFlatText", spec := "fnExactFlatText", inPlace := ["internal/bytealg.IndexByte"], unfollowed := true, recurses := true, apart := false }
def FnExactFlatTextSaid : Prop := fnExactFlatTextRow.holds Try.pinned (OpenSpec.ofChange fnExactFlatTextSpec)

/-- ITS FALSE NEIGHBOUR: 'it returns false'. Refute it at one input. -/
def fnExactFlatTextWrong : ChangeSpec := { name := "fnExactFlatText", fn := fun _ => fun
  | [d] => { results := [.lit (.bool false)], args := [d] }
  | _ => none }
def FnExactFlatTextWrongFalsely : Prop := fnExactFlatTextRow.holds Try.pinned (OpenSpec.ofChange fnExactFlatTextWrong)

/-- 'laws.FnExactLeadWidth': WHATEVER THE INPUT: true; the input reads as it did. -/
def fnExactLeadWidthSpec : ChangeSpec := { name := "fnExactLeadWidth", fn := fun _ => fun
  | [d] => { results := [.lit (.bool true)], args := [d] }
  | _ => none }
def fnExactLeadWidthRow : OpenClaim := { program := "ytfhpgfbakimmhaa", sum := "c3ea350e200b3ede54ad0cdec9defb41dabe75de743cb6d06159ac129351c28a", func := "loop.example/s02863/laws.FnExactLeadWidth", spec := "fnExactLeadWidth", inPlace := ["internal/bytealg.IndexByte"], unfollowed := true, recurses := true, apart := false }
def FnExactLeadWidthSaid : Prop := fnExactLeadWidthRow.holds Try.pinned (OpenSpec.ofChange fnExactLeadWidthSpec)

/-- ITS FALSE NEIGHBOUR: 'it returns false'. Refute it at one input. -/
def fnExactLeadWidthWrong : ChangeSpec := { name := "fnExactLeadWidth", fn := fun _ => fun
  | [d] => { results := [.lit (.bool false)], args := [d] }
  | _ => none }
def FnExactLeadWidthWrongFalsely : Prop := fnExactLeadWidthRow.holds Try.pinned (OpenSpec.ofChange fnExactLeadWidthWrong)

/-- 'laws.FnExactRender': WHATEVER THE INPUT: true; the input reads as it did. -/
def fnExactRenderSpec : ChangeSpec := { name := "fnExactRender", fn := fun _ => fun
  | [d1, d2] => { results := [.lit (.bool true)], args := [d1, d2] }
  | _ => none }
def fnExactRenderRow : OpenClaim := { program := "ytfhpgfbakimmhaa", sum := "c3ea350e200b3ede54ad0cdec9defb41dabe75de743cb6d06159ac129351c28a", func := "loop.example/s02863/laws.FnExactRender", spec := "fnExactRender", inPlace := ["internal/bytealg.IndexByte"], unfollowed := true, recurses := true, apart := false }
def FnExactRenderSaid : Prop := fnExactRenderRow.holds Try.pinned (OpenSpec.ofChange fnExactRenderSpec)

/-- ITS FALSE NEIGHBOUR: 'it returns false'. Refute it at one input. -/
def fnExactRenderWrong : ChangeSpec := { name := "fnExactRender", fn := fun _ => fun
  | [d1, d2] => { results := [.lit (.bool false)], args := [d1, d2] }
  | _ => none }
def FnExactRenderWrongFalsely : Prop := fnExactRenderRow.holds Try.pinned (OpenSpec.ofChange fnExactRenderWrong)

/-- 'laws.FnExactLayout': WHATEVER THE INPUT: true; the input reads as it did. -/
def fnExactLayoutSpec : ChangeSpec := { name := "fnExactLayout", fn := fun _ => fun
  | [d1, d2] => { results := [.lit (.bool true)], args := [d1, d2] }
  | _ => none }
def fnExactLayoutRow : OpenClaim := { program := "ytfhpgfbakimmhaa", sum := "c3ea350e200b3ede54ad0cdec9defb41dabe75de743cb6d06159ac129351c28a", func := "loop.example/s02863/laws.FnExactLayout", spec := "fnExactLayout", inPlace := ["internal/bytealg.IndexByte"], unfollowed := true, recurses := true, apart := false }
def FnExactLayoutSaid : Prop := fnExactLayoutRow.holds Try.pinned (OpenSpec.ofChange fnExactLayoutSpec)

/-- ITS FALSE NEIGHBOUR: 'it returns false'. Refute it at one input. -/
def fnExactLayoutWrong : ChangeSpec := { name := "fnExactLayout", fn := fun _ => fun
  | [d1, d2] => { results := [.lit (.bool false)], args := [d1, d2] }
  | _ => none }
def FnExactLayoutWrongFalsely : Prop := fnExactLayoutRow.holds Try.pinned (OpenSpec.ofChange fnExactLayoutWrong)

/- THE SECOND FORM. 'bulk': how many values and letters a reading holds, each counted each time it is reached (what is shared counts as often as it is met; a slice's spare places count too). A statement '..UptoSaid' is the law's where the arguments, and the package variables that the reading takes, are together of bulk at most 1048576: NARROWER than '..Said'. Prove '..Said' where nothing that the law and all that it calls make is longer than what came in: it says more and counts as full. Else prove '..UptoSaid'. A law counts once. -/
mutual
def uptoBulk {H : Type} : DataW H → Nat
  | .lit (.string bytes) => bytes.length + 1
  | .lit _ => 1
  | .nil => 1
  | .ptr d => uptoBulk d + 1
  | .slice elems spare => uptoBulkAll elems + uptoBulkAll spare + 1
  | .agg parts => uptoBulkAll parts + 1
  | .iface _ d => uptoBulk d + 1
  | .map entries => uptoBulkEntries entries + 1
  | .held _ => 1
def uptoBulkAll {H : Type} : List (DataW H) → Nat
  | [] => 0
  | d :: r => uptoBulk d + uptoBulkAll r
def uptoBulkEntries {H : Type} : List (Lit × DataW H) → Nat
  | [] => 0
  | x :: r => uptoBulkEntry x + uptoBulkEntries r
def uptoBulkEntry {H : Type} : Lit × DataW H → Nat
  | (.string bytes, d) => bytes.length + uptoBulk d + 1
  | (_, d) => uptoBulk d + 1
 end
def uptoSmall : (H : Type) → List (DataW H) → Bool := fun _ ds => decide (uptoBulkAll ds ≤ 1048576)
def OpenSpec.upto (s : _root_.Go.ChangeSpec) : _root_.Go.OpenSpec := { _root_.Go.OpenSpec.ofChange s with cond := some uptoSmall }

/-- 'laws.FnExactValidFs', WHERE WHAT IT READS IS OF BULK AT MOST 1048576: true; the input reads as it did. -/
def fnExactValidFsUptoRow : OpenClaim := { program := "ytfhpgfbakimmhaa", sum := "c3ea350e200b3ede54ad0cdec9defb41dabe75de743cb6d06159ac129351c28a", func := "loop.example/s02863/laws.FnExactValidFs", spec := "fnExactValidFs", inPlace := ["internal/bytealg.Compare"], apart := false, narrowed := true }
def FnExactValidFsUptoSaid : Prop := fnExactValidFsUptoRow.holds Try.pinned (OpenSpec.upto fnExactValidFsSpec)

/-- 'laws.FnExactFsRead', WHERE WHAT IT READS IS OF BULK AT MOST 1048576: true; the input reads as it did. -/
def fnExactFsReadUptoRow : OpenClaim := { program := "ytfhpgfbakimmhaa", sum := "c3ea350e200b3ede54ad0cdec9defb41dabe75de743cb6d06159ac129351c28a", func := "loop.example/s02863/laws.FnExactFsRead", spec := "fnExactFsRead", inPlace := ["internal/bytealg.Compare", "internal/reflectlite.TypeOf"], unfollowed := true, recurses := true, apart := false, narrowed := true }
def FnExactFsReadUptoSaid : Prop := fnExactFsReadUptoRow.holds Try.pinned (OpenSpec.upto fnExactFsReadSpec)

/-- 'laws.FnExactFsCrash', WHERE WHAT IT READS IS OF BULK AT MOST 1048576: true; the input reads as it did. -/
def fnExactFsCrashUptoRow : OpenClaim := { program := "ytfhpgfbakimmhaa", sum := "c3ea350e200b3ede54ad0cdec9defb41dabe75de743cb6d06159ac129351c28a", func := "loop.example/s02863/laws.FnExactFsCrash", spec := "fnExactFsCrash", inPlace := ["internal/bytealg.Compare", "internal/reflectlite.TypeOf"], unfollowed := true, recurses := true, apart := false, narrowed := true }
def FnExactFsCrashUptoSaid : Prop := fnExactFsCrashUptoRow.holds Try.pinned (OpenSpec.upto fnExactFsCrashSpec)

/-- 'laws.FnExactFsRemove', WHERE WHAT IT READS IS OF BULK AT MOST 1048576: true; the input reads as it did. -/
def fnExactFsRemoveUptoRow : OpenClaim := { program := "ytfhpgfbakimmhaa", sum := "c3ea350e200b3ede54ad0cdec9defb41dabe75de743cb6d06159ac129351c28a", func := "loop.example/s02863/laws.FnExactFsRemove", spec := "fnExactFsRemove", inPlace := ["internal/bytealg.Compare", "internal/reflectlite.TypeOf"], unfollowed := true, recurses := true, apart := false, narrowed := true }
def FnExactFsRemoveUptoSaid : Prop := fnExactFsRemoveUptoRow.holds Try.pinned (OpenSpec.upto fnExactFsRemoveSpec)

/-- 'laws.FnExactFsSync', WHERE WHAT IT READS IS OF BULK AT MOST 1048576: true; the input reads as it did. -/
def fnExactFsSyncUptoRow : OpenClaim := { program := "ytfhpgfbakimmhaa", sum := "c3ea350e200b3ede54ad0cdec9defb41dabe75de743cb6d06159ac129351c28a", func := "loop.example/s02863/laws.FnExactFsSync", spec := "fnExactFsSync", inPlace := ["internal/bytealg.Compare", "internal/reflectlite.TypeOf"], unfollowed := true, recurses := true, apart := false, narrowed := true }
def FnExactFsSyncUptoSaid : Prop := fnExactFsSyncUptoRow.holds Try.pinned (OpenSpec.upto fnExactFsSyncSpec)

/-- 'laws.FnExactFsWrite', WHERE WHAT IT READS IS OF BULK AT MOST 1048576: true; the input reads as it did. -/
def fnExactFsWriteUptoRow : OpenClaim := { program := "ytfhpgfbakimmhaa", sum := "c3ea350e200b3ede54ad0cdec9defb41dabe75de743cb6d06159ac129351c28a", func := "loop.example/s02863/laws.FnExactFsWrite", spec := "fnExactFsWrite", inPlace := ["internal/bytealg.Compare", "slices.overlaps[loop.example/s02863/impl.FsFile]", "internal/reflectlite.TypeOf"], unfollowed := true, recurses := true, apart := false, narrowed := true }
def FnExactFsWriteUptoSaid : Prop := fnExactFsWriteUptoRow.holds Try.pinned (OpenSpec.upto fnExactFsWriteSpec)

/-- 'laws.FnExactFsRename', WHERE WHAT IT READS IS OF BULK AT MOST 1048576: true; the input reads as it did. -/
def fnExactFsRenameUptoRow : OpenClaim := { program := "ytfhpgfbakimmhaa", sum := "c3ea350e200b3ede54ad0cdec9defb41dabe75de743cb6d06159ac129351c28a", func := "loop.example/s02863/laws.FnExactFsRename", spec := "fnExactFsRename", inPlace := ["internal/bytealg.Compare", "slices.overlaps[loop.example/s02863/impl.FsFile]", "internal/reflectlite.TypeOf"], unfollowed := true, recurses := true, apart := false, narrowed := true }
def FnExactFsRenameUptoSaid : Prop := fnExactFsRenameUptoRow.holds Try.pinned (OpenSpec.upto fnExactFsRenameSpec)

/-- 'laws.FnExactValidDoc', WHERE WHAT IT READS IS OF BULK AT MOST 1048576: true; the input reads as it did. -/
def fnExactValidDocUptoRow : OpenClaim := { program := "ytfhpgfbakimmhaa", sum := "c3ea350e200b3ede54ad0cdec9defb41dabe75de743cb6d06159ac129351c28a", func := "loop.example/s02863/laws.FnExactValidDoc", spec := "fnExactValidDoc", inPlace := ["internal/bytealg.IndexByte"], unfollowed := true, recurses := true, apart := false, narrowed := true }
def FnExactValidDocUptoSaid : Prop := fnExactValidDocUptoRow.holds Try.pinned (OpenSpec.upto fnExactValidDocSpec)

/-- 'laws.FnExactFlatText', WHERE WHAT IT READS IS OF BULK AT MOST 1048576: true; the input reads as it did. -/
def fnExactFlatTextUptoRow : OpenClaim := { program := "ytfhpgfbakimmhaa", sum := "c3ea350e200b3ede54ad0cdec9defb41dabe75de743cb6d06159ac129351c28a", func := "loop.example/s02863/laws.FnExactFlatText", spec := "fnExactFlatText", inPlace := ["internal/bytealg.IndexByte"], unfollowed := true, recurses := true, apart := false, narrowed := true }
def FnExactFlatTextUptoSaid : Prop := fnExactFlatTextUptoRow.holds Try.pinned (OpenSpec.upto fnExactFlatTextSpec)

/-- 'laws.FnExactLeadWidth', WHERE WHAT IT READS IS OF BULK AT MOST 1048576: true; the input reads as it did. -/
def fnExactLeadWidthUptoRow : OpenClaim := { program := "ytfhpgfbakimmhaa", sum := "c3ea350e200b3ede54ad0cdec9defb41dabe75de743cb6d06159ac129351c28a", func := "loop.example/s02863/laws.FnExactLeadWidth", spec := "fnExactLeadWidth", inPlace := ["internal/bytealg.IndexByte"], unfollowed := true, recurses := true, apart := false, narrowed := true }
def FnExactLeadWidthUptoSaid : Prop := fnExactLeadWidthUptoRow.holds Try.pinned (OpenSpec.upto fnExactLeadWidthSpec)

/-- 'laws.FnExactRender', WHERE WHAT IT READS IS OF BULK AT MOST 1048576: true; the input reads as it did. -/
def fnExactRenderUptoRow : OpenClaim := { program := "ytfhpgfbakimmhaa", sum := "c3ea350e200b3ede54ad0cdec9defb41dabe75de743cb6d06159ac129351c28a", func := "loop.example/s02863/laws.FnExactRender", spec := "fnExactRender", inPlace := ["internal/bytealg.IndexByte"], unfollowed := true, recurses := true, apart := false, narrowed := true }
def FnExactRenderUptoSaid : Prop := fnExactRenderUptoRow.holds Try.pinned (OpenSpec.upto fnExactRenderSpec)

/-- 'laws.FnExactLayout', WHERE WHAT IT READS IS OF BULK AT MOST 1048576: true; the input reads as it did. -/
def fnExactLayoutUptoRow : OpenClaim := { program := "ytfhpgfbakimmhaa", sum := "c3ea350e200b3ede54ad0cdec9defb41dabe75de743cb6d06159ac129351c28a", func := "loop.example/s02863/laws.FnExactLayout", spec := "fnExactLayout", inPlace := ["internal/bytealg.IndexByte"], unfollowed := true, recurses := true, apart := false, narrowed := true }
def FnExactLayoutUptoSaid : Prop := fnExactLayoutUptoRow.holds Try.pinned (OpenSpec.upto fnExactLayoutSpec)

end Rows
end Go.Proofs.Ytfhpgfbakimmhaa
