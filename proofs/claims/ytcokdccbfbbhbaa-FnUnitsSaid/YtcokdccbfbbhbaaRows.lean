/-
  No cell of these rows narrows 'for every input' (looked for: loops, veiled, ifaces, maps, wideKeys, modest, calm, conditions, laid).
  DERIVED. THE GIVEN ROWS OF THIS SEAT. 11 by the template 'for every input the law returns true; each argument reads behind the call as it read before'; 0 by the template 'total and deterministic' (their statements: YtcokdccbfbbhbaaTotals.lean).
  GIVEN WITH THE SEED: the statements are not yours to turn. If you find one false, say at which input.
  Laid BY PROGRAM, IN A SANDBOX (cutbox-rows.mjs): the forced cells as the released guide's own fill.sh prints them over the translation fc681a5e5233463b… (all of the seat's roots in one cut). By AI agents, Wed Nov 11 2026. No macro, syntax, notation, axiom, sorry.
-/
import Derived.Test.YtcokdccbfbbhbaaChecked
import GoSem.Claim
import GoSem.ClaimJoined
import GoSem.ClaimMapViews
import Derived.JoinedTies
import Derived.KernelRfl
namespace Go.Proofs.Ytcokdccbfbbhbaa
/- THE CELL 'sum', in the pinned program and in every row, IS THE sha256 OF THE DUMP (.gsa) THAT YtcokdccbfbbhbaaProg.lean LOADS. Nothing in Lean hashes anything: it is a label: what it is worth is what the hold of that sum in a sandbox is worth. -/
noncomputable def Try.pinned : Pinned := { name := "ytcokdccbfbbhbaa", sum := "fc681a5e5233463b0413a07d7997eb2fe6bf1ce613316617c8be7893665f91d3", checked := Try.checked }
namespace Rows
def none {H : Type} : Left H := { results := [], args := [] }

/-- 'laws.FnExactConstants': WHATEVER THE INPUT: true; the input reads as it did. -/
def fnExactConstantsSpec : ChangeSpec := { name := "fnExactConstants", fn := fun _ => fun
  | [] => { results := [.lit (.bool true)], args := [] }
  | _ => none }
def fnExactConstantsRow : OpenClaim := { program := "ytcokdccbfbbhbaa", sum := "fc681a5e5233463b0413a07d7997eb2fe6bf1ce613316617c8be7893665f91d3", func := "loop.example/s02863/laws.FnExactConstants", spec := "fnExactConstants", apart := false }
def FnExactConstantsSaid : Prop := fnExactConstantsRow.holds Try.pinned (OpenSpec.ofChange fnExactConstantsSpec)

/-- ITS FALSE NEIGHBOUR: 'it returns false'. Refute it at one input. -/
def fnExactConstantsWrong : ChangeSpec := { name := "fnExactConstants", fn := fun _ => fun
  | [] => { results := [.lit (.bool false)], args := [] }
  | _ => none }
def FnExactConstantsWrongFalsely : Prop := fnExactConstantsRow.holds Try.pinned (OpenSpec.ofChange fnExactConstantsWrong)

/-- 'laws.FnExactIsName': WHATEVER THE INPUT: true; the input reads as it did. -/
def fnExactIsNameSpec : ChangeSpec := { name := "fnExactIsName", fn := fun _ => fun
  | [d] => { results := [.lit (.bool true)], args := [d] }
  | _ => none }
def fnExactIsNameRow : OpenClaim := { program := "ytcokdccbfbbhbaa", sum := "fc681a5e5233463b0413a07d7997eb2fe6bf1ce613316617c8be7893665f91d3", func := "loop.example/s02863/laws.FnExactIsName", spec := "fnExactIsName", apart := false }
def FnExactIsNameSaid : Prop := fnExactIsNameRow.holds Try.pinned (OpenSpec.ofChange fnExactIsNameSpec)

/-- ITS FALSE NEIGHBOUR: 'it returns false'. Refute it at one input. -/
def fnExactIsNameWrong : ChangeSpec := { name := "fnExactIsName", fn := fun _ => fun
  | [d] => { results := [.lit (.bool false)], args := [d] }
  | _ => none }
def FnExactIsNameWrongFalsely : Prop := fnExactIsNameRow.holds Try.pinned (OpenSpec.ofChange fnExactIsNameWrong)

/-- 'laws.FnExactToUnits': WHATEVER THE INPUT: true; the input reads as it did. -/
def fnExactToUnitsSpec : ChangeSpec := { name := "fnExactToUnits", fn := fun _ => fun
  | [d] => { results := [.lit (.bool true)], args := [d] }
  | _ => none }
def fnExactToUnitsRow : OpenClaim := { program := "ytcokdccbfbbhbaa", sum := "fc681a5e5233463b0413a07d7997eb2fe6bf1ce613316617c8be7893665f91d3", func := "loop.example/s02863/laws.FnExactToUnits", spec := "fnExactToUnits", apart := false }
def FnExactToUnitsSaid : Prop := fnExactToUnitsRow.holds Try.pinned (OpenSpec.ofChange fnExactToUnitsSpec)

/-- ITS FALSE NEIGHBOUR: 'it returns false'. Refute it at one input. -/
def fnExactToUnitsWrong : ChangeSpec := { name := "fnExactToUnits", fn := fun _ => fun
  | [d] => { results := [.lit (.bool false)], args := [d] }
  | _ => none }
def FnExactToUnitsWrongFalsely : Prop := fnExactToUnitsRow.holds Try.pinned (OpenSpec.ofChange fnExactToUnitsWrong)

/-- 'laws.FnExactFromUnits': WHATEVER THE INPUT: true; the input reads as it did. -/
def fnExactFromUnitsSpec : ChangeSpec := { name := "fnExactFromUnits", fn := fun _ => fun
  | [d] => { results := [.lit (.bool true)], args := [d] }
  | _ => none }
def fnExactFromUnitsRow : OpenClaim := { program := "ytcokdccbfbbhbaa", sum := "fc681a5e5233463b0413a07d7997eb2fe6bf1ce613316617c8be7893665f91d3", func := "loop.example/s02863/laws.FnExactFromUnits", spec := "fnExactFromUnits", apart := false }
def FnExactFromUnitsSaid : Prop := fnExactFromUnitsRow.holds Try.pinned (OpenSpec.ofChange fnExactFromUnitsSpec)

/-- ITS FALSE NEIGHBOUR: 'it returns false'. Refute it at one input. -/
def fnExactFromUnitsWrong : ChangeSpec := { name := "fnExactFromUnits", fn := fun _ => fun
  | [d] => { results := [.lit (.bool false)], args := [d] }
  | _ => none }
def FnExactFromUnitsWrongFalsely : Prop := fnExactFromUnitsRow.holds Try.pinned (OpenSpec.ofChange fnExactFromUnitsWrong)

/-- 'laws.FnExactEncodeText': WHATEVER THE INPUT: true; the input reads as it did. -/
def fnExactEncodeTextSpec : ChangeSpec := { name := "fnExactEncodeText", fn := fun _ => fun
  | [d] => { results := [.lit (.bool true)], args := [d] }
  | _ => none }
def fnExactEncodeTextRow : OpenClaim := { program := "ytcokdccbfbbhbaa", sum := "fc681a5e5233463b0413a07d7997eb2fe6bf1ce613316617c8be7893665f91d3", func := "loop.example/s02863/laws.FnExactEncodeText", spec := "fnExactEncodeText", apart := false }
def FnExactEncodeTextSaid : Prop := fnExactEncodeTextRow.holds Try.pinned (OpenSpec.ofChange fnExactEncodeTextSpec)

/-- ITS FALSE NEIGHBOUR: 'it returns false'. Refute it at one input. -/
def fnExactEncodeTextWrong : ChangeSpec := { name := "fnExactEncodeText", fn := fun _ => fun
  | [d] => { results := [.lit (.bool false)], args := [d] }
  | _ => none }
def FnExactEncodeTextWrongFalsely : Prop := fnExactEncodeTextRow.holds Try.pinned (OpenSpec.ofChange fnExactEncodeTextWrong)

/-- 'laws.FnExactTextWidth': WHATEVER THE INPUT: true; the input reads as it did. -/
def fnExactTextWidthSpec : ChangeSpec := { name := "fnExactTextWidth", fn := fun _ => fun
  | [d] => { results := [.lit (.bool true)], args := [d] }
  | _ => none }
def fnExactTextWidthRow : OpenClaim := { program := "ytcokdccbfbbhbaa", sum := "fc681a5e5233463b0413a07d7997eb2fe6bf1ce613316617c8be7893665f91d3", func := "loop.example/s02863/laws.FnExactTextWidth", spec := "fnExactTextWidth", unfollowed := true, recurses := true, apart := false }
def FnExactTextWidthSaid : Prop := fnExactTextWidthRow.holds Try.pinned (OpenSpec.ofChange fnExactTextWidthSpec)

/-- ITS FALSE NEIGHBOUR: 'it returns false'. Refute it at one input. -/
def fnExactTextWidthWrong : ChangeSpec := { name := "fnExactTextWidth", fn := fun _ => fun
  | [d] => { results := [.lit (.bool false)], args := [d] }
  | _ => none }
def FnExactTextWidthWrongFalsely : Prop := fnExactTextWidthRow.holds Try.pinned (OpenSpec.ofChange fnExactTextWidthWrong)

/-- 'laws.FnExactDecodeText': WHATEVER THE INPUT: true; the input reads as it did. -/
def fnExactDecodeTextSpec : ChangeSpec := { name := "fnExactDecodeText", fn := fun _ => fun
  | [d] => { results := [.lit (.bool true)], args := [d] }
  | _ => none }
def fnExactDecodeTextRow : OpenClaim := { program := "ytcokdccbfbbhbaa", sum := "fc681a5e5233463b0413a07d7997eb2fe6bf1ce613316617c8be7893665f91d3", func := "loop.example/s02863/laws.FnExactDecodeText", spec := "fnExactDecodeText", unfollowed := true, recurses := true, apart := false }
def FnExactDecodeTextSaid : Prop := fnExactDecodeTextRow.holds Try.pinned (OpenSpec.ofChange fnExactDecodeTextSpec)

/-- ITS FALSE NEIGHBOUR: 'it returns false'. Refute it at one input. -/
def fnExactDecodeTextWrong : ChangeSpec := { name := "fnExactDecodeText", fn := fun _ => fun
  | [d] => { results := [.lit (.bool false)], args := [d] }
  | _ => none }
def FnExactDecodeTextWrongFalsely : Prop := fnExactDecodeTextRow.holds Try.pinned (OpenSpec.ofChange fnExactDecodeTextWrong)

/-- 'laws.FnExactIsNumber': WHATEVER THE INPUT: true; the input reads as it did. -/
def fnExactIsNumberSpec : ChangeSpec := { name := "fnExactIsNumber", fn := fun _ => fun
  | [d] => { results := [.lit (.bool true)], args := [d] }
  | _ => none }
def fnExactIsNumberRow : OpenClaim := { program := "ytcokdccbfbbhbaa", sum := "fc681a5e5233463b0413a07d7997eb2fe6bf1ce613316617c8be7893665f91d3", func := "loop.example/s02863/laws.FnExactIsNumber", spec := "fnExactIsNumber", apart := false }
def FnExactIsNumberSaid : Prop := fnExactIsNumberRow.holds Try.pinned (OpenSpec.ofChange fnExactIsNumberSpec)

/-- ITS FALSE NEIGHBOUR: 'it returns false'. Refute it at one input. -/
def fnExactIsNumberWrong : ChangeSpec := { name := "fnExactIsNumber", fn := fun _ => fun
  | [d] => { results := [.lit (.bool false)], args := [d] }
  | _ => none }
def FnExactIsNumberWrongFalsely : Prop := fnExactIsNumberRow.holds Try.pinned (OpenSpec.ofChange fnExactIsNumberWrong)

/-- 'laws.FnExactQuoteUnits': WHATEVER THE INPUT: true; the input reads as it did. -/
def fnExactQuoteUnitsSpec : ChangeSpec := { name := "fnExactQuoteUnits", fn := fun _ => fun
  | [d] => { results := [.lit (.bool true)], args := [d] }
  | _ => none }
def fnExactQuoteUnitsRow : OpenClaim := { program := "ytcokdccbfbbhbaa", sum := "fc681a5e5233463b0413a07d7997eb2fe6bf1ce613316617c8be7893665f91d3", func := "loop.example/s02863/laws.FnExactQuoteUnits", spec := "fnExactQuoteUnits", apart := false }
def FnExactQuoteUnitsSaid : Prop := fnExactQuoteUnitsRow.holds Try.pinned (OpenSpec.ofChange fnExactQuoteUnitsSpec)

/-- ITS FALSE NEIGHBOUR: 'it returns false'. Refute it at one input. -/
def fnExactQuoteUnitsWrong : ChangeSpec := { name := "fnExactQuoteUnits", fn := fun _ => fun
  | [d] => { results := [.lit (.bool false)], args := [d] }
  | _ => none }
def FnExactQuoteUnitsWrongFalsely : Prop := fnExactQuoteUnitsRow.holds Try.pinned (OpenSpec.ofChange fnExactQuoteUnitsWrong)

/-- 'laws.FnExactReadString': WHATEVER THE INPUT: true; the input reads as it did. -/
def fnExactReadStringSpec : ChangeSpec := { name := "fnExactReadString", fn := fun _ => fun
  | [d] => { results := [.lit (.bool true)], args := [d] }
  | _ => none }
def fnExactReadStringRow : OpenClaim := { program := "ytcokdccbfbbhbaa", sum := "fc681a5e5233463b0413a07d7997eb2fe6bf1ce613316617c8be7893665f91d3", func := "loop.example/s02863/laws.FnExactReadString", spec := "fnExactReadString", unfollowed := true, recurses := true, apart := false }
def FnExactReadStringSaid : Prop := fnExactReadStringRow.holds Try.pinned (OpenSpec.ofChange fnExactReadStringSpec)

/-- ITS FALSE NEIGHBOUR: 'it returns false'. Refute it at one input. -/
def fnExactReadStringWrong : ChangeSpec := { name := "fnExactReadString", fn := fun _ => fun
  | [d] => { results := [.lit (.bool false)], args := [d] }
  | _ => none }
def FnExactReadStringWrongFalsely : Prop := fnExactReadStringRow.holds Try.pinned (OpenSpec.ofChange fnExactReadStringWrong)

/-- 'laws.FnUnits': WHATEVER THE INPUT: true; the input reads as it did. -/
def fnUnitsSpec : ChangeSpec := { name := "fnUnits", fn := fun _ => fun
  | [d] => { results := [.lit (.bool true)], args := [d] }
  | _ => none }
def fnUnitsRow : OpenClaim := { program := "ytcokdccbfbbhbaa", sum := "fc681a5e5233463b0413a07d7997eb2fe6bf1ce613316617c8be7893665f91d3", func := "loop.example/s02863/laws.FnUnits", spec := "fnUnits", unfollowed := true, recurses := true, apart := false }
def FnUnitsSaid : Prop := fnUnitsRow.holds Try.pinned (OpenSpec.ofChange fnUnitsSpec)

/-- ITS FALSE NEIGHBOUR: 'it returns false'. Refute it at one input. -/
def fnUnitsWrong : ChangeSpec := { name := "fnUnits", fn := fun _ => fun
  | [d] => { results := [.lit (.bool false)], args := [d] }
  | _ => none }
def FnUnitsWrongFalsely : Prop := fnUnitsRow.holds Try.pinned (OpenSpec.ofChange fnUnitsWrong)

/- THE SECOND FORM. 'bulk': how many values and letters a reading holds, each counted each time it is reached (what is shared counts as often as it is met; a slice's spare places count too). A statement '..UptoSaid' is the law's where the arguments, and the package variables that the reading takes, are together of bulk at most 1048576: NARROWER than '..Said'. Prove '..Said' where nothing that the law and all that it calls make is longer than what came in: it says more and counts as full. Else prove '..UptoSaid'. A law counts once. -/
mutual
def uptoBulk {H : Type} : DataW H → Nat
  | .lit (.string bytes) => bytes.length + 1
  | .lit _ => 1
  | .nil => 1
  | .ptr d => uptoBulk d + 1
  | .slice elems spare => uptoBulkAll elems + uptoBulkAll spare + 1
  | .agg parts => uptoBulkAll parts + 1
  | .iface _ d => uptoBulk d + 1
  | .map entries => uptoBulkEntries entries + 1
  | .held _ => 1
def uptoBulkAll {H : Type} : List (DataW H) → Nat
  | [] => 0
  | d :: r => uptoBulk d + uptoBulkAll r
def uptoBulkEntries {H : Type} : List (Lit × DataW H) → Nat
  | [] => 0
  | x :: r => uptoBulkEntry x + uptoBulkEntries r
def uptoBulkEntry {H : Type} : Lit × DataW H → Nat
  | (.string bytes, d) => bytes.length + uptoBulk d + 1
  | (_, d) => uptoBulk d + 1
 end
def uptoSmall : (H : Type) → List (DataW H) → Bool := fun _ ds => decide (uptoBulkAll ds ≤ 1048576)
def OpenSpec.upto (s : _root_.Go.ChangeSpec) : _root_.Go.OpenSpec := { _root_.Go.OpenSpec.ofChange s with cond := some uptoSmall }

/-- 'laws.FnExactConstants', WHERE WHAT IT READS IS OF BULK AT MOST 1048576: true; the input reads as it did. -/
def fnExactConstantsUptoRow : OpenClaim := { program := "ytcokdccbfbbhbaa", sum := "fc681a5e5233463b0413a07d7997eb2fe6bf1ce613316617c8be7893665f91d3", func := "loop.example/s02863/laws.FnExactConstants", spec := "fnExactConstants", apart := false, narrowed := true }
def FnExactConstantsUptoSaid : Prop := fnExactConstantsUptoRow.holds Try.pinned (OpenSpec.upto fnExactConstantsSpec)

/-- 'laws.FnExactIsName', WHERE WHAT IT READS IS OF BULK AT MOST 1048576: true; the input reads as it did. -/
def fnExactIsNameUptoRow : OpenClaim := { program := "ytcokdccbfbbhbaa", sum := "fc681a5e5233463b0413a07d7997eb2fe6bf1ce613316617c8be7893665f91d3", func := "loop.example/s02863/laws.FnExactIsName", spec := "fnExactIsName", apart := false, narrowed := true }
def FnExactIsNameUptoSaid : Prop := fnExactIsNameUptoRow.holds Try.pinned (OpenSpec.upto fnExactIsNameSpec)

/-- 'laws.FnExactToUnits', WHERE WHAT IT READS IS OF BULK AT MOST 1048576: true; the input reads as it did. -/
def fnExactToUnitsUptoRow : OpenClaim := { program := "ytcokdccbfbbhbaa", sum := "fc681a5e5233463b0413a07d7997eb2fe6bf1ce613316617c8be7893665f91d3", func := "loop.example/s02863/laws.FnExactToUnits", spec := "fnExactToUnits", apart := false, narrowed := true }
def FnExactToUnitsUptoSaid : Prop := fnExactToUnitsUptoRow.holds Try.pinned (OpenSpec.upto fnExactToUnitsSpec)

/-- 'laws.FnExactFromUnits', WHERE WHAT IT READS IS OF BULK AT MOST 1048576: true; the input reads as it did. -/
def fnExactFromUnitsUptoRow : OpenClaim := { program := "ytcokdccbfbbhbaa", sum := "fc681a5e5233463b0413a07d7997eb2fe6bf1ce613316617c8be7893665f91d3", func := "loop.example/s02863/laws.FnExactFromUnits", spec := "fnExactFromUnits", apart := false, narrowed := true }
def FnExactFromUnitsUptoSaid : Prop := fnExactFromUnitsUptoRow.holds Try.pinned (OpenSpec.upto fnExactFromUnitsSpec)

/-- 'laws.FnExactEncodeText', WHERE WHAT IT READS IS OF BULK AT MOST 1048576: true; the input reads as it did. -/
def fnExactEncodeTextUptoRow : OpenClaim := { program := "ytcokdccbfbbhbaa", sum := "fc681a5e5233463b0413a07d7997eb2fe6bf1ce613316617c8be7893665f91d3", func := "loop.example/s02863/laws.FnExactEncodeText", spec := "fnExactEncodeText", apart := false, narrowed := true }
def FnExactEncodeTextUptoSaid : Prop := fnExactEncodeTextUptoRow.holds Try.pinned (OpenSpec.upto fnExactEncodeTextSpec)

/-- 'laws.FnExactTextWidth', WHERE WHAT IT READS IS OF BULK AT MOST 1048576: true; the input reads as it did. -/
def fnExactTextWidthUptoRow : OpenClaim := { program := "ytcokdccbfbbhbaa", sum := "fc681a5e5233463b0413a07d7997eb2fe6bf1ce613316617c8be7893665f91d3", func := "loop.example/s02863/laws.FnExactTextWidth", spec := "fnExactTextWidth", unfollowed := true, recurses := true, apart := false, narrowed := true }
def FnExactTextWidthUptoSaid : Prop := fnExactTextWidthUptoRow.holds Try.pinned (OpenSpec.upto fnExactTextWidthSpec)

/-- 'laws.FnExactDecodeText', WHERE WHAT IT READS IS OF BULK AT MOST 1048576: true; the input reads as it did. -/
def fnExactDecodeTextUptoRow : OpenClaim := { program := "ytcokdccbfbbhbaa", sum := "fc681a5e5233463b0413a07d7997eb2fe6bf1ce613316617c8be7893665f91d3", func := "loop.example/s02863/laws.FnExactDecodeText", spec := "fnExactDecodeText", unfollowed := true, recurses := true, apart := false, narrowed := true }
def FnExactDecodeTextUptoSaid : Prop := fnExactDecodeTextUptoRow.holds Try.pinned (OpenSpec.upto fnExactDecodeTextSpec)

/-- 'laws.FnExactIsNumber', WHERE WHAT IT READS IS OF BULK AT MOST 1048576: true; the input reads as it did. -/
def fnExactIsNumberUptoRow : OpenClaim := { program := "ytcokdccbfbbhbaa", sum := "fc681a5e5233463b0413a07d7997eb2fe6bf1ce613316617c8be7893665f91d3", func := "loop.example/s02863/laws.FnExactIsNumber", spec := "fnExactIsNumber", apart := false, narrowed := true }
def FnExactIsNumberUptoSaid : Prop := fnExactIsNumberUptoRow.holds Try.pinned (OpenSpec.upto fnExactIsNumberSpec)

/-- 'laws.FnExactQuoteUnits', WHERE WHAT IT READS IS OF BULK AT MOST 1048576: true; the input reads as it did. -/
def fnExactQuoteUnitsUptoRow : OpenClaim := { program := "ytcokdccbfbbhbaa", sum := "fc681a5e5233463b0413a07d7997eb2fe6bf1ce613316617c8be7893665f91d3", func := "loop.example/s02863/laws.FnExactQuoteUnits", spec := "fnExactQuoteUnits", apart := false, narrowed := true }
def FnExactQuoteUnitsUptoSaid : Prop := fnExactQuoteUnitsUptoRow.holds Try.pinned (OpenSpec.upto fnExactQuoteUnitsSpec)

/-- 'laws.FnExactReadString', WHERE WHAT IT READS IS OF BULK AT MOST 1048576: true; the input reads as it did. -/
def fnExactReadStringUptoRow : OpenClaim := { program := "ytcokdccbfbbhbaa", sum := "fc681a5e5233463b0413a07d7997eb2fe6bf1ce613316617c8be7893665f91d3", func := "loop.example/s02863/laws.FnExactReadString", spec := "fnExactReadString", unfollowed := true, recurses := true, apart := false, narrowed := true }
def FnExactReadStringUptoSaid : Prop := fnExactReadStringUptoRow.holds Try.pinned (OpenSpec.upto fnExactReadStringSpec)

/-- 'laws.FnUnits', WHERE WHAT IT READS IS OF BULK AT MOST 1048576: true; the input reads as it did. -/
def fnUnitsUptoRow : OpenClaim := { program := "ytcokdccbfbbhbaa", sum := "fc681a5e5233463b0413a07d7997eb2fe6bf1ce613316617c8be7893665f91d3", func := "loop.example/s02863/laws.FnUnits", spec := "fnUnits", unfollowed := true, recurses := true, apart := false, narrowed := true }
def FnUnitsUptoSaid : Prop := fnUnitsUptoRow.holds Try.pinned (OpenSpec.upto fnUnitsSpec)

end Rows
end Go.Proofs.Ytcokdccbfbbhbaa
