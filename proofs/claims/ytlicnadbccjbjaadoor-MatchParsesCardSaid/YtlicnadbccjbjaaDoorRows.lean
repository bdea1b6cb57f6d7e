/-
  NARROWER THAN 'FOR EVERY INPUT', by the rows' own cells (each row's printed sentence says how): LabelsText: laid · LabelsParse: laid · LabelsBytes: laid · MatchTexts: laid · MatchParses: laid.
  DERIVED. THE GIVEN ROWS OF THIS SEAT. 5 by the template 'for every input the law returns true; each argument reads behind the call as it read before'; 0 by the template 'total and deterministic' (their statements: YtlicnadbccjbjaaDoorTotals.lean).
  GIVEN WITH THE SEED: the statements are not yours to turn. If you find one false, say at which input.
  Laid BY PROGRAM, IN A SANDBOX (cutbox-rows.mjs): the forced cells as the released guide's own fill.sh prints them over the translation 7c25474fc13c6614… (all of the seat's roots in one cut). By AI agents, Wed Nov 11 2026. No macro, syntax, notation, axiom, sorry.
-/
import Derived.Test.YtlicnadbccjbjaaDoorChecked
import GoSem.Claim
import GoSem.ClaimJoined
import GoSem.ClaimMapViews
import Derived.JoinedTies
import Derived.KernelRfl
namespace Go.Proofs.YtlicnadbccjbjaaDoor
/- THE CELL 'sum', in the pinned program and in every row, IS THE sha256 OF THE DUMP (.gsa) THAT YtlicnadbccjbjaaDoorProg.lean LOADS. Nothing in Lean hashes anything: it is a label: what it is worth is what the hold of that sum in a sandbox is worth. -/
noncomputable def Tryd.pinned : Pinned := { name := "ytlicnadbccjbjaadoor", sum := "7c25474fc13c66144e7b006ab7d367dff78c977fe55dfdbb8266f04a86fce449", checked := Tryd.checked }
namespace Rows
def none {H : Type} : Left H := { results := [], args := [] }

/- WHAT THE LISTED PACKAGE-LEVEL VARIABLES READ AS WHEN THE CALL BEGINS. Each datum BY PROGRAM (the guide's laid-datum.mjs) off the statement by which the dump's own 'gosem.cut.vars' lays the variable. In a bare row this is a premise. The card (YtlicnadbccjbjaaDoorCards.lean) ties it to the program's text. -/
def laid_lysimeter_labels_errText {H : Type} : DataW H := .iface "*errors.errorString" (.ptr (.agg [.lit (.string [110, 111, 110, 101])]))

/-- 'lysimeterlaw11.LabelsText': WHATEVER THE INPUT: true; the input reads as it did. -/
def labelsTextSpec : ChangeSpec := { name := "labelsText", fn := fun _ => fun
  | [d] => { results := [.lit (.bool true)], args := [d] }
  | _ => none }
def labelsTextRow : OpenClaim := { program := "ytlicnadbccjbjaadoor", sum := "7c25474fc13c66144e7b006ab7d367dff78c977fe55dfdbb8266f04a86fce449", func := "lysimeter/lysimeterlaw11.LabelsText", spec := "labelsText", inPlace := ["internal/abi.NoEscape", "internal/bytealg.IndexByteString"], named := ["lysimeter/labels.errText"], apart := false, laid := [("lysimeter/labels.errText", laid_lysimeter_labels_errText)] }
def LabelsTextSaid : Prop := labelsTextRow.holds Tryd.pinned (OpenSpec.ofChange labelsTextSpec)

/-- ITS FALSE NEIGHBOUR: 'it returns false'. Refute it at one input. -/
def labelsTextWrong : ChangeSpec := { name := "labelsText", fn := fun _ => fun
  | [d] => { results := [.lit (.bool false)], args := [d] }
  | _ => none }
def LabelsTextWrongFalsely : Prop := labelsTextRow.holds Tryd.pinned (OpenSpec.ofChange labelsTextWrong)

/-- 'lysimeterlaw11.LabelsParse': WHATEVER THE INPUT: true; the input reads as it did. -/
def labelsParseSpec : ChangeSpec := { name := "labelsParse", fn := fun _ => fun
  | [d] => { results := [.lit (.bool true)], args := [d] }
  | _ => none }
def labelsParseRow : OpenClaim := { program := "ytlicnadbccjbjaadoor", sum := "7c25474fc13c66144e7b006ab7d367dff78c977fe55dfdbb8266f04a86fce449", func := "lysimeter/lysimeterlaw11.LabelsParse", spec := "labelsParse", inPlace := ["internal/abi.NoEscape", "internal/bytealg.IndexByteString"], named := ["lysimeter/labels.errText"], apart := false, laid := [("lysimeter/labels.errText", laid_lysimeter_labels_errText)] }
def LabelsParseSaid : Prop := labelsParseRow.holds Tryd.pinned (OpenSpec.ofChange labelsParseSpec)

/-- ITS FALSE NEIGHBOUR: 'it returns false'. Refute it at one input. -/
def labelsParseWrong : ChangeSpec := { name := "labelsParse", fn := fun _ => fun
  | [d] => { results := [.lit (.bool false)], args := [d] }
  | _ => none }
def LabelsParseWrongFalsely : Prop := labelsParseRow.holds Tryd.pinned (OpenSpec.ofChange labelsParseWrong)

/-- 'lysimeterlaw11.LabelsBytes': WHATEVER THE INPUT: true; the input reads as it did. -/
def labelsBytesSpec : ChangeSpec := { name := "labelsBytes", fn := fun _ => fun
  | [d] => { results := [.lit (.bool true)], args := [d] }
  | _ => none }
def labelsBytesRow : OpenClaim := { program := "ytlicnadbccjbjaadoor", sum := "7c25474fc13c66144e7b006ab7d367dff78c977fe55dfdbb8266f04a86fce449", func := "lysimeter/lysimeterlaw11.LabelsBytes", spec := "labelsBytes", inPlace := ["internal/abi.NoEscape", "internal/bytealg.IndexByteString"], named := ["lysimeter/labels.errText"], apart := false, laid := [("lysimeter/labels.errText", laid_lysimeter_labels_errText)] }
def LabelsBytesSaid : Prop := labelsBytesRow.holds Tryd.pinned (OpenSpec.ofChange labelsBytesSpec)

/-- ITS FALSE NEIGHBOUR: 'it returns false'. Refute it at one input. -/
def labelsBytesWrong : ChangeSpec := { name := "labelsBytes", fn := fun _ => fun
  | [d] => { results := [.lit (.bool false)], args := [d] }
  | _ => none }
def LabelsBytesWrongFalsely : Prop := labelsBytesRow.holds Tryd.pinned (OpenSpec.ofChange labelsBytesWrong)

/-- 'lysimeterlaw12.MatchTexts': WHATEVER THE INPUT: true; the input reads as it did. -/
def matchTextsSpec : ChangeSpec := { name := "matchTexts", fn := fun _ => fun
  | [d] => { results := [.lit (.bool true)], args := [d] }
  | _ => none }
def matchTextsRow : OpenClaim := { program := "ytlicnadbccjbjaadoor", sum := "7c25474fc13c66144e7b006ab7d367dff78c977fe55dfdbb8266f04a86fce449", func := "lysimeter/lysimeterlaw12.MatchTexts", spec := "matchTexts", inPlace := ["internal/abi.NoEscape", "internal/bytealg.MakeNoZero", "internal/bytealg.IndexByteString"], unfollowed := true, recurses := true, named := ["lysimeter/labels.errText"], apart := false, laid := [("lysimeter/labels.errText", laid_lysimeter_labels_errText)] }
def MatchTextsSaid : Prop := matchTextsRow.holds Tryd.pinned (OpenSpec.ofChange matchTextsSpec)

/-- ITS FALSE NEIGHBOUR: 'it returns false'. Refute it at one input. -/
def matchTextsWrong : ChangeSpec := { name := "matchTexts", fn := fun _ => fun
  | [d] => { results := [.lit (.bool false)], args := [d] }
  | _ => none }
def MatchTextsWrongFalsely : Prop := matchTextsRow.holds Tryd.pinned (OpenSpec.ofChange matchTextsWrong)

/-- 'lysimeterlaw12.MatchParses': WHATEVER THE INPUT: true; the input reads as it did. -/
def matchParsesSpec : ChangeSpec := { name := "matchParses", fn := fun _ => fun
  | [d] => { results := [.lit (.bool true)], args := [d] }
  | _ => none }
def matchParsesRow : OpenClaim := { program := "ytlicnadbccjbjaadoor", sum := "7c25474fc13c66144e7b006ab7d367dff78c977fe55dfdbb8266f04a86fce449", func := "lysimeter/lysimeterlaw12.MatchParses", spec := "matchParses", inPlace := ["internal/abi.NoEscape", "internal/bytealg.MakeNoZero", "internal/bytealg.IndexByteString"], unfollowed := true, recurses := true, named := ["lysimeter/labels.errText"], apart := false, laid := [("lysimeter/labels.errText", laid_lysimeter_labels_errText)] }
def MatchParsesSaid : Prop := matchParsesRow.holds Tryd.pinned (OpenSpec.ofChange matchParsesSpec)

/-- ITS FALSE NEIGHBOUR: 'it returns false'. Refute it at one input. -/
def matchParsesWrong : ChangeSpec := { name := "matchParses", fn := fun _ => fun
  | [d] => { results := [.lit (.bool false)], args := [d] }
  | _ => none }
def MatchParsesWrongFalsely : Prop := matchParsesRow.holds Tryd.pinned (OpenSpec.ofChange matchParsesWrong)

/- THE SECOND FORM. 'bulk': how many values and letters a reading holds, each counted each time it is reached (what is shared counts as often as it is met; a slice's spare places count too). A statement '..UptoSaid' is the law's where the arguments, and the package variables that the reading takes, are together of bulk at most 1048576: NARROWER than '..Said'. Prove '..Said' where nothing that the law and all that it calls make is longer than what came in: it says more and counts as full. Else prove '..UptoSaid'. A law counts once. -/
mutual
def uptoBulk {H : Type} : DataW H → Nat
  | .lit (.string bytes) => bytes.length + 1
  | .lit _ => 1
  | .nil => 1
  | .ptr d => uptoBulk d + 1
  | .slice elems spare => uptoBulkAll elems + uptoBulkAll spare + 1
  | .agg parts => uptoBulkAll parts + 1
  | .iface _ d => uptoBulk d + 1
  | .map entries => uptoBulkEntries entries + 1
  | .held _ => 1
def uptoBulkAll {H : Type} : List (DataW H) → Nat
  | [] => 0
  | d :: r => uptoBulk d + uptoBulkAll r
def uptoBulkEntries {H : Type} : List (Lit × DataW H) → Nat
  | [] => 0
  | x :: r => uptoBulkEntry x + uptoBulkEntries r
def uptoBulkEntry {H : Type} : Lit × DataW H → Nat
  | (.string bytes, d) => bytes.length + uptoBulk d + 1
  | (_, d) => uptoBulk d + 1
 end
def uptoSmall : (H : Type) → List (DataW H) → Bool := fun _ ds => decide (uptoBulkAll ds ≤ 1048576)
def OpenSpec.upto (s : _root_.Go.ChangeSpec) : _root_.Go.OpenSpec := { _root_.Go.OpenSpec.ofChange s with cond := some uptoSmall }

/-- 'lysimeterlaw11.LabelsText', WHERE WHAT IT READS IS OF BULK AT MOST 1048576: true; the input reads as it did. -/
def labelsTextUptoRow : OpenClaim := { program := "ytlicnadbccjbjaadoor", sum := "7c25474fc13c66144e7b006ab7d367dff78c977fe55dfdbb8266f04a86fce449", func := "lysimeter/lysimeterlaw11.LabelsText", spec := "labelsText", inPlace := ["internal/abi.NoEscape", "internal/bytealg.IndexByteString"], named := ["lysimeter/labels.errText"], apart := false, laid := [("lysimeter/labels.errText", laid_lysimeter_labels_errText)], narrowed := true }
def LabelsTextUptoSaid : Prop := labelsTextUptoRow.holds Tryd.pinned (OpenSpec.upto labelsTextSpec)

/-- 'lysimeterlaw11.LabelsParse', WHERE WHAT IT READS IS OF BULK AT MOST 1048576: true; the input reads as it did. -/
def labelsParseUptoRow : OpenClaim := { program := "ytlicnadbccjbjaadoor", sum := "7c25474fc13c66144e7b006ab7d367dff78c977fe55dfdbb8266f04a86fce449", func := "lysimeter/lysimeterlaw11.LabelsParse", spec := "labelsParse", inPlace := ["internal/abi.NoEscape", "internal/bytealg.IndexByteString"], named := ["lysimeter/labels.errText"], apart := false, laid := [("lysimeter/labels.errText", laid_lysimeter_labels_errText)], narrowed := true }
def LabelsParseUptoSaid : Prop := labelsParseUptoRow.holds Tryd.pinned (OpenSpec.upto labelsParseSpec)

/-- 'lysimeterlaw11.LabelsBytes', WHERE WHAT IT READS IS OF BULK AT MOST 1048576: true; the input reads as it did. -/
def labelsBytesUptoRow : OpenClaim := { program := "ytlicnadbccjbjaadoor", sum := "7c25474fc13c66144e7b006ab7d367dff78c977fe55dfdbb8266f04a86fce449", func := "lysimeter/lysimeterlaw11.LabelsBytes", spec := "labelsBytes", inPlace := ["internal/abi.NoEscape", "internal/bytealg.IndexByteString"], named := ["lysimeter/labels.errText"], apart := false, laid := [("lysimeter/labels.errText", laid_lysimeter_labels_errText)], narrowed := true }
def LabelsBytesUptoSaid : Prop := labelsBytesUptoRow.holds Tryd.pinned (OpenSpec.upto labelsBytesSpec)

/-- 'lysimeterlaw12.MatchTexts', WHERE WHAT IT READS IS OF BULK AT MOST 1048576: true; the input reads as it did. -/
def matchTextsUptoRow : OpenClaim := { program := "ytlicnadbccjbjaadoor", sum := "7c25474fc13c66144e7b006ab7d367dff78c977fe55dfdbb8266f04a86fce449", func := "lysimeter/lysimeterlaw12.MatchTexts", spec := "matchTexts", inPlace := ["internal/abi.NoEscape", "internal/bytealg.MakeNoZero", "internal/bytealg.IndexByteString"], unfollowed := true, recurses := true, named := ["lysimeter/labels.errText"], apart := false, laid := [("lysimeter/labels.errText", laid_lysimeter_labels_errText)], narrowed := true }
def MatchTextsUptoSaid : Prop := matchTextsUptoRow.holds Tryd.pinned (OpenSpec.upto matchTextsSpec)

/-- 'lysimeterlaw12.MatchParses', WHERE WHAT IT READS IS OF BULK AT MOST 1048576: true; the input reads as it did. -/
def matchParsesUptoRow : OpenClaim := { program := "ytlicnadbccjbjaadoor", sum := "7c25474fc13c66144e7b006ab7d367dff78c977fe55dfdbb8266f04a86fce449", func := "lysimeter/lysimeterlaw12.MatchParses", spec := "matchParses", inPlace := ["internal/abi.NoEscape", "internal/bytealg.MakeNoZero", "internal/bytealg.IndexByteString"], unfollowed := true, recurses := true, named := ["lysimeter/labels.errText"], apart := false, laid := [("lysimeter/labels.errText", laid_lysimeter_labels_errText)], narrowed := true }
def MatchParsesUptoSaid : Prop := matchParsesUptoRow.holds Tryd.pinned (OpenSpec.upto matchParsesSpec)

end Rows
end Go.Proofs.YtlicnadbccjbjaaDoor
