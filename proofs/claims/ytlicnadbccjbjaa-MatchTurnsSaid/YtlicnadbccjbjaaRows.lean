/-
  No cell of these rows narrows 'for every input' (looked for: loops, veiled, ifaces, maps, wideKeys, modest, calm, conditions, laid).
  DERIVED. THE GIVEN ROWS OF THIS SEAT. 4 by the template 'for every input the law returns true; each argument reads behind the call as it read before'; 0 by the template 'total and deterministic' (their statements: YtlicnadbccjbjaaTotals.lean).
  GIVEN WITH THE SEED: the statements are not yours to turn. If you find one false, say at which input.
  Laid BY PROGRAM, IN A SANDBOX (cutbox-rows.mjs): the forced cells as the released guide's own fill.sh prints them over the translation f648f53fa2a0647e… (all of the seat's roots in one cut). By AI agents, Wed Nov 11 2026. No macro, syntax, notation, axiom, sorry.
-/
import Derived.Test.YtlicnadbccjbjaaChecked
import GoSem.Claim
import GoSem.ClaimJoined
import GoSem.ClaimMapViews
import Derived.JoinedTies
import Derived.KernelRfl
namespace Go.Proofs.Ytlicnadbccjbjaa
/- THE CELL 'sum', in the pinned program and in every row, IS THE sha256 OF THE DUMP (.gsa) THAT YtlicnadbccjbjaaProg.lean LOADS. Nothing in Lean hashes anything: it is a label: what it is worth is what the hold of that sum in a sandbox is worth. -/
noncomputable def Try.pinned : Pinned := { name := "ytlicnadbccjbjaa", sum := "f648f53fa2a0647e99afee82be5c6655c2c8a0aaecd65b695f87f5bd849568d4", checked := Try.checked }
namespace Rows
def none {H : Type} : Left H := { results := [], args := [] }

/-- 'lysimeterlaw11.LabelsMake': WHATEVER THE INPUT: true; the input reads as it did. -/
def labelsMakeSpec : ChangeSpec := { name := "labelsMake", fn := fun _ => fun
  | [d1, d2] => { results := [.lit (.bool true)], args := [d1, d2] }
  | _ => none }
def labelsMakeRow : OpenClaim := { program := "ytlicnadbccjbjaa", sum := "f648f53fa2a0647e99afee82be5c6655c2c8a0aaecd65b695f87f5bd849568d4", func := "lysimeter/lysimeterlaw11.LabelsMake", spec := "labelsMake", inPlace := ["internal/abi.NoEscape"], apart := false }
def LabelsMakeSaid : Prop := labelsMakeRow.holds Try.pinned (OpenSpec.ofChange labelsMakeSpec)

/-- ITS FALSE NEIGHBOUR: 'it returns false'. Refute it at one input. -/
def labelsMakeWrong : ChangeSpec := { name := "labelsMake", fn := fun _ => fun
  | [d1, d2] => { results := [.lit (.bool false)], args := [d1, d2] }
  | _ => none }
def LabelsMakeWrongFalsely : Prop := labelsMakeRow.holds Try.pinned (OpenSpec.ofChange labelsMakeWrong)

/-- 'lysimeterlaw11.LabelsCmp': WHATEVER THE INPUT: true; the input reads as it did. -/
def labelsCmpSpec : ChangeSpec := { name := "labelsCmp", fn := fun _ => fun
  | [d1, d2, d3] => { results := [.lit (.bool true)], args := [d1, d2, d3] }
  | _ => none }
def labelsCmpRow : OpenClaim := { program := "ytlicnadbccjbjaa", sum := "f648f53fa2a0647e99afee82be5c6655c2c8a0aaecd65b695f87f5bd849568d4", func := "lysimeter/lysimeterlaw11.LabelsCmp", spec := "labelsCmp", inPlace := ["internal/abi.NoEscape"], apart := false }
def LabelsCmpSaid : Prop := labelsCmpRow.holds Try.pinned (OpenSpec.ofChange labelsCmpSpec)

/-- ITS FALSE NEIGHBOUR: 'it returns false'. Refute it at one input. -/
def labelsCmpWrong : ChangeSpec := { name := "labelsCmp", fn := fun _ => fun
  | [d1, d2, d3] => { results := [.lit (.bool false)], args := [d1, d2, d3] }
  | _ => none }
def LabelsCmpWrongFalsely : Prop := labelsCmpRow.holds Try.pinned (OpenSpec.ofChange labelsCmpWrong)

/-- 'lysimeterlaw12.MatchFits': WHATEVER THE INPUT: true; the input reads as it did. -/
def matchFitsSpec : ChangeSpec := { name := "matchFits", fn := fun _ => fun
  | [d1, d2] => { results := [.lit (.bool true)], args := [d1, d2] }
  | _ => none }
def matchFitsRow : OpenClaim := { program := "ytlicnadbccjbjaa", sum := "f648f53fa2a0647e99afee82be5c6655c2c8a0aaecd65b695f87f5bd849568d4", func := "lysimeter/lysimeterlaw12.MatchFits", spec := "matchFits", inPlace := ["internal/abi.NoEscape", "internal/bytealg.MakeNoZero"], unfollowed := true, recurses := true, apart := false }
def MatchFitsSaid : Prop := matchFitsRow.holds Try.pinned (OpenSpec.ofChange matchFitsSpec)

/-- ITS FALSE NEIGHBOUR: 'it returns false'. Refute it at one input. -/
def matchFitsWrong : ChangeSpec := { name := "matchFits", fn := fun _ => fun
  | [d1, d2] => { results := [.lit (.bool false)], args := [d1, d2] }
  | _ => none }
def MatchFitsWrongFalsely : Prop := matchFitsRow.holds Try.pinned (OpenSpec.ofChange matchFitsWrong)

/-- 'lysimeterlaw12.MatchTurns': WHATEVER THE INPUT: true; the input reads as it did. -/
def matchTurnsSpec : ChangeSpec := { name := "matchTurns", fn := fun _ => fun
  | [d1, d2, d3] => { results := [.lit (.bool true)], args := [d1, d2, d3] }
  | _ => none }
def matchTurnsRow : OpenClaim := { program := "ytlicnadbccjbjaa", sum := "f648f53fa2a0647e99afee82be5c6655c2c8a0aaecd65b695f87f5bd849568d4", func := "lysimeter/lysimeterlaw12.MatchTurns", spec := "matchTurns", inPlace := ["internal/abi.NoEscape", "internal/bytealg.MakeNoZero"], unfollowed := true, recurses := true, apart := false }
def MatchTurnsSaid : Prop := matchTurnsRow.holds Try.pinned (OpenSpec.ofChange matchTurnsSpec)

/-- ITS FALSE NEIGHBOUR: 'it returns false'. Refute it at one input. -/
def matchTurnsWrong : ChangeSpec := { name := "matchTurns", fn := fun _ => fun
  | [d1, d2, d3] => { results := [.lit (.bool false)], args := [d1, d2, d3] }
  | _ => none }
def MatchTurnsWrongFalsely : Prop := matchTurnsRow.holds Try.pinned (OpenSpec.ofChange matchTurnsWrong)

/- THE SECOND FORM. 'bulk': how many values and letters a reading holds, each counted each time it is reached (what is shared counts as often as it is met; a slice's spare places count too). A statement '..UptoSaid' is the law's where the arguments, and the package variables that the reading takes, are together of bulk at most 1048576: NARROWER than '..Said'. Prove '..Said' where nothing that the law and all that it calls make is longer than what came in: it says more and counts as full. Else prove '..UptoSaid'. A law counts once. -/
mutual
def uptoBulk {H : Type} : DataW H → Nat
  | .lit (.string bytes) => bytes.length + 1
  | .lit _ => 1
  | .nil => 1
  | .ptr d => uptoBulk d + 1
  | .slice elems spare => uptoBulkAll elems + uptoBulkAll spare + 1
  | .agg parts => uptoBulkAll parts + 1
  | .iface _ d => uptoBulk d + 1
  | .map entries => uptoBulkEntries entries + 1
  | .held _ => 1
def uptoBulkAll {H : Type} : List (DataW H) → Nat
  | [] => 0
  | d :: r => uptoBulk d + uptoBulkAll r
def uptoBulkEntries {H : Type} : List (Lit × DataW H) → Nat
  | [] => 0
  | x :: r => uptoBulkEntry x + uptoBulkEntries r
def uptoBulkEntry {H : Type} : Lit × DataW H → Nat
  | (.string bytes, d) => bytes.length + uptoBulk d + 1
  | (_, d) => uptoBulk d + 1
 end
def uptoSmall : (H : Type) → List (DataW H) → Bool := fun _ ds => decide (uptoBulkAll ds ≤ 1048576)
def OpenSpec.upto (s : _root_.Go.ChangeSpec) : _root_.Go.OpenSpec := { _root_.Go.OpenSpec.ofChange s with cond := some uptoSmall }

/-- 'lysimeterlaw11.LabelsMake', WHERE WHAT IT READS IS OF BULK AT MOST 1048576: true; the input reads as it did. -/
def labelsMakeUptoRow : OpenClaim := { program := "ytlicnadbccjbjaa", sum := "f648f53fa2a0647e99afee82be5c6655c2c8a0aaecd65b695f87f5bd849568d4", func := "lysimeter/lysimeterlaw11.LabelsMake", spec := "labelsMake", inPlace := ["internal/abi.NoEscape"], apart := false, narrowed := true }
def LabelsMakeUptoSaid : Prop := labelsMakeUptoRow.holds Try.pinned (OpenSpec.upto labelsMakeSpec)

/-- 'lysimeterlaw11.LabelsCmp', WHERE WHAT IT READS IS OF BULK AT MOST 1048576: true; the input reads as it did. -/
def labelsCmpUptoRow : OpenClaim := { program := "ytlicnadbccjbjaa", sum := "f648f53fa2a0647e99afee82be5c6655c2c8a0aaecd65b695f87f5bd849568d4", func := "lysimeter/lysimeterlaw11.LabelsCmp", spec := "labelsCmp", inPlace := ["internal/abi.NoEscape"], apart := false, narrowed := true }
def LabelsCmpUptoSaid : Prop := labelsCmpUptoRow.holds Try.pinned (OpenSpec.upto labelsCmpSpec)

/-- 'lysimeterlaw12.MatchFits', WHERE WHAT IT READS IS OF BULK AT MOST 1048576: true; the input reads as it did. -/
def matchFitsUptoRow : OpenClaim := { program := "ytlicnadbccjbjaa", sum := "f648f53fa2a0647e99afee82be5c6655c2c8a0aaecd65b695f87f5bd849568d4", func := "lysimeter/lysimeterlaw12.MatchFits", spec := "matchFits", inPlace := ["internal/abi.NoEscape", "internal/bytealg.MakeNoZero"], unfollowed := true, recurses := true, apart := false, narrowed := true }
def MatchFitsUptoSaid : Prop := matchFitsUptoRow.holds Try.pinned (OpenSpec.upto matchFitsSpec)

/-- 'lysimeterlaw12.MatchTurns', WHERE WHAT IT READS IS OF BULK AT MOST 1048576: true; the input reads as it did. -/
def matchTurnsUptoRow : OpenClaim := { program := "ytlicnadbccjbjaa", sum := "f648f53fa2a0647e99afee82be5c6655c2c8a0aaecd65b695f87f5bd849568d4", func := "lysimeter/lysimeterlaw12.MatchTurns", spec := "matchTurns", inPlace := ["internal/abi.NoEscape", "internal/bytealg.MakeNoZero"], unfollowed := true, recurses := true, apart := false, narrowed := true }
def MatchTurnsUptoSaid : Prop := matchTurnsUptoRow.holds Try.pinned (OpenSpec.upto matchTurnsSpec)

end Rows
end Go.Proofs.Ytlicnadbccjbjaa
