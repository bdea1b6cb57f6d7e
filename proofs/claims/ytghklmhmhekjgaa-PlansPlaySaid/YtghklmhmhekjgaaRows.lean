/-
  No cell of these rows narrows 'for every input' (looked for: loops, veiled, ifaces, maps, wideKeys, modest, calm, conditions, laid).
  DERIVED. THE GIVEN ROWS OF THIS SEAT. 4 by the template 'for every input the law returns true; each argument reads behind the call as it read before'; 0 by the template 'total and deterministic' (their statements: YtghklmhmhekjgaaTotals.lean).
  GIVEN WITH THE SEED: the statements are not yours to turn. If you find one false, say at which input.
  Laid BY PROGRAM, IN A SANDBOX (cutbox-rows.mjs): the forced cells as the released guide's own fill.sh prints them over the translation 684349b19c0014bd… (all of the seat's roots in one cut). By AI agents, Wed Nov 11 2026. No macro, syntax, notation, axiom, sorry.
-/
import Derived.Test.YtghklmhmhekjgaaChecked
import GoSem.Claim
import GoSem.ClaimJoined
import GoSem.ClaimMapViews
import Derived.JoinedTies
import Derived.KernelRfl
namespace Go.Proofs.Ytghklmhmhekjgaa
/- THE CELL 'sum', in the pinned program and in every row, IS THE sha256 OF THE DUMP (.gsa) THAT YtghklmhmhekjgaaProg.lean LOADS. Nothing in Lean hashes anything: it is a label: what it is worth is what the hold of that sum in a sandbox is worth. -/
noncomputable def Try.pinned : Pinned := { name := "ytghklmhmhekjgaa", sum := "684349b19c0014bd1e2856d82ed2a1c0d6aa4d4a9ed6f175a4da2bc21162a379", checked := Try.checked }
namespace Rows
def none {H : Type} : Left H := { results := [], args := [] }

/-- 'lysimeterlaw25.PlansActive': WHATEVER THE INPUT: true; the input reads as it did. -/
def plansActiveSpec : ChangeSpec := { name := "plansActive", fn := fun _ => fun
  | [d1, d2] => { results := [.lit (.bool true)], args := [d1, d2] }
  | _ => none }
def plansActiveRow : OpenClaim := { program := "ytghklmhmhekjgaa", sum := "684349b19c0014bd1e2856d82ed2a1c0d6aa4d4a9ed6f175a4da2bc21162a379", func := "lysimeter/lysimeterlaw25.PlansActive", spec := "plansActive", unfollowed := true, recurses := true, apart := false }
def PlansActiveSaid : Prop := plansActiveRow.holds Try.pinned (OpenSpec.ofChange plansActiveSpec)

/-- ITS FALSE NEIGHBOUR: 'it returns false'. Refute it at one input. -/
def plansActiveWrong : ChangeSpec := { name := "plansActive", fn := fun _ => fun
  | [d1, d2] => { results := [.lit (.bool false)], args := [d1, d2] }
  | _ => none }
def PlansActiveWrongFalsely : Prop := plansActiveRow.holds Try.pinned (OpenSpec.ofChange plansActiveWrong)

/-- 'lysimeterlaw25.PlansMany': WHATEVER THE INPUT: true; the input reads as it did. -/
def plansManySpec : ChangeSpec := { name := "plansMany", fn := fun _ => fun
  | [d] => { results := [.lit (.bool true)], args := [d] }
  | _ => none }
def plansManyRow : OpenClaim := { program := "ytghklmhmhekjgaa", sum := "684349b19c0014bd1e2856d82ed2a1c0d6aa4d4a9ed6f175a4da2bc21162a379", func := "lysimeter/lysimeterlaw25.PlansMany", spec := "plansMany", unfollowed := true, recurses := true, apart := false }
def PlansManySaid : Prop := plansManyRow.holds Try.pinned (OpenSpec.ofChange plansManySpec)

/-- ITS FALSE NEIGHBOUR: 'it returns false'. Refute it at one input. -/
def plansManyWrong : ChangeSpec := { name := "plansMany", fn := fun _ => fun
  | [d] => { results := [.lit (.bool false)], args := [d] }
  | _ => none }
def PlansManyWrongFalsely : Prop := plansManyRow.holds Try.pinned (OpenSpec.ofChange plansManyWrong)

/-- 'lysimeterlaw25.PlansRead': WHATEVER THE INPUT: true; the input reads as it did. -/
def plansReadSpec : ChangeSpec := { name := "plansRead", fn := fun _ => fun
  | [d] => { results := [.lit (.bool true)], args := [d] }
  | _ => none }
def plansReadRow : OpenClaim := { program := "ytghklmhmhekjgaa", sum := "684349b19c0014bd1e2856d82ed2a1c0d6aa4d4a9ed6f175a4da2bc21162a379", func := "lysimeter/lysimeterlaw25.PlansRead", spec := "plansRead", unfollowed := true, recurses := true, apart := false }
def PlansReadSaid : Prop := plansReadRow.holds Try.pinned (OpenSpec.ofChange plansReadSpec)

/-- ITS FALSE NEIGHBOUR: 'it returns false'. Refute it at one input. -/
def plansReadWrong : ChangeSpec := { name := "plansRead", fn := fun _ => fun
  | [d] => { results := [.lit (.bool false)], args := [d] }
  | _ => none }
def PlansReadWrongFalsely : Prop := plansReadRow.holds Try.pinned (OpenSpec.ofChange plansReadWrong)

/-- 'lysimeterlaw25.PlansPlay': WHATEVER THE INPUT: true; the input reads as it did. -/
def plansPlaySpec : ChangeSpec := { name := "plansPlay", fn := fun _ => fun
  | [d] => { results := [.lit (.bool true)], args := [d] }
  | _ => none }
def plansPlayRow : OpenClaim := { program := "ytghklmhmhekjgaa", sum := "684349b19c0014bd1e2856d82ed2a1c0d6aa4d4a9ed6f175a4da2bc21162a379", func := "lysimeter/lysimeterlaw25.PlansPlay", spec := "plansPlay", unfollowed := true, recurses := true, apart := false }
def PlansPlaySaid : Prop := plansPlayRow.holds Try.pinned (OpenSpec.ofChange plansPlaySpec)

/-- ITS FALSE NEIGHBOUR: 'it returns false'. Refute it at one input. -/
def plansPlayWrong : ChangeSpec := { name := "plansPlay", fn := fun _ => fun
  | [d] => { results := [.lit (.bool false)], args := [d] }
  | _ => none }
def PlansPlayWrongFalsely : Prop := plansPlayRow.holds Try.pinned (OpenSpec.ofChange plansPlayWrong)

/- THE SECOND FORM. 'bulk': how many values and letters a reading holds, each counted each time it is reached (what is shared counts as often as it is met; a slice's spare places count too). A statement '..UptoSaid' is the law's where the arguments, and the package variables that the reading takes, are together of bulk at most 1048576: NARROWER than '..Said'. Prove '..Said' where nothing that the law and all that it calls make is longer than what came in: it says more and counts as full. Else prove '..UptoSaid'. A law counts once. -/
mutual
def uptoBulk {H : Type} : DataW H → Nat
  | .lit (.string bytes) => bytes.length + 1
  | .lit _ => 1
  | .nil => 1
  | .ptr d => uptoBulk d + 1
  | .slice elems spare => uptoBulkAll elems + uptoBulkAll spare + 1
  | .agg parts => uptoBulkAll parts + 1
  | .iface _ d => uptoBulk d + 1
  | .map entries => uptoBulkEntries entries + 1
  | .held _ => 1
def uptoBulkAll {H : Type} : List (DataW H) → Nat
  | [] => 0
  | d :: r => uptoBulk d + uptoBulkAll r
def uptoBulkEntries {H : Type} : List (Lit × DataW H) → Nat
  | [] => 0
  | x :: r => uptoBulkEntry x + uptoBulkEntries r
def uptoBulkEntry {H : Type} : Lit × DataW H → Nat
  | (.string bytes, d) => bytes.length + uptoBulk d + 1
  | (_, d) => uptoBulk d + 1
 end
def uptoSmall : (H : Type) → List (DataW H) → Bool := fun _ ds => decide (uptoBulkAll ds ≤ 1048576)
def OpenSpec.upto (s : _root_.Go.ChangeSpec) : _root_.Go.OpenSpec := { _root_.Go.OpenSpec.ofChange s with cond := some uptoSmall }

/-- 'lysimeterlaw25.PlansActive', WHERE WHAT IT READS IS OF BULK AT MOST 1048576: true; the input reads as it did. -/
def plansActiveUptoRow : OpenClaim := { program := "ytghklmhmhekjgaa", sum := "684349b19c0014bd1e2856d82ed2a1c0d6aa4d4a9ed6f175a4da2bc21162a379", func := "lysimeter/lysimeterlaw25.PlansActive", spec := "plansActive", unfollowed := true, recurses := true, apart := false, narrowed := true }
def PlansActiveUptoSaid : Prop := plansActiveUptoRow.holds Try.pinned (OpenSpec.upto plansActiveSpec)

/-- 'lysimeterlaw25.PlansMany', WHERE WHAT IT READS IS OF BULK AT MOST 1048576: true; the input reads as it did. -/
def plansManyUptoRow : OpenClaim := { program := "ytghklmhmhekjgaa", sum := "684349b19c0014bd1e2856d82ed2a1c0d6aa4d4a9ed6f175a4da2bc21162a379", func := "lysimeter/lysimeterlaw25.PlansMany", spec := "plansMany", unfollowed := true, recurses := true, apart := false, narrowed := true }
def PlansManyUptoSaid : Prop := plansManyUptoRow.holds Try.pinned (OpenSpec.upto plansManySpec)

/-- 'lysimeterlaw25.PlansRead', WHERE WHAT IT READS IS OF BULK AT MOST 1048576: true; the input reads as it did. -/
def plansReadUptoRow : OpenClaim := { program := "ytghklmhmhekjgaa", sum := "684349b19c0014bd1e2856d82ed2a1c0d6aa4d4a9ed6f175a4da2bc21162a379", func := "lysimeter/lysimeterlaw25.PlansRead", spec := "plansRead", unfollowed := true, recurses := true, apart := false, narrowed := true }
def PlansReadUptoSaid : Prop := plansReadUptoRow.holds Try.pinned (OpenSpec.upto plansReadSpec)

/-- 'lysimeterlaw25.PlansPlay', WHERE WHAT IT READS IS OF BULK AT MOST 1048576: true; the input reads as it did. -/
def plansPlayUptoRow : OpenClaim := { program := "ytghklmhmhekjgaa", sum := "684349b19c0014bd1e2856d82ed2a1c0d6aa4d4a9ed6f175a4da2bc21162a379", func := "lysimeter/lysimeterlaw25.PlansPlay", spec := "plansPlay", unfollowed := true, recurses := true, apart := false, narrowed := true }
def PlansPlayUptoSaid : Prop := plansPlayUptoRow.holds Try.pinned (OpenSpec.upto plansPlaySpec)

end Rows
end Go.Proofs.Ytghklmhmhekjgaa
