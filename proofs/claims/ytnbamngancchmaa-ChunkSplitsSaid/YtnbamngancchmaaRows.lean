/-
  No cell of these rows narrows 'for every input' (looked for: loops, veiled, ifaces, maps, wideKeys, modest, calm, conditions, laid).
  DERIVED. THE GIVEN ROWS OF THIS SEAT. 9 by the template 'for every input the law returns true; each argument reads behind the call as it read before'; 0 by the template 'total and deterministic' (their statements: YtnbamngancchmaaTotals.lean).
  GIVEN WITH THE SEED: the statements are not yours to turn. If you find one false, say at which input.
  Laid BY PROGRAM, IN A SANDBOX (cutbox-rows.mjs): the forced cells as the released guide's own fill.sh prints them over the translation 5163b53aa139b9ba… (all of the seat's roots in one cut). By AI agents, Wed Nov 11 2026. No macro, syntax, notation, axiom, sorry.
-/
import Derived.Test.YtnbamngancchmaaChecked
import GoSem.Claim
import GoSem.ClaimJoined
import GoSem.ClaimMapViews
import Derived.JoinedTies
import Derived.KernelRfl
namespace Go.Proofs.Ytnbamngancchmaa
/- THE CELL 'sum', in the pinned program and in every row, IS THE sha256 OF THE DUMP (.gsa) THAT YtnbamngancchmaaProg.lean LOADS. Nothing in Lean hashes anything: it is a label: what it is worth is what the hold of that sum in a sandbox is worth. -/
noncomputable def Try.pinned : Pinned := { name := "ytnbamngancchmaa", sum := "5163b53aa139b9ba056fc625192965efbae87dd05928c9101c4d452843e4d5b9", checked := Try.checked }
namespace Rows
def none {H : Type} : Left H := { results := [], args := [] }

/-- 'lysimeterlaw6.StampsSteady': WHATEVER THE INPUT: true; the input reads as it did. -/
def stampsSteadySpec : ChangeSpec := { name := "stampsSteady", fn := fun _ => fun
  | [d1, d2, d3] => { results := [.lit (.bool true)], args := [d1, d2, d3] }
  | _ => none }
def stampsSteadyRow : OpenClaim := { program := "ytnbamngancchmaa", sum := "5163b53aa139b9ba056fc625192965efbae87dd05928c9101c4d452843e4d5b9", func := "lysimeter/lysimeterlaw6.StampsSteady", spec := "stampsSteady", apart := false }
def StampsSteadySaid : Prop := stampsSteadyRow.holds Try.pinned (OpenSpec.ofChange stampsSteadySpec)

/-- ITS FALSE NEIGHBOUR: 'it returns false'. Refute it at one input. -/
def stampsSteadyWrong : ChangeSpec := { name := "stampsSteady", fn := fun _ => fun
  | [d1, d2, d3] => { results := [.lit (.bool false)], args := [d1, d2, d3] }
  | _ => none }
def StampsSteadyWrongFalsely : Prop := stampsSteadyRow.holds Try.pinned (OpenSpec.ofChange stampsSteadyWrong)

/-- 'lysimeterlaw7.ValuesStill': WHATEVER THE INPUT: true; the input reads as it did. -/
def valuesStillSpec : ChangeSpec := { name := "valuesStill", fn := fun _ => fun
  | [d1, d2, d3] => { results := [.lit (.bool true)], args := [d1, d2, d3] }
  | _ => none }
def valuesStillRow : OpenClaim := { program := "ytnbamngancchmaa", sum := "5163b53aa139b9ba056fc625192965efbae87dd05928c9101c4d452843e4d5b9", func := "lysimeter/lysimeterlaw7.ValuesStill", spec := "valuesStill", apart := false }
def ValuesStillSaid : Prop := valuesStillRow.holds Try.pinned (OpenSpec.ofChange valuesStillSpec)

/-- ITS FALSE NEIGHBOUR: 'it returns false'. Refute it at one input. -/
def valuesStillWrong : ChangeSpec := { name := "valuesStill", fn := fun _ => fun
  | [d1, d2, d3] => { results := [.lit (.bool false)], args := [d1, d2, d3] }
  | _ => none }
def ValuesStillWrongFalsely : Prop := valuesStillRow.holds Try.pinned (OpenSpec.ofChange valuesStillWrong)

/-- 'lysimeterlaw6.StampsPacks': WHATEVER THE INPUT: true; the input reads as it did. -/
def stampsPacksSpec : ChangeSpec := { name := "stampsPacks", fn := fun _ => fun
  | [d1, d2] => { results := [.lit (.bool true)], args := [d1, d2] }
  | _ => none }
def stampsPacksRow : OpenClaim := { program := "ytnbamngancchmaa", sum := "5163b53aa139b9ba056fc625192965efbae87dd05928c9101c4d452843e4d5b9", func := "lysimeter/lysimeterlaw6.StampsPacks", spec := "stampsPacks", unfollowed := true, recurses := true, apart := false }
def StampsPacksSaid : Prop := stampsPacksRow.holds Try.pinned (OpenSpec.ofChange stampsPacksSpec)

/-- ITS FALSE NEIGHBOUR: 'it returns false'. Refute it at one input. -/
def stampsPacksWrong : ChangeSpec := { name := "stampsPacks", fn := fun _ => fun
  | [d1, d2] => { results := [.lit (.bool false)], args := [d1, d2] }
  | _ => none }
def StampsPacksWrongFalsely : Prop := stampsPacksRow.holds Try.pinned (OpenSpec.ofChange stampsPacksWrong)

/-- 'lysimeterlaw6.StampsReads': WHATEVER THE INPUT: true; the input reads as it did. -/
def stampsReadsSpec : ChangeSpec := { name := "stampsReads", fn := fun _ => fun
  | [d1, d2] => { results := [.lit (.bool true)], args := [d1, d2] }
  | _ => none }
def stampsReadsRow : OpenClaim := { program := "ytnbamngancchmaa", sum := "5163b53aa139b9ba056fc625192965efbae87dd05928c9101c4d452843e4d5b9", func := "lysimeter/lysimeterlaw6.StampsReads", spec := "stampsReads", unfollowed := true, recurses := true, apart := false }
def StampsReadsSaid : Prop := stampsReadsRow.holds Try.pinned (OpenSpec.ofChange stampsReadsSpec)

/-- ITS FALSE NEIGHBOUR: 'it returns false'. Refute it at one input. -/
def stampsReadsWrong : ChangeSpec := { name := "stampsReads", fn := fun _ => fun
  | [d1, d2] => { results := [.lit (.bool false)], args := [d1, d2] }
  | _ => none }
def StampsReadsWrongFalsely : Prop := stampsReadsRow.holds Try.pinned (OpenSpec.ofChange stampsReadsWrong)

/-- 'lysimeterlaw7.ValuesPacks': WHATEVER THE INPUT: true; the input reads as it did. -/
def valuesPacksSpec : ChangeSpec := { name := "valuesPacks", fn := fun _ => fun
  | [d1, d2] => { results := [.lit (.bool true)], args := [d1, d2] }
  | _ => none }
def valuesPacksRow : OpenClaim := { program := "ytnbamngancchmaa", sum := "5163b53aa139b9ba056fc625192965efbae87dd05928c9101c4d452843e4d5b9", func := "lysimeter/lysimeterlaw7.ValuesPacks", spec := "valuesPacks", unfollowed := true, recurses := true, apart := false }
def ValuesPacksSaid : Prop := valuesPacksRow.holds Try.pinned (OpenSpec.ofChange valuesPacksSpec)

/-- ITS FALSE NEIGHBOUR: 'it returns false'. Refute it at one input. -/
def valuesPacksWrong : ChangeSpec := { name := "valuesPacks", fn := fun _ => fun
  | [d1, d2] => { results := [.lit (.bool false)], args := [d1, d2] }
  | _ => none }
def ValuesPacksWrongFalsely : Prop := valuesPacksRow.holds Try.pinned (OpenSpec.ofChange valuesPacksWrong)

/-- 'lysimeterlaw7.ValuesReads': WHATEVER THE INPUT: true; the input reads as it did. -/
def valuesReadsSpec : ChangeSpec := { name := "valuesReads", fn := fun _ => fun
  | [d1, d2] => { results := [.lit (.bool true)], args := [d1, d2] }
  | _ => none }
def valuesReadsRow : OpenClaim := { program := "ytnbamngancchmaa", sum := "5163b53aa139b9ba056fc625192965efbae87dd05928c9101c4d452843e4d5b9", func := "lysimeter/lysimeterlaw7.ValuesReads", spec := "valuesReads", unfollowed := true, recurses := true, apart := false }
def ValuesReadsSaid : Prop := valuesReadsRow.holds Try.pinned (OpenSpec.ofChange valuesReadsSpec)

/-- ITS FALSE NEIGHBOUR: 'it returns false'. Refute it at one input. -/
def valuesReadsWrong : ChangeSpec := { name := "valuesReads", fn := fun _ => fun
  | [d1, d2] => { results := [.lit (.bool false)], args := [d1, d2] }
  | _ => none }
def ValuesReadsWrongFalsely : Prop := valuesReadsRow.holds Try.pinned (OpenSpec.ofChange valuesReadsWrong)

/-- 'lysimeterlaw8.ChunkSplits': WHATEVER THE INPUT: true; the input reads as it did. -/
def chunkSplitsSpec : ChangeSpec := { name := "chunkSplits", fn := fun _ => fun
  | [d] => { results := [.lit (.bool true)], args := [d] }
  | _ => none }
def chunkSplitsRow : OpenClaim := { program := "ytnbamngancchmaa", sum := "5163b53aa139b9ba056fc625192965efbae87dd05928c9101c4d452843e4d5b9", func := "lysimeter/lysimeterlaw8.ChunkSplits", spec := "chunkSplits", unfollowed := true, recurses := true, apart := false }
def ChunkSplitsSaid : Prop := chunkSplitsRow.holds Try.pinned (OpenSpec.ofChange chunkSplitsSpec)

/-- ITS FALSE NEIGHBOUR: 'it returns false'. Refute it at one input. -/
def chunkSplitsWrong : ChangeSpec := { name := "chunkSplits", fn := fun _ => fun
  | [d] => { results := [.lit (.bool false)], args := [d] }
  | _ => none }
def ChunkSplitsWrongFalsely : Prop := chunkSplitsRow.holds Try.pinned (OpenSpec.ofChange chunkSplitsWrong)

/-- 'lysimeterlaw8.ChunkPacks': WHATEVER THE INPUT: true; the input reads as it did. -/
def chunkPacksSpec : ChangeSpec := { name := "chunkPacks", fn := fun _ => fun
  | [d1, d2, d3] => { results := [.lit (.bool true)], args := [d1, d2, d3] }
  | _ => none }
def chunkPacksRow : OpenClaim := { program := "ytnbamngancchmaa", sum := "5163b53aa139b9ba056fc625192965efbae87dd05928c9101c4d452843e4d5b9", func := "lysimeter/lysimeterlaw8.ChunkPacks", spec := "chunkPacks", unfollowed := true, recurses := true, apart := false }
def ChunkPacksSaid : Prop := chunkPacksRow.holds Try.pinned (OpenSpec.ofChange chunkPacksSpec)

/-- ITS FALSE NEIGHBOUR: 'it returns false'. Refute it at one input. -/
def chunkPacksWrong : ChangeSpec := { name := "chunkPacks", fn := fun _ => fun
  | [d1, d2, d3] => { results := [.lit (.bool false)], args := [d1, d2, d3] }
  | _ => none }
def ChunkPacksWrongFalsely : Prop := chunkPacksRow.holds Try.pinned (OpenSpec.ofChange chunkPacksWrong)

/-- 'lysimeterlaw8.ChunkReads': WHATEVER THE INPUT: true; the input reads as it did. -/
def chunkReadsSpec : ChangeSpec := { name := "chunkReads", fn := fun _ => fun
  | [d] => { results := [.lit (.bool true)], args := [d] }
  | _ => none }
def chunkReadsRow : OpenClaim := { program := "ytnbamngancchmaa", sum := "5163b53aa139b9ba056fc625192965efbae87dd05928c9101c4d452843e4d5b9", func := "lysimeter/lysimeterlaw8.ChunkReads", spec := "chunkReads", unfollowed := true, recurses := true, apart := false }
def ChunkReadsSaid : Prop := chunkReadsRow.holds Try.pinned (OpenSpec.ofChange chunkReadsSpec)

/-- ITS FALSE NEIGHBOUR: 'it returns false'. Refute it at one input. -/
def chunkReadsWrong : ChangeSpec := { name := "chunkReads", fn := fun _ => fun
  | [d] => { results := [.lit (.bool false)], args := [d] }
  | _ => none }
def ChunkReadsWrongFalsely : Prop := chunkReadsRow.holds Try.pinned (OpenSpec.ofChange chunkReadsWrong)

/- THE SECOND FORM. 'bulk': how many values and letters a reading holds, each counted each time it is reached (what is shared counts as often as it is met; a slice's spare places count too). A statement '..UptoSaid' is the law's where the arguments, and the package variables that the reading takes, are together of bulk at most 1048576: NARROWER than '..Said'. Prove '..Said' where nothing that the law and all that it calls make is longer than what came in: it says more and counts as full. Else prove '..UptoSaid'. A law counts once. -/
mutual
def uptoBulk {H : Type} : DataW H → Nat
  | .lit (.string bytes) => bytes.length + 1
  | .lit _ => 1
  | .nil => 1
  | .ptr d => uptoBulk d + 1
  | .slice elems spare => uptoBulkAll elems + uptoBulkAll spare + 1
  | .agg parts => uptoBulkAll parts + 1
  | .iface _ d => uptoBulk d + 1
  | .map entries => uptoBulkEntries entries + 1
  | .held _ => 1
def uptoBulkAll {H : Type} : List (DataW H) → Nat
  | [] => 0
  | d :: r => uptoBulk d + uptoBulkAll r
def uptoBulkEntries {H : Type} : List (Lit × DataW H) → Nat
  | [] => 0
  | x :: r => uptoBulkEntry x + uptoBulkEntries r
def uptoBulkEntry {H : Type} : Lit × DataW H → Nat
  | (.string bytes, d) => bytes.length + uptoBulk d + 1
  | (_, d) => uptoBulk d + 1
 end
def uptoSmall : (H : Type) → List (DataW H) → Bool := fun _ ds => decide (uptoBulkAll ds ≤ 1048576)
def OpenSpec.upto (s : _root_.Go.ChangeSpec) : _root_.Go.OpenSpec := { _root_.Go.OpenSpec.ofChange s with cond := some uptoSmall }

/-- 'lysimeterlaw6.StampsSteady', WHERE WHAT IT READS IS OF BULK AT MOST 1048576: true; the input reads as it did. -/
def stampsSteadyUptoRow : OpenClaim := { program := "ytnbamngancchmaa", sum := "5163b53aa139b9ba056fc625192965efbae87dd05928c9101c4d452843e4d5b9", func := "lysimeter/lysimeterlaw6.StampsSteady", spec := "stampsSteady", apart := false, narrowed := true }
def StampsSteadyUptoSaid : Prop := stampsSteadyUptoRow.holds Try.pinned (OpenSpec.upto stampsSteadySpec)

/-- 'lysimeterlaw7.ValuesStill', WHERE WHAT IT READS IS OF BULK AT MOST 1048576: true; the input reads as it did. -/
def valuesStillUptoRow : OpenClaim := { program := "ytnbamngancchmaa", sum := "5163b53aa139b9ba056fc625192965efbae87dd05928c9101c4d452843e4d5b9", func := "lysimeter/lysimeterlaw7.ValuesStill", spec := "valuesStill", apart := false, narrowed := true }
def ValuesStillUptoSaid : Prop := valuesStillUptoRow.holds Try.pinned (OpenSpec.upto valuesStillSpec)

/-- 'lysimeterlaw6.StampsPacks', WHERE WHAT IT READS IS OF BULK AT MOST 1048576: true; the input reads as it did. -/
def stampsPacksUptoRow : OpenClaim := { program := "ytnbamngancchmaa", sum := "5163b53aa139b9ba056fc625192965efbae87dd05928c9101c4d452843e4d5b9", func := "lysimeter/lysimeterlaw6.StampsPacks", spec := "stampsPacks", unfollowed := true, recurses := true, apart := false, narrowed := true }
def StampsPacksUptoSaid : Prop := stampsPacksUptoRow.holds Try.pinned (OpenSpec.upto stampsPacksSpec)

/-- 'lysimeterlaw6.StampsReads', WHERE WHAT IT READS IS OF BULK AT MOST 1048576: true; the input reads as it did. -/
def stampsReadsUptoRow : OpenClaim := { program := "ytnbamngancchmaa", sum := "5163b53aa139b9ba056fc625192965efbae87dd05928c9101c4d452843e4d5b9", func := "lysimeter/lysimeterlaw6.StampsReads", spec := "stampsReads", unfollowed := true, recurses := true, apart := false, narrowed := true }
def StampsReadsUptoSaid : Prop := stampsReadsUptoRow.holds Try.pinned (OpenSpec.upto stampsReadsSpec)

/-- 'lysimeterlaw7.ValuesPacks', WHERE WHAT IT READS IS OF BULK AT MOST 1048576: true; the input reads as it did. -/
def valuesPacksUptoRow : OpenClaim := { program := "ytnbamngancchmaa", sum := "5163b53aa139b9ba056fc625192965efbae87dd05928c9101c4d452843e4d5b9", func := "lysimeter/lysimeterlaw7.ValuesPacks", spec := "valuesPacks", unfollowed := true, recurses := true, apart := false, narrowed := true }
def ValuesPacksUptoSaid : Prop := valuesPacksUptoRow.holds Try.pinned (OpenSpec.upto valuesPacksSpec)

/-- 'lysimeterlaw7.ValuesReads', WHERE WHAT IT READS IS OF BULK AT MOST 1048576: true; the input reads as it did. -/
def valuesReadsUptoRow : OpenClaim := { program := "ytnbamngancchmaa", sum := "5163b53aa139b9ba056fc625192965efbae87dd05928c9101c4d452843e4d5b9", func := "lysimeter/lysimeterlaw7.ValuesReads", spec := "valuesReads", unfollowed := true, recurses := true, apart := false, narrowed := true }
def ValuesReadsUptoSaid : Prop := valuesReadsUptoRow.holds Try.pinned (OpenSpec.upto valuesReadsSpec)

/-- 'lysimeterlaw8.ChunkSplits', WHERE WHAT IT READS IS OF BULK AT MOST 1048576: true; the input reads as it did. -/
def chunkSplitsUptoRow : OpenClaim := { program := "ytnbamngancchmaa", sum := "5163b53aa139b9ba056fc625192965efbae87dd05928c9101c4d452843e4d5b9", func := "lysimeter/lysimeterlaw8.ChunkSplits", spec := "chunkSplits", unfollowed := true, recurses := true, apart := false, narrowed := true }
def ChunkSplitsUptoSaid : Prop := chunkSplitsUptoRow.holds Try.pinned (OpenSpec.upto chunkSplitsSpec)

/-- 'lysimeterlaw8.ChunkPacks', WHERE WHAT IT READS IS OF BULK AT MOST 1048576: true; the input reads as it did. -/
def chunkPacksUptoRow : OpenClaim := { program := "ytnbamngancchmaa", sum := "5163b53aa139b9ba056fc625192965efbae87dd05928c9101c4d452843e4d5b9", func := "lysimeter/lysimeterlaw8.ChunkPacks", spec := "chunkPacks", unfollowed := true, recurses := true, apart := false, narrowed := true }
def ChunkPacksUptoSaid : Prop := chunkPacksUptoRow.holds Try.pinned (OpenSpec.upto chunkPacksSpec)

/-- 'lysimeterlaw8.ChunkReads', WHERE WHAT IT READS IS OF BULK AT MOST 1048576: true; the input reads as it did. -/
def chunkReadsUptoRow : OpenClaim := { program := "ytnbamngancchmaa", sum := "5163b53aa139b9ba056fc625192965efbae87dd05928c9101c4d452843e4d5b9", func := "lysimeter/lysimeterlaw8.ChunkReads", spec := "chunkReads", unfollowed := true, recurses := true, apart := false, narrowed := true }
def ChunkReadsUptoSaid : Prop := chunkReadsUptoRow.holds Try.pinned (OpenSpec.upto chunkReadsSpec)

end Rows
end Go.Proofs.Ytnbamngancchmaa
