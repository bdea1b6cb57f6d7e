/-
  DERIVED. GIVEN WITH THE SEED: THE CARDS: each row of YtlicnadbccjbjaaDoorRows.lean that lists a variable, with what it lists TIED to the program's text (the seventh form; the later family's looks); each row that meets fmt, with fmt's text TOLD by the authors' own Lean function (tested against real Go, not proved from fmt's source: count such statements apart). THE CARD IS WHAT COUNTS. Prove the row's statement (the work); the ties are given (YtlicnadbccjbjaaDoorTie.lean); close each card by the builder's one call (the guide's Derived/Test/ToyasCard.lean, 'card_holds'). Laid BY PROGRAM, IN A SANDBOX (cutbox-door.mjs). By AI agents, Wed Nov 11 2026. No macro, syntax, notation, axiom, sorry.
-/
import Derived.Test.YtlicnadbccjbjaaDoorRows
import GoSem.ClaimSeven
namespace Go.Proofs.YtlicnadbccjbjaaDoor
namespace Rows

/-- THE TIED CARD OF 'lysimeterlaw11.LabelsText'. -/
def labelsTextCard : Claim7 := { stood := { row := labelsTextRow, standIns := [], harness := (true, "79b33d0637f02b4c11730adcb40bb79974f4ea777e4c0ca631d8fa8834c34d22"), looks := false }, kinds := [], alts := [], laidByText := true, laidKinds := [.sentinel], laidTests := true, laidLooks := .later }
def LabelsTextCardSaid : Prop := Claim7.holds Tryd.pinned (.plain (OpenSpec.ofChange labelsTextSpec)) labelsTextCard

/-- THE TIED CARD OF 'lysimeterlaw11.LabelsParse'. -/
def labelsParseCard : Claim7 := { stood := { row := labelsParseRow, standIns := [], harness := (true, "79b33d0637f02b4c11730adcb40bb79974f4ea777e4c0ca631d8fa8834c34d22"), looks := false }, kinds := [], alts := [], laidByText := true, laidKinds := [.sentinel], laidTests := true, laidLooks := .later }
def LabelsParseCardSaid : Prop := Claim7.holds Tryd.pinned (.plain (OpenSpec.ofChange labelsParseSpec)) labelsParseCard

/-- THE TIED CARD OF 'lysimeterlaw11.LabelsBytes'. -/
def labelsBytesCard : Claim7 := { stood := { row := labelsBytesRow, standIns := [], harness := (true, "79b33d0637f02b4c11730adcb40bb79974f4ea777e4c0ca631d8fa8834c34d22"), looks := false }, kinds := [], alts := [], laidByText := true, laidKinds := [.sentinel], laidTests := true, laidLooks := .later }
def LabelsBytesCardSaid : Prop := Claim7.holds Tryd.pinned (.plain (OpenSpec.ofChange labelsBytesSpec)) labelsBytesCard

/-- THE TIED CARD OF 'lysimeterlaw12.MatchTexts'. -/
def matchTextsCard : Claim7 := { stood := { row := matchTextsRow, standIns := [], harness := (true, "79b33d0637f02b4c11730adcb40bb79974f4ea777e4c0ca631d8fa8834c34d22"), looks := false }, kinds := [], alts := [], laidByText := true, laidKinds := [.sentinel], laidTests := true, laidLooks := .later }
def MatchTextsCardSaid : Prop := Claim7.holds Tryd.pinned (.plain (OpenSpec.ofChange matchTextsSpec)) matchTextsCard

/-- THE TIED CARD OF 'lysimeterlaw12.MatchParses'. -/
def matchParsesCard : Claim7 := { stood := { row := matchParsesRow, standIns := [], harness := (true, "79b33d0637f02b4c11730adcb40bb79974f4ea777e4c0ca631d8fa8834c34d22"), looks := false }, kinds := [], alts := [], laidByText := true, laidKinds := [.sentinel], laidTests := true, laidLooks := .later }
def MatchParsesCardSaid : Prop := Claim7.holds Tryd.pinned (.plain (OpenSpec.ofChange matchParsesSpec)) matchParsesCard

/-- THE SECOND FORM's CARD OF 'lysimeterlaw11.LabelsText'. -/
def labelsTextUptoCard : Claim7 := { stood := { row := labelsTextUptoRow, standIns := [], harness := (true, "79b33d0637f02b4c11730adcb40bb79974f4ea777e4c0ca631d8fa8834c34d22"), looks := false }, kinds := [], alts := [], laidByText := true, laidKinds := [.sentinel], laidTests := true, laidLooks := .later }
def LabelsTextUptoCardSaid : Prop := Claim7.holds Tryd.pinned (.plain (OpenSpec.upto labelsTextSpec)) labelsTextUptoCard

/-- THE SECOND FORM's CARD OF 'lysimeterlaw11.LabelsParse'. -/
def labelsParseUptoCard : Claim7 := { stood := { row := labelsParseUptoRow, standIns := [], harness := (true, "79b33d0637f02b4c11730adcb40bb79974f4ea777e4c0ca631d8fa8834c34d22"), looks := false }, kinds := [], alts := [], laidByText := true, laidKinds := [.sentinel], laidTests := true, laidLooks := .later }
def LabelsParseUptoCardSaid : Prop := Claim7.holds Tryd.pinned (.plain (OpenSpec.upto labelsParseSpec)) labelsParseUptoCard

/-- THE SECOND FORM's CARD OF 'lysimeterlaw11.LabelsBytes'. -/
def labelsBytesUptoCard : Claim7 := { stood := { row := labelsBytesUptoRow, standIns := [], harness := (true, "79b33d0637f02b4c11730adcb40bb79974f4ea777e4c0ca631d8fa8834c34d22"), looks := false }, kinds := [], alts := [], laidByText := true, laidKinds := [.sentinel], laidTests := true, laidLooks := .later }
def LabelsBytesUptoCardSaid : Prop := Claim7.holds Tryd.pinned (.plain (OpenSpec.upto labelsBytesSpec)) labelsBytesUptoCard

/-- THE SECOND FORM's CARD OF 'lysimeterlaw12.MatchTexts'. -/
def matchTextsUptoCard : Claim7 := { stood := { row := matchTextsUptoRow, standIns := [], harness := (true, "79b33d0637f02b4c11730adcb40bb79974f4ea777e4c0ca631d8fa8834c34d22"), looks := false }, kinds := [], alts := [], laidByText := true, laidKinds := [.sentinel], laidTests := true, laidLooks := .later }
def MatchTextsUptoCardSaid : Prop := Claim7.holds Tryd.pinned (.plain (OpenSpec.upto matchTextsSpec)) matchTextsUptoCard

/-- THE SECOND FORM's CARD OF 'lysimeterlaw12.MatchParses'. -/
def matchParsesUptoCard : Claim7 := { stood := { row := matchParsesUptoRow, standIns := [], harness := (true, "79b33d0637f02b4c11730adcb40bb79974f4ea777e4c0ca631d8fa8834c34d22"), looks := false }, kinds := [], alts := [], laidByText := true, laidKinds := [.sentinel], laidTests := true, laidLooks := .later }
def MatchParsesUptoCardSaid : Prop := Claim7.holds Tryd.pinned (.plain (OpenSpec.upto matchParsesSpec)) matchParsesUptoCard
end Rows
end Go.Proofs.YtlicnadbccjbjaaDoor
