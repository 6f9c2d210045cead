/-
  DERIVED. GIVEN WITH THE SEED: THE CARDS: each row of YtplobpelhcagpaaDoorRows.lean that lists a variable, with what it lists TIED to the program's text (the seventh form; the later family's looks); each row that meets fmt, with fmt's text TOLD by the authors' own Lean function (tested against real Go, not proved from fmt's source: count such statements apart). THE CARD IS WHAT COUNTS. Prove the row's statement (the work); the ties are given (YtplobpelhcagpaaDoorTie.lean); close each card by the builder's one call (the guide's Derived/Test/ToyasCard.lean, 'card_holds'). Laid BY PROGRAM, IN A SANDBOX (cutbox-door.mjs). By AI agents, Wed Nov 11 2026. No macro, syntax, notation, axiom, sorry.
-/
import Derived.Test.YtplobpelhcagpaaDoorRows
import GoSem.ClaimSeven
namespace Go.Proofs.YtplobpelhcagpaaDoor
namespace Rows

/-- THE TIED CARD OF 'inkhornlaw19.MultiDecodes'. -/
def multiDecodesCard : Claim7 := { stood := { row := multiDecodesRow, standIns := [], harness := (true, "1f63706002ac4f120ea79e7820125b651bfdd7798ea9ce455b7b94b0cb8a45ed"), looks := false }, kinds := [], alts := [], laidByText := true, laidKinds := [.data, .pinned], laidTests := true, laidLooks := .later }
def MultiDecodesCardSaid : Prop := Claim7.holds Tryd.pinned (.plain (OpenSpec.ofChange multiDecodesSpec)) multiDecodesCard

/-- THE TIED CARD OF 'inkhornlaw19.MultiCodes'. -/
def multiCodesCard : Claim7 := { stood := { row := multiCodesRow, standIns := [], harness := (true, "1f63706002ac4f120ea79e7820125b651bfdd7798ea9ce455b7b94b0cb8a45ed"), looks := false }, kinds := [], alts := [], laidByText := true, laidKinds := [.data, .pinned], laidTests := true, laidLooks := .later }
def MultiCodesCardSaid : Prop := Claim7.holds Tryd.pinned (.plain (OpenSpec.ofChange multiCodesSpec)) multiCodesCard

/-- THE TIED CARD OF 'inkhornlaw19.MultiRest'. -/
def multiRestCard : Claim7 := { stood := { row := multiRestRow, standIns := [], harness := (true, "1f63706002ac4f120ea79e7820125b651bfdd7798ea9ce455b7b94b0cb8a45ed"), looks := false }, kinds := [], alts := [], laidByText := true, laidKinds := [.data, .pinned], laidTests := true, laidLooks := .later }
def MultiRestCardSaid : Prop := Claim7.holds Tryd.pinned (.plain (OpenSpec.ofChange multiRestSpec)) multiRestCard

/-- THE TIED CARD OF 'inkhornlaw19.MultiAgain'. -/
def multiAgainCard : Claim7 := { stood := { row := multiAgainRow, standIns := [], harness := (true, "1f63706002ac4f120ea79e7820125b651bfdd7798ea9ce455b7b94b0cb8a45ed"), looks := false }, kinds := [], alts := [], laidByText := true, laidKinds := [.data, .pinned], laidTests := true, laidLooks := .later }
def MultiAgainCardSaid : Prop := Claim7.holds Tryd.pinned (.plain (OpenSpec.ofChange multiAgainSpec)) multiAgainCard

/-- THE TIED CARD OF 'inkhornlaw19.MultiNil'. -/
def multiNilCard : Claim7 := { stood := { row := multiNilRow, standIns := [], harness := (true, "1f63706002ac4f120ea79e7820125b651bfdd7798ea9ce455b7b94b0cb8a45ed"), looks := false }, kinds := [], alts := [], laidByText := true, laidKinds := [.data, .pinned], laidTests := true, laidLooks := .later }
def MultiNilCardSaid : Prop := Claim7.holds Tryd.pinned (.plain (OpenSpec.ofChange multiNilSpec)) multiNilCard

/-- THE TIED CARD OF 'inkhornlaw19.MultiSteps'. -/
def multiStepsCard : Claim7 := { stood := { row := multiStepsRow, standIns := [], harness := (true, "1f63706002ac4f120ea79e7820125b651bfdd7798ea9ce455b7b94b0cb8a45ed"), looks := false }, kinds := [], alts := [], laidByText := true, laidKinds := [.data, .pinned], laidTests := true, laidLooks := .later }
def MultiStepsCardSaid : Prop := Claim7.holds Tryd.pinned (.plain (OpenSpec.ofChange multiStepsSpec)) multiStepsCard

/-- THE SECOND FORM's CARD OF 'inkhornlaw19.MultiDecodes'. -/
def multiDecodesUptoCard : Claim7 := { stood := { row := multiDecodesUptoRow, standIns := [], harness := (true, "1f63706002ac4f120ea79e7820125b651bfdd7798ea9ce455b7b94b0cb8a45ed"), looks := false }, kinds := [], alts := [], laidByText := true, laidKinds := [.data, .pinned], laidTests := true, laidLooks := .later }
def MultiDecodesUptoCardSaid : Prop := Claim7.holds Tryd.pinned (.plain (OpenSpec.upto multiDecodesSpec)) multiDecodesUptoCard

/-- THE SECOND FORM's CARD OF 'inkhornlaw19.MultiCodes'. -/
def multiCodesUptoCard : Claim7 := { stood := { row := multiCodesUptoRow, standIns := [], harness := (true, "1f63706002ac4f120ea79e7820125b651bfdd7798ea9ce455b7b94b0cb8a45ed"), looks := false }, kinds := [], alts := [], laidByText := true, laidKinds := [.data, .pinned], laidTests := true, laidLooks := .later }
def MultiCodesUptoCardSaid : Prop := Claim7.holds Tryd.pinned (.plain (OpenSpec.upto multiCodesSpec)) multiCodesUptoCard

/-- THE SECOND FORM's CARD OF 'inkhornlaw19.MultiRest'. -/
def multiRestUptoCard : Claim7 := { stood := { row := multiRestUptoRow, standIns := [], harness := (true, "1f63706002ac4f120ea79e7820125b651bfdd7798ea9ce455b7b94b0cb8a45ed"), looks := false }, kinds := [], alts := [], laidByText := true, laidKinds := [.data, .pinned], laidTests := true, laidLooks := .later }
def MultiRestUptoCardSaid : Prop := Claim7.holds Tryd.pinned (.plain (OpenSpec.upto multiRestSpec)) multiRestUptoCard

/-- THE SECOND FORM's CARD OF 'inkhornlaw19.MultiAgain'. -/
def multiAgainUptoCard : Claim7 := { stood := { row := multiAgainUptoRow, standIns := [], harness := (true, "1f63706002ac4f120ea79e7820125b651bfdd7798ea9ce455b7b94b0cb8a45ed"), looks := false }, kinds := [], alts := [], laidByText := true, laidKinds := [.data, .pinned], laidTests := true, laidLooks := .later }
def MultiAgainUptoCardSaid : Prop := Claim7.holds Tryd.pinned (.plain (OpenSpec.upto multiAgainSpec)) multiAgainUptoCard

/-- THE SECOND FORM's CARD OF 'inkhornlaw19.MultiNil'. -/
def multiNilUptoCard : Claim7 := { stood := { row := multiNilUptoRow, standIns := [], harness := (true, "1f63706002ac4f120ea79e7820125b651bfdd7798ea9ce455b7b94b0cb8a45ed"), looks := false }, kinds := [], alts := [], laidByText := true, laidKinds := [.data, .pinned], laidTests := true, laidLooks := .later }
def MultiNilUptoCardSaid : Prop := Claim7.holds Tryd.pinned (.plain (OpenSpec.upto multiNilSpec)) multiNilUptoCard

/-- THE SECOND FORM's CARD OF 'inkhornlaw19.MultiSteps'. -/
def multiStepsUptoCard : Claim7 := { stood := { row := multiStepsUptoRow, standIns := [], harness := (true, "1f63706002ac4f120ea79e7820125b651bfdd7798ea9ce455b7b94b0cb8a45ed"), looks := false }, kinds := [], alts := [], laidByText := true, laidKinds := [.data, .pinned], laidTests := true, laidLooks := .later }
def MultiStepsUptoCardSaid : Prop := Claim7.holds Tryd.pinned (.plain (OpenSpec.upto multiStepsSpec)) multiStepsUptoCard
end Rows
end Go.Proofs.YtplobpelhcagpaaDoor
