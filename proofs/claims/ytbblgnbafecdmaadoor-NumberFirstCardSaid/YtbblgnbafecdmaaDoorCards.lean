/-
  DERIVED. GIVEN WITH THE SEED: THE CARDS: each row of YtbblgnbafecdmaaDoorRows.lean that lists a variable, with what it lists TIED to the program's text (the seventh form; the later family's looks); each row that meets fmt, with fmt's text TOLD by the authors' own Lean function (tested against real Go, not proved from fmt's source: count such statements apart). THE CARD IS WHAT COUNTS. Prove the row's statement (the work); the ties are given (YtbblgnbafecdmaaDoorTie.lean); close each card by the builder's one call (the guide's Derived/Test/ToyasCard.lean, 'card_holds'). Laid BY PROGRAM, IN A SANDBOX (cutbox-door.mjs). By AI agents, Wed Nov 11 2026. No macro, syntax, notation, axiom, sorry.
-/
import Derived.Test.YtbblgnbafecdmaaDoorRows
import GoSem.ClaimSeven
namespace Go.Proofs.YtbblgnbafecdmaaDoor
namespace Rows

/-- THE TIED CARD OF 'bowdlerlaw17.NumberFirst'. -/
def numberFirstCard : Claim7 := { stood := { row := numberFirstRow, standIns := [], harness := (true, "4d6c30761047419cfb8133ead4fcaf5fe5706b7005e2fe79c11dccdaef992017"), looks := false }, kinds := [], alts := [], laidByText := true, laidKinds := [.data, .data, .data, .data, .pinned], laidTests := true, laidLooks := .later }
def NumberFirstCardSaid : Prop := Claim7.holds Tryd.pinned (.plain (OpenSpec.ofChange numberFirstSpec)) numberFirstCard

/-- THE TIED CARD OF 'bowdlerlaw17.NumberParts'. -/
def numberPartsCard : Claim7 := { stood := { row := numberPartsRow, standIns := [], harness := (true, "4d6c30761047419cfb8133ead4fcaf5fe5706b7005e2fe79c11dccdaef992017"), looks := false }, kinds := [], alts := [], laidByText := true, laidKinds := [.data, .data, .data, .data, .pinned], laidTests := true, laidLooks := .later }
def NumberPartsCardSaid : Prop := Claim7.holds Tryd.pinned (.plain (OpenSpec.ofChange numberPartsSpec)) numberPartsCard

/-- THE SECOND FORM's CARD OF 'bowdlerlaw17.NumberFirst'. -/
def numberFirstUptoCard : Claim7 := { stood := { row := numberFirstUptoRow, standIns := [], harness := (true, "4d6c30761047419cfb8133ead4fcaf5fe5706b7005e2fe79c11dccdaef992017"), looks := false }, kinds := [], alts := [], laidByText := true, laidKinds := [.data, .data, .data, .data, .pinned], laidTests := true, laidLooks := .later }
def NumberFirstUptoCardSaid : Prop := Claim7.holds Tryd.pinned (.plain (OpenSpec.upto numberFirstSpec)) numberFirstUptoCard

/-- THE SECOND FORM's CARD OF 'bowdlerlaw17.NumberParts'. -/
def numberPartsUptoCard : Claim7 := { stood := { row := numberPartsUptoRow, standIns := [], harness := (true, "4d6c30761047419cfb8133ead4fcaf5fe5706b7005e2fe79c11dccdaef992017"), looks := false }, kinds := [], alts := [], laidByText := true, laidKinds := [.data, .data, .data, .data, .pinned], laidTests := true, laidLooks := .later }
def NumberPartsUptoCardSaid : Prop := Claim7.holds Tryd.pinned (.plain (OpenSpec.upto numberPartsSpec)) numberPartsUptoCard
end Rows
end Go.Proofs.YtbblgnbafecdmaaDoor
