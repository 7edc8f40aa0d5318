/-
  DERIVED. GIVEN WITH THE SEED: THE CARDS: each row of YtkplnimjliabnaaDoorRows.lean that lists a variable, with what it lists TIED to the program's text (the seventh form; the later family's looks); each row that meets fmt, with fmt's text TOLD by the authors' own Lean function (tested against real Go, not proved from fmt's source: count such statements apart). THE CARD IS WHAT COUNTS. Prove the row's statement (the work); the ties are given (YtkplnimjliabnaaDoorTie.lean); close each card by the builder's one call (the guide's Derived/Test/ToyasCard.lean, 'card_holds'). Laid BY PROGRAM, IN A SANDBOX (cutbox-door.mjs). By AI agents, Wed Nov 11 2026. No macro, syntax, notation, axiom, sorry.
-/
import Derived.Test.YtkplnimjliabnaaDoorRows
import GoSem.ClaimSeven
namespace Go.Proofs.YtkplnimjliabnaaDoor
namespace Rows

/-- THE TIED CARD OF 'bowdlerlaw18.NoteIds'. -/
def noteIdsCard : Claim7 := { stood := { row := noteIdsRow, standIns := [], harness := (true, "215ba5e6b74e8725e1a43ab93a1478164a9cbc0c3d678b9c83209866f54d944d"), looks := false }, kinds := [], alts := [], laidByText := true, laidKinds := [.data, .data, .data], laidTests := true, laidLooks := .later }
def NoteIdsCardSaid : Prop := Claim7.holds Tryd.pinned (.plain (OpenSpec.ofChange noteIdsSpec)) noteIdsCard

/-- THE TIED CARD OF 'bowdlerlaw18.NotePlays'. -/
def notePlaysCard : Claim7 := { stood := { row := notePlaysRow, standIns := [], harness := (true, "215ba5e6b74e8725e1a43ab93a1478164a9cbc0c3d678b9c83209866f54d944d"), looks := false }, kinds := [], alts := [], laidByText := true, laidKinds := [.data, .data, .data], laidTests := true, laidLooks := .later }
def NotePlaysCardSaid : Prop := Claim7.holds Tryd.pinned (.plain (OpenSpec.ofChange notePlaysSpec)) notePlaysCard

/-- THE TIED CARD OF 'bowdlerlaw18.NoteOrder'. -/
def noteOrderCard : Claim7 := { stood := { row := noteOrderRow, standIns := [], harness := (true, "215ba5e6b74e8725e1a43ab93a1478164a9cbc0c3d678b9c83209866f54d944d"), looks := false }, kinds := [], alts := [], laidByText := true, laidKinds := [.data, .data, .data], laidTests := true, laidLooks := .later }
def NoteOrderCardSaid : Prop := Claim7.holds Tryd.pinned (.plain (OpenSpec.ofChange noteOrderSpec)) noteOrderCard

/-- THE SECOND FORM's CARD OF 'bowdlerlaw18.NoteIds'. -/
def noteIdsUptoCard : Claim7 := { stood := { row := noteIdsUptoRow, standIns := [], harness := (true, "215ba5e6b74e8725e1a43ab93a1478164a9cbc0c3d678b9c83209866f54d944d"), looks := false }, kinds := [], alts := [], laidByText := true, laidKinds := [.data, .data, .data], laidTests := true, laidLooks := .later }
def NoteIdsUptoCardSaid : Prop := Claim7.holds Tryd.pinned (.plain (OpenSpec.upto noteIdsSpec)) noteIdsUptoCard

/-- THE SECOND FORM's CARD OF 'bowdlerlaw18.NotePlays'. -/
def notePlaysUptoCard : Claim7 := { stood := { row := notePlaysUptoRow, standIns := [], harness := (true, "215ba5e6b74e8725e1a43ab93a1478164a9cbc0c3d678b9c83209866f54d944d"), looks := false }, kinds := [], alts := [], laidByText := true, laidKinds := [.data, .data, .data], laidTests := true, laidLooks := .later }
def NotePlaysUptoCardSaid : Prop := Claim7.holds Tryd.pinned (.plain (OpenSpec.upto notePlaysSpec)) notePlaysUptoCard

/-- THE SECOND FORM's CARD OF 'bowdlerlaw18.NoteOrder'. -/
def noteOrderUptoCard : Claim7 := { stood := { row := noteOrderUptoRow, standIns := [], harness := (true, "215ba5e6b74e8725e1a43ab93a1478164a9cbc0c3d678b9c83209866f54d944d"), looks := false }, kinds := [], alts := [], laidByText := true, laidKinds := [.data, .data, .data], laidTests := true, laidLooks := .later }
def NoteOrderUptoCardSaid : Prop := Claim7.holds Tryd.pinned (.plain (OpenSpec.upto noteOrderSpec)) noteOrderUptoCard
end Rows
end Go.Proofs.YtkplnimjliabnaaDoor
