/-
  DERIVED. GIVEN WITH THE SEED: THE CARDS: each row of YtpabackkapgkpaaGreatDoorRows.lean that lists a variable, with what it lists TIED to the program's text (the seventh form; the later family's looks); each row that meets fmt, with fmt's text TOLD by the authors' own Lean function (tested against real Go, not proved from fmt's source: count such statements apart). THE CARD IS WHAT COUNTS. Prove the row's statement (the work); the ties are given (YtpabackkapgkpaaGreatDoorTie.lean); close each card by the builder's one call (the guide's Derived/Test/ToyasCard.lean, 'card_holds'). Laid BY PROGRAM, IN A SANDBOX (cutbox-door.mjs). By AI agents, Wed Nov 11 2026. No macro, syntax, notation, axiom, sorry.
-/
import Derived.Test.YtpabackkapgkpaaGreatDoorRows
import GoSem.ClaimSeven
namespace Go.Proofs.YtpabackkapgkpaaGreatDoor
namespace Rows

/-- THE TIED CARD OF 'bowdlerlaw22.HtmlForest'. -/
def htmlForestCard : Claim7 := { stood := { row := htmlForestRow, standIns := [], harness := (true, "6c750d67e7c0db9289602f88291ee567b8ae6a7af30e102f24a586b85f3a62f4"), looks := false }, kinds := [], alts := [], laidByText := true, laidKinds := [.data, .data, .data, .data, .listed, .data, .pinned], laidTests := true, laidLooks := .later }
def HtmlForestCardSaid : Prop := Claim7.holds Tryz.pinned (.plain (OpenSpec.ofChange htmlForestSpec)) htmlForestCard

/-- THE TIED CARD OF 'bowdlerlaw22.HtmlWords'. -/
def htmlWordsCard : Claim7 := { stood := { row := htmlWordsRow, standIns := [], harness := (true, "6c750d67e7c0db9289602f88291ee567b8ae6a7af30e102f24a586b85f3a62f4"), looks := false }, kinds := [], alts := [], laidByText := true, laidKinds := [.data, .data, .data, .data, .listed, .data, .pinned], laidTests := true, laidLooks := .later }
def HtmlWordsCardSaid : Prop := Claim7.holds Tryz.pinned (.plain (OpenSpec.ofChange htmlWordsSpec)) htmlWordsCard

/-- THE TIED CARD OF 'bowdlerlaw22.HtmlRaw'. -/
def htmlRawCard : Claim7 := { stood := { row := htmlRawRow, standIns := [], harness := (true, "6c750d67e7c0db9289602f88291ee567b8ae6a7af30e102f24a586b85f3a62f4"), looks := false }, kinds := [], alts := [], laidByText := true, laidKinds := [.data, .data, .data, .data, .listed, .data, .pinned], laidTests := true, laidLooks := .later }
def HtmlRawCardSaid : Prop := Claim7.holds Tryz.pinned (.plain (OpenSpec.ofChange htmlRawSpec)) htmlRawCard

/-- THE TIED CARD OF 'bowdlerlaw22.HtmlNotes'. -/
def htmlNotesCard : Claim7 := { stood := { row := htmlNotesRow, standIns := [], harness := (true, "6c750d67e7c0db9289602f88291ee567b8ae6a7af30e102f24a586b85f3a62f4"), looks := false }, kinds := [], alts := [], laidByText := true, laidKinds := [.data, .data, .data, .data, .listed, .data, .pinned], laidTests := true, laidLooks := .later }
def HtmlNotesCardSaid : Prop := Claim7.holds Tryz.pinned (.plain (OpenSpec.ofChange htmlNotesSpec)) htmlNotesCard

/-- THE TIED CARD OF 'bowdlerlaw22.HtmlTokens'. -/
def htmlTokensCard : Claim7 := { stood := { row := htmlTokensRow, standIns := [], harness := (true, "6c750d67e7c0db9289602f88291ee567b8ae6a7af30e102f24a586b85f3a62f4"), looks := false }, kinds := [], alts := [], laidByText := true, laidKinds := [.data, .data, .data, .data, .listed, .data, .pinned], laidTests := true, laidLooks := .later }
def HtmlTokensCardSaid : Prop := Claim7.holds Tryz.pinned (.plain (OpenSpec.ofChange htmlTokensSpec)) htmlTokensCard

/-- THE TIED CARD OF 'bowdlerlaw22.HtmlLists'. -/
def htmlListsCard : Claim7 := { stood := { row := htmlListsRow, standIns := [], harness := (true, "6c750d67e7c0db9289602f88291ee567b8ae6a7af30e102f24a586b85f3a62f4"), looks := false }, kinds := [], alts := [], laidByText := true, laidKinds := [.data, .data, .data, .data, .listed, .data, .pinned], laidTests := true, laidLooks := .later }
def HtmlListsCardSaid : Prop := Claim7.holds Tryz.pinned (.plain (OpenSpec.ofChange htmlListsSpec)) htmlListsCard

/-- THE TIED CARD OF 'bowdlerlaw22.HtmlHeads'. -/
def htmlHeadsCard : Claim7 := { stood := { row := htmlHeadsRow, standIns := [], harness := (true, "6c750d67e7c0db9289602f88291ee567b8ae6a7af30e102f24a586b85f3a62f4"), looks := false }, kinds := [], alts := [], laidByText := true, laidKinds := [.data, .data, .data, .data, .listed, .data, .pinned], laidTests := true, laidLooks := .later }
def HtmlHeadsCardSaid : Prop := Claim7.holds Tryz.pinned (.plain (OpenSpec.ofChange htmlHeadsSpec)) htmlHeadsCard

/-- THE TIED CARD OF 'bowdlerlaw22.HtmlCodes'. -/
def htmlCodesCard : Claim7 := { stood := { row := htmlCodesRow, standIns := [], harness := (true, "6c750d67e7c0db9289602f88291ee567b8ae6a7af30e102f24a586b85f3a62f4"), looks := false }, kinds := [], alts := [], laidByText := true, laidKinds := [.data, .data, .data, .data, .listed, .data, .pinned], laidTests := true, laidLooks := .later }
def HtmlCodesCardSaid : Prop := Claim7.holds Tryz.pinned (.plain (OpenSpec.ofChange htmlCodesSpec)) htmlCodesCard

/-- THE TIED CARD OF 'bowdlerlaw22.HtmlImages'. -/
def htmlImagesCard : Claim7 := { stood := { row := htmlImagesRow, standIns := [], harness := (true, "6c750d67e7c0db9289602f88291ee567b8ae6a7af30e102f24a586b85f3a62f4"), looks := false }, kinds := [], alts := [], laidByText := true, laidKinds := [.data, .data, .data, .data, .listed, .data, .pinned], laidTests := true, laidLooks := .later }
def HtmlImagesCardSaid : Prop := Claim7.holds Tryz.pinned (.plain (OpenSpec.ofChange htmlImagesSpec)) htmlImagesCard

/-- THE TIED CARD OF 'bowdlerlaw22.HtmlSpans'. -/
def htmlSpansCard : Claim7 := { stood := { row := htmlSpansRow, standIns := [], harness := (true, "6c750d67e7c0db9289602f88291ee567b8ae6a7af30e102f24a586b85f3a62f4"), looks := false }, kinds := [], alts := [], laidByText := true, laidKinds := [.data, .data, .data, .data, .listed, .data, .pinned], laidTests := true, laidLooks := .later }
def HtmlSpansCardSaid : Prop := Claim7.holds Tryz.pinned (.plain (OpenSpec.ofChange htmlSpansSpec)) htmlSpansCard

/-- THE SECOND FORM's CARD OF 'bowdlerlaw22.HtmlForest'. -/
def htmlForestUptoCard : Claim7 := { stood := { row := htmlForestUptoRow, standIns := [], harness := (true, "6c750d67e7c0db9289602f88291ee567b8ae6a7af30e102f24a586b85f3a62f4"), looks := false }, kinds := [], alts := [], laidByText := true, laidKinds := [.data, .data, .data, .data, .listed, .data, .pinned], laidTests := true, laidLooks := .later }
def HtmlForestUptoCardSaid : Prop := Claim7.holds Tryz.pinned (.plain (OpenSpec.upto htmlForestSpec)) htmlForestUptoCard

/-- THE SECOND FORM's CARD OF 'bowdlerlaw22.HtmlWords'. -/
def htmlWordsUptoCard : Claim7 := { stood := { row := htmlWordsUptoRow, standIns := [], harness := (true, "6c750d67e7c0db9289602f88291ee567b8ae6a7af30e102f24a586b85f3a62f4"), looks := false }, kinds := [], alts := [], laidByText := true, laidKinds := [.data, .data, .data, .data, .listed, .data, .pinned], laidTests := true, laidLooks := .later }
def HtmlWordsUptoCardSaid : Prop := Claim7.holds Tryz.pinned (.plain (OpenSpec.upto htmlWordsSpec)) htmlWordsUptoCard

/-- THE SECOND FORM's CARD OF 'bowdlerlaw22.HtmlRaw'. -/
def htmlRawUptoCard : Claim7 := { stood := { row := htmlRawUptoRow, standIns := [], harness := (true, "6c750d67e7c0db9289602f88291ee567b8ae6a7af30e102f24a586b85f3a62f4"), looks := false }, kinds := [], alts := [], laidByText := true, laidKinds := [.data, .data, .data, .data, .listed, .data, .pinned], laidTests := true, laidLooks := .later }
def HtmlRawUptoCardSaid : Prop := Claim7.holds Tryz.pinned (.plain (OpenSpec.upto htmlRawSpec)) htmlRawUptoCard

/-- THE SECOND FORM's CARD OF 'bowdlerlaw22.HtmlNotes'. -/
def htmlNotesUptoCard : Claim7 := { stood := { row := htmlNotesUptoRow, standIns := [], harness := (true, "6c750d67e7c0db9289602f88291ee567b8ae6a7af30e102f24a586b85f3a62f4"), looks := false }, kinds := [], alts := [], laidByText := true, laidKinds := [.data, .data, .data, .data, .listed, .data, .pinned], laidTests := true, laidLooks := .later }
def HtmlNotesUptoCardSaid : Prop := Claim7.holds Tryz.pinned (.plain (OpenSpec.upto htmlNotesSpec)) htmlNotesUptoCard

/-- THE SECOND FORM's CARD OF 'bowdlerlaw22.HtmlTokens'. -/
def htmlTokensUptoCard : Claim7 := { stood := { row := htmlTokensUptoRow, standIns := [], harness := (true, "6c750d67e7c0db9289602f88291ee567b8ae6a7af30e102f24a586b85f3a62f4"), looks := false }, kinds := [], alts := [], laidByText := true, laidKinds := [.data, .data, .data, .data, .listed, .data, .pinned], laidTests := true, laidLooks := .later }
def HtmlTokensUptoCardSaid : Prop := Claim7.holds Tryz.pinned (.plain (OpenSpec.upto htmlTokensSpec)) htmlTokensUptoCard

/-- THE SECOND FORM's CARD OF 'bowdlerlaw22.HtmlLists'. -/
def htmlListsUptoCard : Claim7 := { stood := { row := htmlListsUptoRow, standIns := [], harness := (true, "6c750d67e7c0db9289602f88291ee567b8ae6a7af30e102f24a586b85f3a62f4"), looks := false }, kinds := [], alts := [], laidByText := true, laidKinds := [.data, .data, .data, .data, .listed, .data, .pinned], laidTests := true, laidLooks := .later }
def HtmlListsUptoCardSaid : Prop := Claim7.holds Tryz.pinned (.plain (OpenSpec.upto htmlListsSpec)) htmlListsUptoCard

/-- THE SECOND FORM's CARD OF 'bowdlerlaw22.HtmlHeads'. -/
def htmlHeadsUptoCard : Claim7 := { stood := { row := htmlHeadsUptoRow, standIns := [], harness := (true, "6c750d67e7c0db9289602f88291ee567b8ae6a7af30e102f24a586b85f3a62f4"), looks := false }, kinds := [], alts := [], laidByText := true, laidKinds := [.data, .data, .data, .data, .listed, .data, .pinned], laidTests := true, laidLooks := .later }
def HtmlHeadsUptoCardSaid : Prop := Claim7.holds Tryz.pinned (.plain (OpenSpec.upto htmlHeadsSpec)) htmlHeadsUptoCard

/-- THE SECOND FORM's CARD OF 'bowdlerlaw22.HtmlCodes'. -/
def htmlCodesUptoCard : Claim7 := { stood := { row := htmlCodesUptoRow, standIns := [], harness := (true, "6c750d67e7c0db9289602f88291ee567b8ae6a7af30e102f24a586b85f3a62f4"), looks := false }, kinds := [], alts := [], laidByText := true, laidKinds := [.data, .data, .data, .data, .listed, .data, .pinned], laidTests := true, laidLooks := .later }
def HtmlCodesUptoCardSaid : Prop := Claim7.holds Tryz.pinned (.plain (OpenSpec.upto htmlCodesSpec)) htmlCodesUptoCard

/-- THE SECOND FORM's CARD OF 'bowdlerlaw22.HtmlImages'. -/
def htmlImagesUptoCard : Claim7 := { stood := { row := htmlImagesUptoRow, standIns := [], harness := (true, "6c750d67e7c0db9289602f88291ee567b8ae6a7af30e102f24a586b85f3a62f4"), looks := false }, kinds := [], alts := [], laidByText := true, laidKinds := [.data, .data, .data, .data, .listed, .data, .pinned], laidTests := true, laidLooks := .later }
def HtmlImagesUptoCardSaid : Prop := Claim7.holds Tryz.pinned (.plain (OpenSpec.upto htmlImagesSpec)) htmlImagesUptoCard

/-- THE SECOND FORM's CARD OF 'bowdlerlaw22.HtmlSpans'. -/
def htmlSpansUptoCard : Claim7 := { stood := { row := htmlSpansUptoRow, standIns := [], harness := (true, "6c750d67e7c0db9289602f88291ee567b8ae6a7af30e102f24a586b85f3a62f4"), looks := false }, kinds := [], alts := [], laidByText := true, laidKinds := [.data, .data, .data, .data, .listed, .data, .pinned], laidTests := true, laidLooks := .later }
def HtmlSpansUptoCardSaid : Prop := Claim7.holds Tryz.pinned (.plain (OpenSpec.upto htmlSpansSpec)) htmlSpansUptoCard
end Rows
end Go.Proofs.YtpabackkapgkpaaGreatDoor
