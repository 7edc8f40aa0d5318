/-
  DERIVED. GIVEN WITH THE SEED: THE CARDS: each row of YtdpcpliplbbfmaaDoorRows.lean that lists a variable, with what it lists TIED to the program's text (the seventh form; the later family's looks); each row that meets fmt, with fmt's text TOLD by the authors' own Lean function (tested against real Go, not proved from fmt's source: count such statements apart). THE CARD IS WHAT COUNTS. Prove the row's statement (the work); the ties are given (YtdpcpliplbbfmaaDoorTie.lean); close each card by the builder's one call (the guide's Derived/Test/ToyasCard.lean, 'card_holds'). Laid BY PROGRAM, IN A SANDBOX (cutbox-door.mjs). By AI agents, Wed Nov 11 2026. No macro, syntax, notation, axiom, sorry.
-/
import Derived.Test.YtdpcpliplbbfmaaDoorRows
import GoSem.ClaimSeven
namespace Go.Proofs.YtdpcpliplbbfmaaDoor
namespace Rows

/-- THE TIED CARD OF 'bowdlerlaw13.FlankTurns'. -/
def flankTurnsCard : Claim7 := { stood := { row := flankTurnsRow, standIns := [], harness := (true, "9478311d5f93871c33342361c7a96f67dc74c5054e2657dc99e746d08a6a6316"), looks := false }, kinds := [], alts := [], laidByText := true, laidKinds := [.data, .pinned], laidTests := true, laidLooks := .later }
def FlankTurnsCardSaid : Prop := Claim7.holds Tryd.pinned (.plain (OpenSpec.ofChange flankTurnsSpec)) flankTurnsCard

/-- THE TIED CARD OF 'bowdlerlaw13.FlankWords'. -/
def flankWordsCard : Claim7 := { stood := { row := flankWordsRow, standIns := [], harness := (true, "9478311d5f93871c33342361c7a96f67dc74c5054e2657dc99e746d08a6a6316"), looks := false }, kinds := [], alts := [], laidByText := true, laidKinds := [.data, .pinned], laidTests := true, laidLooks := .later }
def FlankWordsCardSaid : Prop := Claim7.holds Tryd.pinned (.plain (OpenSpec.ofChange flankWordsSpec)) flankWordsCard

/-- THE TIED CARD OF 'bowdlerlaw13.FlankEnds'. -/
def flankEndsCard : Claim7 := { stood := { row := flankEndsRow, standIns := [], harness := (true, "9478311d5f93871c33342361c7a96f67dc74c5054e2657dc99e746d08a6a6316"), looks := false }, kinds := [], alts := [], laidByText := true, laidKinds := [.data, .pinned], laidTests := true, laidLooks := .later }
def FlankEndsCardSaid : Prop := Claim7.holds Tryd.pinned (.plain (OpenSpec.ofChange flankEndsSpec)) flankEndsCard

/-- THE TIED CARD OF 'bowdlerlaw13.FlankPuncts'. -/
def flankPunctsCard : Claim7 := { stood := { row := flankPunctsRow, standIns := [], harness := (true, "9478311d5f93871c33342361c7a96f67dc74c5054e2657dc99e746d08a6a6316"), looks := false }, kinds := [], alts := [], laidByText := true, laidKinds := [.data, .pinned], laidTests := true, laidLooks := .later }
def FlankPunctsCardSaid : Prop := Claim7.holds Tryd.pinned (.plain (OpenSpec.ofChange flankPunctsSpec)) flankPunctsCard

/-- THE SECOND FORM's CARD OF 'bowdlerlaw13.FlankTurns'. -/
def flankTurnsUptoCard : Claim7 := { stood := { row := flankTurnsUptoRow, standIns := [], harness := (true, "9478311d5f93871c33342361c7a96f67dc74c5054e2657dc99e746d08a6a6316"), looks := false }, kinds := [], alts := [], laidByText := true, laidKinds := [.data, .pinned], laidTests := true, laidLooks := .later }
def FlankTurnsUptoCardSaid : Prop := Claim7.holds Tryd.pinned (.plain (OpenSpec.upto flankTurnsSpec)) flankTurnsUptoCard

/-- THE SECOND FORM's CARD OF 'bowdlerlaw13.FlankWords'. -/
def flankWordsUptoCard : Claim7 := { stood := { row := flankWordsUptoRow, standIns := [], harness := (true, "9478311d5f93871c33342361c7a96f67dc74c5054e2657dc99e746d08a6a6316"), looks := false }, kinds := [], alts := [], laidByText := true, laidKinds := [.data, .pinned], laidTests := true, laidLooks := .later }
def FlankWordsUptoCardSaid : Prop := Claim7.holds Tryd.pinned (.plain (OpenSpec.upto flankWordsSpec)) flankWordsUptoCard

/-- THE SECOND FORM's CARD OF 'bowdlerlaw13.FlankEnds'. -/
def flankEndsUptoCard : Claim7 := { stood := { row := flankEndsUptoRow, standIns := [], harness := (true, "9478311d5f93871c33342361c7a96f67dc74c5054e2657dc99e746d08a6a6316"), looks := false }, kinds := [], alts := [], laidByText := true, laidKinds := [.data, .pinned], laidTests := true, laidLooks := .later }
def FlankEndsUptoCardSaid : Prop := Claim7.holds Tryd.pinned (.plain (OpenSpec.upto flankEndsSpec)) flankEndsUptoCard

/-- THE SECOND FORM's CARD OF 'bowdlerlaw13.FlankPuncts'. -/
def flankPunctsUptoCard : Claim7 := { stood := { row := flankPunctsUptoRow, standIns := [], harness := (true, "9478311d5f93871c33342361c7a96f67dc74c5054e2657dc99e746d08a6a6316"), looks := false }, kinds := [], alts := [], laidByText := true, laidKinds := [.data, .pinned], laidTests := true, laidLooks := .later }
def FlankPunctsUptoCardSaid : Prop := Claim7.holds Tryd.pinned (.plain (OpenSpec.upto flankPunctsSpec)) flankPunctsUptoCard
end Rows
end Go.Proofs.YtdpcpliplbbfmaaDoor
