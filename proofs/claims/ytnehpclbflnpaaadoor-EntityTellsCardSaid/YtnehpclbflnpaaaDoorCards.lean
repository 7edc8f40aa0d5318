/-
  DERIVED. GIVEN WITH THE SEED: THE CARDS: each row of YtnehpclbflnpaaaDoorRows.lean that lists a variable, with what it lists TIED to the program's text (the seventh form; the later family's looks); each row that meets fmt, with fmt's text TOLD by the authors' own Lean function (tested against real Go, not proved from fmt's source: count such statements apart). THE CARD IS WHAT COUNTS. Prove the row's statement (the work); the ties are given (YtnehpclbflnpaaaDoorTie.lean); close each card by the builder's one call (the guide's Derived/Test/ToyasCard.lean, 'card_holds'). Laid BY PROGRAM, IN A SANDBOX (cutbox-door.mjs). By AI agents, Wed Nov 11 2026. No macro, syntax, notation, axiom, sorry.
-/
import Derived.Test.YtnehpclbflnpaaaDoorRows
import GoSem.ClaimSeven
namespace Go.Proofs.YtnehpclbflnpaaaDoor
namespace Rows

/-- THE TIED CARD OF 'bowdlerlaw3.EntityTells'. -/
def entityTellsCard : Claim7 := { stood := { row := entityTellsRow, standIns := [], harness := (true, "0c83422361eb62588f10b8c65c9500fe1098a0c21911f56c45bbcaf1197d8dfd"), looks := false }, kinds := [], alts := [], laidByText := true, laidKinds := [.listed, .data], laidTests := true, laidLooks := .later }
def EntityTellsCardSaid : Prop := Claim7.holds Tryd.pinned (.plain (OpenSpec.ofChange entityTellsSpec)) entityTellsCard

/-- THE TIED CARD OF 'bowdlerlaw3.EntityNumbers'. -/
def entityNumbersCard : Claim7 := { stood := { row := entityNumbersRow, standIns := [], harness := (true, "0c83422361eb62588f10b8c65c9500fe1098a0c21911f56c45bbcaf1197d8dfd"), looks := false }, kinds := [], alts := [], laidByText := true, laidKinds := [.listed, .data], laidTests := true, laidLooks := .later }
def EntityNumbersCardSaid : Prop := Claim7.holds Tryd.pinned (.plain (OpenSpec.ofChange entityNumbersSpec)) entityNumbersCard

/-- THE TIED CARD OF 'bowdlerlaw3.EntityPlain'. -/
def entityPlainCard : Claim7 := { stood := { row := entityPlainRow, standIns := [], harness := (true, "0c83422361eb62588f10b8c65c9500fe1098a0c21911f56c45bbcaf1197d8dfd"), looks := false }, kinds := [], alts := [], laidByText := true, laidKinds := [.listed, .data], laidTests := true, laidLooks := .later }
def EntityPlainCardSaid : Prop := Claim7.holds Tryd.pinned (.plain (OpenSpec.ofChange entityPlainSpec)) entityPlainCard

/-- THE TIED CARD OF 'bowdlerlaw3.EntityNames'. -/
def entityNamesCard : Claim7 := { stood := { row := entityNamesRow, standIns := [], harness := (true, "0c83422361eb62588f10b8c65c9500fe1098a0c21911f56c45bbcaf1197d8dfd"), looks := false }, kinds := [], alts := [], laidByText := true, laidKinds := [.listed, .data], laidTests := true, laidLooks := .later }
def EntityNamesCardSaid : Prop := Claim7.holds Tryd.pinned (.plain (OpenSpec.ofChange entityNamesSpec)) entityNamesCard

/-- THE TIED CARD OF 'bowdlerlaw3.EntityLengths'. -/
def entityLengthsCard : Claim7 := { stood := { row := entityLengthsRow, standIns := [], harness := (true, "0c83422361eb62588f10b8c65c9500fe1098a0c21911f56c45bbcaf1197d8dfd"), looks := false }, kinds := [], alts := [], laidByText := true, laidKinds := [.listed, .data], laidTests := true, laidLooks := .later }
def EntityLengthsCardSaid : Prop := Claim7.holds Tryd.pinned (.plain (OpenSpec.ofChange entityLengthsSpec)) entityLengthsCard

/-- THE SECOND FORM's CARD OF 'bowdlerlaw3.EntityTells'. -/
def entityTellsUptoCard : Claim7 := { stood := { row := entityTellsUptoRow, standIns := [], harness := (true, "0c83422361eb62588f10b8c65c9500fe1098a0c21911f56c45bbcaf1197d8dfd"), looks := false }, kinds := [], alts := [], laidByText := true, laidKinds := [.listed, .data], laidTests := true, laidLooks := .later }
def EntityTellsUptoCardSaid : Prop := Claim7.holds Tryd.pinned (.plain (OpenSpec.upto entityTellsSpec)) entityTellsUptoCard

/-- THE SECOND FORM's CARD OF 'bowdlerlaw3.EntityNumbers'. -/
def entityNumbersUptoCard : Claim7 := { stood := { row := entityNumbersUptoRow, standIns := [], harness := (true, "0c83422361eb62588f10b8c65c9500fe1098a0c21911f56c45bbcaf1197d8dfd"), looks := false }, kinds := [], alts := [], laidByText := true, laidKinds := [.listed, .data], laidTests := true, laidLooks := .later }
def EntityNumbersUptoCardSaid : Prop := Claim7.holds Tryd.pinned (.plain (OpenSpec.upto entityNumbersSpec)) entityNumbersUptoCard

/-- THE SECOND FORM's CARD OF 'bowdlerlaw3.EntityPlain'. -/
def entityPlainUptoCard : Claim7 := { stood := { row := entityPlainUptoRow, standIns := [], harness := (true, "0c83422361eb62588f10b8c65c9500fe1098a0c21911f56c45bbcaf1197d8dfd"), looks := false }, kinds := [], alts := [], laidByText := true, laidKinds := [.listed, .data], laidTests := true, laidLooks := .later }
def EntityPlainUptoCardSaid : Prop := Claim7.holds Tryd.pinned (.plain (OpenSpec.upto entityPlainSpec)) entityPlainUptoCard

/-- THE SECOND FORM's CARD OF 'bowdlerlaw3.EntityNames'. -/
def entityNamesUptoCard : Claim7 := { stood := { row := entityNamesUptoRow, standIns := [], harness := (true, "0c83422361eb62588f10b8c65c9500fe1098a0c21911f56c45bbcaf1197d8dfd"), looks := false }, kinds := [], alts := [], laidByText := true, laidKinds := [.listed, .data], laidTests := true, laidLooks := .later }
def EntityNamesUptoCardSaid : Prop := Claim7.holds Tryd.pinned (.plain (OpenSpec.upto entityNamesSpec)) entityNamesUptoCard

/-- THE SECOND FORM's CARD OF 'bowdlerlaw3.EntityLengths'. -/
def entityLengthsUptoCard : Claim7 := { stood := { row := entityLengthsUptoRow, standIns := [], harness := (true, "0c83422361eb62588f10b8c65c9500fe1098a0c21911f56c45bbcaf1197d8dfd"), looks := false }, kinds := [], alts := [], laidByText := true, laidKinds := [.listed, .data], laidTests := true, laidLooks := .later }
def EntityLengthsUptoCardSaid : Prop := Claim7.holds Tryd.pinned (.plain (OpenSpec.upto entityLengthsSpec)) entityLengthsUptoCard
end Rows
end Go.Proofs.YtnehpclbflnpaaaDoor
