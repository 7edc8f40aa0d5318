/-
  DERIVED. GIVEN WITH THE SEED: THE CARDS: each row of YtnaehmnhiafbdaaDoorRows.lean that lists a variable, with what it lists TIED to the program's text (the seventh form; the later family's looks); each row that meets fmt, with fmt's text TOLD by the authors' own Lean function (tested against real Go, not proved from fmt's source: count such statements apart). THE CARD IS WHAT COUNTS. Prove the row's statement (the work); the ties are given (YtnaehmnhiafbdaaDoorTie.lean); close each card by the builder's one call (the guide's Derived/Test/ToyasCard.lean, 'card_holds'). Laid BY PROGRAM, IN A SANDBOX (cutbox-door.mjs). By AI agents, Wed Nov 11 2026. No macro, syntax, notation, axiom, sorry.
-/
import Derived.Test.YtnaehmnhiafbdaaDoorRows
import GoSem.ClaimSeven
namespace Go.Proofs.YtnaehmnhiafbdaaDoor
namespace Rows

/-- THE TIED CARD OF 'bowdlerlaw1.RepairTells'. -/
def repairTellsCard : Claim7 := { stood := { row := repairTellsRow, standIns := [], harness := (true, "b32d8a1de8ff593f6836c17c95ad11c704a505aedf017607a0e49306c95dd084"), looks := false }, kinds := [], alts := [], laidByText := true, laidKinds := [.data, .pinned], laidTests := true, laidLooks := .later }
def RepairTellsCardSaid : Prop := Claim7.holds Tryd.pinned (.plain (OpenSpec.ofChange repairTellsSpec)) repairTellsCard

/-- THE TIED CARD OF 'bowdlerlaw1.RepairTwice'. -/
def repairTwiceCard : Claim7 := { stood := { row := repairTwiceRow, standIns := [], harness := (true, "b32d8a1de8ff593f6836c17c95ad11c704a505aedf017607a0e49306c95dd084"), looks := false }, kinds := [], alts := [], laidByText := true, laidKinds := [.data, .pinned], laidTests := true, laidLooks := .later }
def RepairTwiceCardSaid : Prop := Claim7.holds Tryd.pinned (.plain (OpenSpec.ofChange repairTwiceSpec)) repairTwiceCard

/-- THE TIED CARD OF 'bowdlerlaw1.RepairLines'. -/
def repairLinesCard : Claim7 := { stood := { row := repairLinesRow, standIns := [], harness := (true, "b32d8a1de8ff593f6836c17c95ad11c704a505aedf017607a0e49306c95dd084"), looks := false }, kinds := [], alts := [], laidByText := true, laidKinds := [.data, .pinned], laidTests := true, laidLooks := .later }
def RepairLinesCardSaid : Prop := Claim7.holds Tryd.pinned (.plain (OpenSpec.ofChange repairLinesSpec)) repairLinesCard

/-- THE TIED CARD OF 'bowdlerlaw1.RepairGood'. -/
def repairGoodCard : Claim7 := { stood := { row := repairGoodRow, standIns := [], harness := (true, "b32d8a1de8ff593f6836c17c95ad11c704a505aedf017607a0e49306c95dd084"), looks := false }, kinds := [], alts := [], laidByText := true, laidKinds := [.data, .pinned], laidTests := true, laidLooks := .later }
def RepairGoodCardSaid : Prop := Claim7.holds Tryd.pinned (.plain (OpenSpec.ofChange repairGoodSpec)) repairGoodCard

/-- THE TIED CARD OF 'bowdlerlaw1.RepairClasses'. -/
def repairClassesCard : Claim7 := { stood := { row := repairClassesRow, standIns := [], harness := (true, "b32d8a1de8ff593f6836c17c95ad11c704a505aedf017607a0e49306c95dd084"), looks := false }, kinds := [], alts := [], laidByText := true, laidKinds := [.data, .pinned], laidTests := true, laidLooks := .later }
def RepairClassesCardSaid : Prop := Claim7.holds Tryd.pinned (.plain (OpenSpec.ofChange repairClassesSpec)) repairClassesCard

/-- THE TIED CARD OF 'bowdlerlaw1.RepairFolds'. -/
def repairFoldsCard : Claim7 := { stood := { row := repairFoldsRow, standIns := [], harness := (true, "b32d8a1de8ff593f6836c17c95ad11c704a505aedf017607a0e49306c95dd084"), looks := false }, kinds := [], alts := [], laidByText := true, laidKinds := [.data, .pinned], laidTests := true, laidLooks := .later }
def RepairFoldsCardSaid : Prop := Claim7.holds Tryd.pinned (.plain (OpenSpec.ofChange repairFoldsSpec)) repairFoldsCard

/-- THE SECOND FORM's CARD OF 'bowdlerlaw1.RepairTells'. -/
def repairTellsUptoCard : Claim7 := { stood := { row := repairTellsUptoRow, standIns := [], harness := (true, "b32d8a1de8ff593f6836c17c95ad11c704a505aedf017607a0e49306c95dd084"), looks := false }, kinds := [], alts := [], laidByText := true, laidKinds := [.data, .pinned], laidTests := true, laidLooks := .later }
def RepairTellsUptoCardSaid : Prop := Claim7.holds Tryd.pinned (.plain (OpenSpec.upto repairTellsSpec)) repairTellsUptoCard

/-- THE SECOND FORM's CARD OF 'bowdlerlaw1.RepairTwice'. -/
def repairTwiceUptoCard : Claim7 := { stood := { row := repairTwiceUptoRow, standIns := [], harness := (true, "b32d8a1de8ff593f6836c17c95ad11c704a505aedf017607a0e49306c95dd084"), looks := false }, kinds := [], alts := [], laidByText := true, laidKinds := [.data, .pinned], laidTests := true, laidLooks := .later }
def RepairTwiceUptoCardSaid : Prop := Claim7.holds Tryd.pinned (.plain (OpenSpec.upto repairTwiceSpec)) repairTwiceUptoCard

/-- THE SECOND FORM's CARD OF 'bowdlerlaw1.RepairLines'. -/
def repairLinesUptoCard : Claim7 := { stood := { row := repairLinesUptoRow, standIns := [], harness := (true, "b32d8a1de8ff593f6836c17c95ad11c704a505aedf017607a0e49306c95dd084"), looks := false }, kinds := [], alts := [], laidByText := true, laidKinds := [.data, .pinned], laidTests := true, laidLooks := .later }
def RepairLinesUptoCardSaid : Prop := Claim7.holds Tryd.pinned (.plain (OpenSpec.upto repairLinesSpec)) repairLinesUptoCard

/-- THE SECOND FORM's CARD OF 'bowdlerlaw1.RepairGood'. -/
def repairGoodUptoCard : Claim7 := { stood := { row := repairGoodUptoRow, standIns := [], harness := (true, "b32d8a1de8ff593f6836c17c95ad11c704a505aedf017607a0e49306c95dd084"), looks := false }, kinds := [], alts := [], laidByText := true, laidKinds := [.data, .pinned], laidTests := true, laidLooks := .later }
def RepairGoodUptoCardSaid : Prop := Claim7.holds Tryd.pinned (.plain (OpenSpec.upto repairGoodSpec)) repairGoodUptoCard

/-- THE SECOND FORM's CARD OF 'bowdlerlaw1.RepairClasses'. -/
def repairClassesUptoCard : Claim7 := { stood := { row := repairClassesUptoRow, standIns := [], harness := (true, "b32d8a1de8ff593f6836c17c95ad11c704a505aedf017607a0e49306c95dd084"), looks := false }, kinds := [], alts := [], laidByText := true, laidKinds := [.data, .pinned], laidTests := true, laidLooks := .later }
def RepairClassesUptoCardSaid : Prop := Claim7.holds Tryd.pinned (.plain (OpenSpec.upto repairClassesSpec)) repairClassesUptoCard

/-- THE SECOND FORM's CARD OF 'bowdlerlaw1.RepairFolds'. -/
def repairFoldsUptoCard : Claim7 := { stood := { row := repairFoldsUptoRow, standIns := [], harness := (true, "b32d8a1de8ff593f6836c17c95ad11c704a505aedf017607a0e49306c95dd084"), looks := false }, kinds := [], alts := [], laidByText := true, laidKinds := [.data, .pinned], laidTests := true, laidLooks := .later }
def RepairFoldsUptoCardSaid : Prop := Claim7.holds Tryd.pinned (.plain (OpenSpec.upto repairFoldsSpec)) repairFoldsUptoCard
end Rows
end Go.Proofs.YtnaehmnhiafbdaaDoor
