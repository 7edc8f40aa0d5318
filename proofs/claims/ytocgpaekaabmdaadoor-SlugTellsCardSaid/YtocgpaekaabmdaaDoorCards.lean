/-
  DERIVED. GIVEN WITH THE SEED: THE CARDS: each row of YtocgpaekaabmdaaDoorRows.lean that lists a variable, with what it lists TIED to the program's text (the seventh form; the later family's looks); each row that meets fmt, with fmt's text TOLD by the authors' own Lean function (tested against real Go, not proved from fmt's source: count such statements apart). THE CARD IS WHAT COUNTS. Prove the row's statement (the work); the ties are given (YtocgpaekaabmdaaDoorTie.lean); close each card by the builder's one call (the guide's Derived/Test/ToyasCard.lean, 'card_holds'). Laid BY PROGRAM, IN A SANDBOX (cutbox-door.mjs). By AI agents, Wed Nov 11 2026. No macro, syntax, notation, axiom, sorry.
-/
import Derived.Test.YtocgpaekaabmdaaDoorRows
import GoSem.ClaimSeven
namespace Go.Proofs.YtocgpaekaabmdaaDoor
namespace Rows

/-- THE TIED CARD OF 'bowdlerlaw16.SlugTells'. -/
def slugTellsCard : Claim7 := { stood := { row := slugTellsRow, standIns := [], harness := (true, "cb0b1c569477e8e7107b4eddfce17d4c37be9ba64dfa4aa7b478333d8ec29f7c"), looks := false }, kinds := [], alts := [], laidByText := true, laidKinds := [.data, .data, .data, .data, .pinned], laidTests := true, laidLooks := .later }
def SlugTellsCardSaid : Prop := Claim7.holds Tryd.pinned (.plain (OpenSpec.ofChange slugTellsSpec)) slugTellsCard

/-- THE TIED CARD OF 'bowdlerlaw16.SlugNew'. -/
def slugNewCard : Claim7 := { stood := { row := slugNewRow, standIns := [], harness := (true, "cb0b1c569477e8e7107b4eddfce17d4c37be9ba64dfa4aa7b478333d8ec29f7c"), looks := false }, kinds := [], alts := [], laidByText := true, laidKinds := [.data, .data, .data, .data, .pinned], laidTests := true, laidLooks := .later }
def SlugNewCardSaid : Prop := Claim7.holds Tryd.pinned (.plain (OpenSpec.ofChange slugNewSpec)) slugNewCard

/-- THE TIED CARD OF 'bowdlerlaw16.SlugFolds'. -/
def slugFoldsCard : Claim7 := { stood := { row := slugFoldsRow, standIns := [], harness := (true, "cb0b1c569477e8e7107b4eddfce17d4c37be9ba64dfa4aa7b478333d8ec29f7c"), looks := false }, kinds := [], alts := [], laidByText := true, laidKinds := [.data, .data, .data, .data, .pinned], laidTests := true, laidLooks := .later }
def SlugFoldsCardSaid : Prop := Claim7.holds Tryd.pinned (.plain (OpenSpec.ofChange slugFoldsSpec)) slugFoldsCard

/-- THE TIED CARD OF 'bowdlerlaw16.SlugMany'. -/
def slugManyCard : Claim7 := { stood := { row := slugManyRow, standIns := [], harness := (true, "cb0b1c569477e8e7107b4eddfce17d4c37be9ba64dfa4aa7b478333d8ec29f7c"), looks := false }, kinds := [], alts := [], laidByText := true, laidKinds := [.data, .data, .data, .data, .pinned], laidTests := true, laidLooks := .later }
def SlugManyCardSaid : Prop := Claim7.holds Tryd.pinned (.plain (OpenSpec.ofChange slugManySpec)) slugManyCard

/-- THE TIED CARD OF 'bowdlerlaw16.SlugLong'. -/
def slugLongCard : Claim7 := { stood := { row := slugLongRow, standIns := [], harness := (true, "cb0b1c569477e8e7107b4eddfce17d4c37be9ba64dfa4aa7b478333d8ec29f7c"), looks := false }, kinds := [], alts := [], laidByText := true, laidKinds := [.data, .data, .data, .data, .pinned], laidTests := true, laidLooks := .later }
def SlugLongCardSaid : Prop := Claim7.holds Tryd.pinned (.plain (OpenSpec.ofChange slugLongSpec)) slugLongCard

/-- THE SECOND FORM's CARD OF 'bowdlerlaw16.SlugTells'. -/
def slugTellsUptoCard : Claim7 := { stood := { row := slugTellsUptoRow, standIns := [], harness := (true, "cb0b1c569477e8e7107b4eddfce17d4c37be9ba64dfa4aa7b478333d8ec29f7c"), looks := false }, kinds := [], alts := [], laidByText := true, laidKinds := [.data, .data, .data, .data, .pinned], laidTests := true, laidLooks := .later }
def SlugTellsUptoCardSaid : Prop := Claim7.holds Tryd.pinned (.plain (OpenSpec.upto slugTellsSpec)) slugTellsUptoCard

/-- THE SECOND FORM's CARD OF 'bowdlerlaw16.SlugNew'. -/
def slugNewUptoCard : Claim7 := { stood := { row := slugNewUptoRow, standIns := [], harness := (true, "cb0b1c569477e8e7107b4eddfce17d4c37be9ba64dfa4aa7b478333d8ec29f7c"), looks := false }, kinds := [], alts := [], laidByText := true, laidKinds := [.data, .data, .data, .data, .pinned], laidTests := true, laidLooks := .later }
def SlugNewUptoCardSaid : Prop := Claim7.holds Tryd.pinned (.plain (OpenSpec.upto slugNewSpec)) slugNewUptoCard

/-- THE SECOND FORM's CARD OF 'bowdlerlaw16.SlugFolds'. -/
def slugFoldsUptoCard : Claim7 := { stood := { row := slugFoldsUptoRow, standIns := [], harness := (true, "cb0b1c569477e8e7107b4eddfce17d4c37be9ba64dfa4aa7b478333d8ec29f7c"), looks := false }, kinds := [], alts := [], laidByText := true, laidKinds := [.data, .data, .data, .data, .pinned], laidTests := true, laidLooks := .later }
def SlugFoldsUptoCardSaid : Prop := Claim7.holds Tryd.pinned (.plain (OpenSpec.upto slugFoldsSpec)) slugFoldsUptoCard

/-- THE SECOND FORM's CARD OF 'bowdlerlaw16.SlugMany'. -/
def slugManyUptoCard : Claim7 := { stood := { row := slugManyUptoRow, standIns := [], harness := (true, "cb0b1c569477e8e7107b4eddfce17d4c37be9ba64dfa4aa7b478333d8ec29f7c"), looks := false }, kinds := [], alts := [], laidByText := true, laidKinds := [.data, .data, .data, .data, .pinned], laidTests := true, laidLooks := .later }
def SlugManyUptoCardSaid : Prop := Claim7.holds Tryd.pinned (.plain (OpenSpec.upto slugManySpec)) slugManyUptoCard

/-- THE SECOND FORM's CARD OF 'bowdlerlaw16.SlugLong'. -/
def slugLongUptoCard : Claim7 := { stood := { row := slugLongUptoRow, standIns := [], harness := (true, "cb0b1c569477e8e7107b4eddfce17d4c37be9ba64dfa4aa7b478333d8ec29f7c"), looks := false }, kinds := [], alts := [], laidByText := true, laidKinds := [.data, .data, .data, .data, .pinned], laidTests := true, laidLooks := .later }
def SlugLongUptoCardSaid : Prop := Claim7.holds Tryd.pinned (.plain (OpenSpec.upto slugLongSpec)) slugLongUptoCard
end Rows
end Go.Proofs.YtocgpaekaabmdaaDoor
