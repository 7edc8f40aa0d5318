/-
  NARROWER THAN 'FOR EVERY INPUT', by the rows' own cells (each row's printed sentence says how): RepairTells: laid · RepairTwice: laid · RepairLines: laid · RepairGood: laid · RepairClasses: laid · RepairFolds: laid.
  DERIVED. THE GIVEN ROWS OF THIS SEAT. 6 by the template 'for every input the law returns true; each argument reads behind the call as it read before'; 0 by the template 'total and deterministic' (their statements: YtnaehmnhiafbdaaDoorTotals.lean).
  GIVEN WITH THE SEED: the statements are not yours to turn. If you find one false, say at which input.
  Laid BY PROGRAM, IN A SANDBOX (cutbox-rows.mjs): the forced cells as the released guide's own fill.sh prints them over the translation b269eafc1ea31200… (all of the seat's roots in one cut). By AI agents, Wed Nov 11 2026. No macro, syntax, notation, axiom, sorry.
-/
import Derived.Test.YtnaehmnhiafbdaaDoorChecked
import GoSem.PinnedTables
import GoSem.Claim
import GoSem.ClaimJoined
import GoSem.ClaimMapViews
import Derived.JoinedTies
import Derived.KernelRfl
namespace Go.Proofs.YtnaehmnhiafbdaaDoor
/- THE CELL 'sum', in the pinned program and in every row, IS THE sha256 OF THE DUMP (.gsa) THAT YtnaehmnhiafbdaaDoorProg.lean LOADS. Nothing in Lean hashes anything: it is a label: what it is worth is what the hold of that sum in a sandbox is worth. -/
noncomputable def Tryd.pinned : Pinned := { name := "ytnaehmnhiafbdaadoor", sum := "b269eafc1ea312001c6cc6bccdb4c9dc61c32cf9c3a3d3422260bcf10cb8b092", checked := Tryd.checked }
namespace Rows
def none {H : Type} : Left H := { results := [], args := [] }

/- WHAT THE LISTED PACKAGE-LEVEL VARIABLES READ AS WHEN THE CALL BEGINS. Each datum BY PROGRAM (the guide's laid-datum.mjs) off the statement by which the dump's own 'gosem.cut.vars' lays the variable. In a bare row this is a premise. The card (YtnaehmnhiafbdaaDoorCards.lean) ties it to the program's text. -/
def laid_unicode_utf8_acceptRanges {H : Type} : DataW H := .agg [.agg [.lit (.int .u8 128), .lit (.int .u8 191)], .agg [.lit (.int .u8 160), .lit (.int .u8 191)], .agg [.lit (.int .u8 128), .lit (.int .u8 159)], .agg [.lit (.int .u8 144), .lit (.int .u8 191)], .agg [.lit (.int .u8 128), .lit (.int .u8 143)], .agg [.lit (.int .u8 0), .lit (.int .u8 0)], .agg [.lit (.int .u8 0), .lit (.int .u8 0)], .agg [.lit (.int .u8 0), .lit (.int .u8 0)], .agg [.lit (.int .u8 0), .lit (.int .u8 0)], .agg [.lit (.int .u8 0), .lit (.int .u8 0)], .agg [.lit (.int .u8 0), .lit (.int .u8 0)], .agg [.lit (.int .u8 0), .lit (.int .u8 0)], .agg [.lit (.int .u8 0), .lit (.int .u8 0)], .agg [.lit (.int .u8 0), .lit (.int .u8 0)], .agg [.lit (.int .u8 0), .lit (.int .u8 0)], .agg [.lit (.int .u8 0), .lit (.int .u8 0)]]
/-- One of Go's own tables, pinned by name: the form's constant. -/
def laid_unicode_utf8_first : DataW Unit := Go.Pinned.utf8First

/-- 'bowdlerlaw1.RepairTells': WHATEVER THE INPUT: true; the input reads as it did. -/
def repairTellsSpec : ChangeSpec := { name := "repairTells", fn := fun _ => fun
  | [d1, d2, d3, d4] => { results := [.lit (.bool true)], args := [d1, d2, d3, d4] }
  | _ => none }
def repairTellsRow : OpenClaim := { program := "ytnaehmnhiafbdaadoor", sum := "b269eafc1ea312001c6cc6bccdb4c9dc61c32cf9c3a3d3422260bcf10cb8b092", func := "bowdler/bowdlerlaw1.RepairTells", spec := "repairTells", inPlace := ["internal/abi.NoEscape"], unfollowed := true, recurses := true, named := ["unicode/utf8.first", "unicode/utf8.acceptRanges"], apart := false, laid := [("unicode/utf8.acceptRanges", laid_unicode_utf8_acceptRanges), ("unicode/utf8.first", laid_unicode_utf8_first)] }
def RepairTellsSaid : Prop := repairTellsRow.holds Tryd.pinned (OpenSpec.ofChange repairTellsSpec)

/-- ITS FALSE NEIGHBOUR: 'it returns false'. Refute it at one input. -/
def repairTellsWrong : ChangeSpec := { name := "repairTells", fn := fun _ => fun
  | [d1, d2, d3, d4] => { results := [.lit (.bool false)], args := [d1, d2, d3, d4] }
  | _ => none }
def RepairTellsWrongFalsely : Prop := repairTellsRow.holds Tryd.pinned (OpenSpec.ofChange repairTellsWrong)

/-- 'bowdlerlaw1.RepairTwice': WHATEVER THE INPUT: true; the input reads as it did. -/
def repairTwiceSpec : ChangeSpec := { name := "repairTwice", fn := fun _ => fun
  | [d1, d2, d3] => { results := [.lit (.bool true)], args := [d1, d2, d3] }
  | _ => none }
def repairTwiceRow : OpenClaim := { program := "ytnaehmnhiafbdaadoor", sum := "b269eafc1ea312001c6cc6bccdb4c9dc61c32cf9c3a3d3422260bcf10cb8b092", func := "bowdler/bowdlerlaw1.RepairTwice", spec := "repairTwice", inPlace := ["internal/abi.NoEscape"], unfollowed := true, recurses := true, named := ["unicode/utf8.first", "unicode/utf8.acceptRanges"], apart := false, laid := [("unicode/utf8.acceptRanges", laid_unicode_utf8_acceptRanges), ("unicode/utf8.first", laid_unicode_utf8_first)] }
def RepairTwiceSaid : Prop := repairTwiceRow.holds Tryd.pinned (OpenSpec.ofChange repairTwiceSpec)

/-- ITS FALSE NEIGHBOUR: 'it returns false'. Refute it at one input. -/
def repairTwiceWrong : ChangeSpec := { name := "repairTwice", fn := fun _ => fun
  | [d1, d2, d3] => { results := [.lit (.bool false)], args := [d1, d2, d3] }
  | _ => none }
def RepairTwiceWrongFalsely : Prop := repairTwiceRow.holds Tryd.pinned (OpenSpec.ofChange repairTwiceWrong)

/-- 'bowdlerlaw1.RepairLines': WHATEVER THE INPUT: true; the input reads as it did. -/
def repairLinesSpec : ChangeSpec := { name := "repairLines", fn := fun _ => fun
  | [d1, d2] => { results := [.lit (.bool true)], args := [d1, d2] }
  | _ => none }
def repairLinesRow : OpenClaim := { program := "ytnaehmnhiafbdaadoor", sum := "b269eafc1ea312001c6cc6bccdb4c9dc61c32cf9c3a3d3422260bcf10cb8b092", func := "bowdler/bowdlerlaw1.RepairLines", spec := "repairLines", inPlace := ["internal/abi.NoEscape"], unfollowed := true, recurses := true, named := ["unicode/utf8.first", "unicode/utf8.acceptRanges"], apart := false, laid := [("unicode/utf8.acceptRanges", laid_unicode_utf8_acceptRanges), ("unicode/utf8.first", laid_unicode_utf8_first)] }
def RepairLinesSaid : Prop := repairLinesRow.holds Tryd.pinned (OpenSpec.ofChange repairLinesSpec)

/-- ITS FALSE NEIGHBOUR: 'it returns false'. Refute it at one input. -/
def repairLinesWrong : ChangeSpec := { name := "repairLines", fn := fun _ => fun
  | [d1, d2] => { results := [.lit (.bool false)], args := [d1, d2] }
  | _ => none }
def RepairLinesWrongFalsely : Prop := repairLinesRow.holds Tryd.pinned (OpenSpec.ofChange repairLinesWrong)

/-- 'bowdlerlaw1.RepairGood': WHATEVER THE INPUT: true; the input reads as it did. -/
def repairGoodSpec : ChangeSpec := { name := "repairGood", fn := fun _ => fun
  | [d] => { results := [.lit (.bool true)], args := [d] }
  | _ => none }
def repairGoodRow : OpenClaim := { program := "ytnaehmnhiafbdaadoor", sum := "b269eafc1ea312001c6cc6bccdb4c9dc61c32cf9c3a3d3422260bcf10cb8b092", func := "bowdler/bowdlerlaw1.RepairGood", spec := "repairGood", inPlace := ["internal/abi.NoEscape"], unfollowed := true, recurses := true, named := ["unicode/utf8.first", "unicode/utf8.acceptRanges"], apart := false, laid := [("unicode/utf8.acceptRanges", laid_unicode_utf8_acceptRanges), ("unicode/utf8.first", laid_unicode_utf8_first)] }
def RepairGoodSaid : Prop := repairGoodRow.holds Tryd.pinned (OpenSpec.ofChange repairGoodSpec)

/-- ITS FALSE NEIGHBOUR: 'it returns false'. Refute it at one input. -/
def repairGoodWrong : ChangeSpec := { name := "repairGood", fn := fun _ => fun
  | [d] => { results := [.lit (.bool false)], args := [d] }
  | _ => none }
def RepairGoodWrongFalsely : Prop := repairGoodRow.holds Tryd.pinned (OpenSpec.ofChange repairGoodWrong)

/-- 'bowdlerlaw1.RepairClasses': WHATEVER THE INPUT: true; the input reads as it did. -/
def repairClassesSpec : ChangeSpec := { name := "repairClasses", fn := fun _ => fun
  | [d] => { results := [.lit (.bool true)], args := [d] }
  | _ => none }
def repairClassesRow : OpenClaim := { program := "ytnaehmnhiafbdaadoor", sum := "b269eafc1ea312001c6cc6bccdb4c9dc61c32cf9c3a3d3422260bcf10cb8b092", func := "bowdler/bowdlerlaw1.RepairClasses", spec := "repairClasses", inPlace := ["internal/abi.NoEscape"], unfollowed := true, recurses := true, named := ["unicode/utf8.first", "unicode/utf8.acceptRanges"], apart := false, laid := [("unicode/utf8.acceptRanges", laid_unicode_utf8_acceptRanges), ("unicode/utf8.first", laid_unicode_utf8_first)] }
def RepairClassesSaid : Prop := repairClassesRow.holds Tryd.pinned (OpenSpec.ofChange repairClassesSpec)

/-- ITS FALSE NEIGHBOUR: 'it returns false'. Refute it at one input. -/
def repairClassesWrong : ChangeSpec := { name := "repairClasses", fn := fun _ => fun
  | [d] => { results := [.lit (.bool false)], args := [d] }
  | _ => none }
def RepairClassesWrongFalsely : Prop := repairClassesRow.holds Tryd.pinned (OpenSpec.ofChange repairClassesWrong)

/-- 'bowdlerlaw1.RepairFolds': WHATEVER THE INPUT: true; the input reads as it did. -/
def repairFoldsSpec : ChangeSpec := { name := "repairFolds", fn := fun _ => fun
  | [d1, d2] => { results := [.lit (.bool true)], args := [d1, d2] }
  | _ => none }
def repairFoldsRow : OpenClaim := { program := "ytnaehmnhiafbdaadoor", sum := "b269eafc1ea312001c6cc6bccdb4c9dc61c32cf9c3a3d3422260bcf10cb8b092", func := "bowdler/bowdlerlaw1.RepairFolds", spec := "repairFolds", inPlace := ["internal/abi.NoEscape"], unfollowed := true, recurses := true, named := ["unicode/utf8.first", "unicode/utf8.acceptRanges"], apart := false, laid := [("unicode/utf8.acceptRanges", laid_unicode_utf8_acceptRanges), ("unicode/utf8.first", laid_unicode_utf8_first)] }
def RepairFoldsSaid : Prop := repairFoldsRow.holds Tryd.pinned (OpenSpec.ofChange repairFoldsSpec)

/-- ITS FALSE NEIGHBOUR: 'it returns false'. Refute it at one input. -/
def repairFoldsWrong : ChangeSpec := { name := "repairFolds", fn := fun _ => fun
  | [d1, d2] => { results := [.lit (.bool false)], args := [d1, d2] }
  | _ => none }
def RepairFoldsWrongFalsely : Prop := repairFoldsRow.holds Tryd.pinned (OpenSpec.ofChange repairFoldsWrong)

/- THE SECOND FORM. 'bulk': how many values and letters a reading holds, each counted each time it is reached (what is shared counts as often as it is met; a slice's spare places count too). A statement '..UptoSaid' is the law's where the arguments, and the package variables that the reading takes, are together of bulk at most 1048576: NARROWER than '..Said'. Prove '..Said' where nothing that the law and all that it calls make is longer than what came in: it says more and counts as full. Else prove '..UptoSaid'. A law counts once. -/
mutual
def uptoBulk {H : Type} : DataW H → Nat
  | .lit (.string bytes) => bytes.length + 1
  | .lit _ => 1
  | .nil => 1
  | .ptr d => uptoBulk d + 1
  | .slice elems spare => uptoBulkAll elems + uptoBulkAll spare + 1
  | .agg parts => uptoBulkAll parts + 1
  | .iface _ d => uptoBulk d + 1
  | .map entries => uptoBulkEntries entries + 1
  | .held _ => 1
def uptoBulkAll {H : Type} : List (DataW H) → Nat
  | [] => 0
  | d :: r => uptoBulk d + uptoBulkAll r
def uptoBulkEntries {H : Type} : List (Lit × DataW H) → Nat
  | [] => 0
  | x :: r => uptoBulkEntry x + uptoBulkEntries r
def uptoBulkEntry {H : Type} : Lit × DataW H → Nat
  | (.string bytes, d) => bytes.length + uptoBulk d + 1
  | (_, d) => uptoBulk d + 1
 end
def uptoSmall : (H : Type) → List (DataW H) → Bool := fun _ ds => decide (uptoBulkAll ds ≤ 1048576)
def OpenSpec.upto (s : _root_.Go.ChangeSpec) : _root_.Go.OpenSpec := { _root_.Go.OpenSpec.ofChange s with cond := some uptoSmall }

/-- 'bowdlerlaw1.RepairTells', WHERE WHAT IT READS IS OF BULK AT MOST 1048576: true; the input reads as it did. -/
def repairTellsUptoRow : OpenClaim := { program := "ytnaehmnhiafbdaadoor", sum := "b269eafc1ea312001c6cc6bccdb4c9dc61c32cf9c3a3d3422260bcf10cb8b092", func := "bowdler/bowdlerlaw1.RepairTells", spec := "repairTells", inPlace := ["internal/abi.NoEscape"], unfollowed := true, recurses := true, named := ["unicode/utf8.first", "unicode/utf8.acceptRanges"], apart := false, laid := [("unicode/utf8.acceptRanges", laid_unicode_utf8_acceptRanges), ("unicode/utf8.first", laid_unicode_utf8_first)], narrowed := true }
def RepairTellsUptoSaid : Prop := repairTellsUptoRow.holds Tryd.pinned (OpenSpec.upto repairTellsSpec)

/-- 'bowdlerlaw1.RepairTwice', WHERE WHAT IT READS IS OF BULK AT MOST 1048576: true; the input reads as it did. -/
def repairTwiceUptoRow : OpenClaim := { program := "ytnaehmnhiafbdaadoor", sum := "b269eafc1ea312001c6cc6bccdb4c9dc61c32cf9c3a3d3422260bcf10cb8b092", func := "bowdler/bowdlerlaw1.RepairTwice", spec := "repairTwice", inPlace := ["internal/abi.NoEscape"], unfollowed := true, recurses := true, named := ["unicode/utf8.first", "unicode/utf8.acceptRanges"], apart := false, laid := [("unicode/utf8.acceptRanges", laid_unicode_utf8_acceptRanges), ("unicode/utf8.first", laid_unicode_utf8_first)], narrowed := true }
def RepairTwiceUptoSaid : Prop := repairTwiceUptoRow.holds Tryd.pinned (OpenSpec.upto repairTwiceSpec)

/-- 'bowdlerlaw1.RepairLines', WHERE WHAT IT READS IS OF BULK AT MOST 1048576: true; the input reads as it did. -/
def repairLinesUptoRow : OpenClaim := { program := "ytnaehmnhiafbdaadoor", sum := "b269eafc1ea312001c6cc6bccdb4c9dc61c32cf9c3a3d3422260bcf10cb8b092", func := "bowdler/bowdlerlaw1.RepairLines", spec := "repairLines", inPlace := ["internal/abi.NoEscape"], unfollowed := true, recurses := true, named := ["unicode/utf8.first", "unicode/utf8.acceptRanges"], apart := false, laid := [("unicode/utf8.acceptRanges", laid_unicode_utf8_acceptRanges), ("unicode/utf8.first", laid_unicode_utf8_first)], narrowed := true }
def RepairLinesUptoSaid : Prop := repairLinesUptoRow.holds Tryd.pinned (OpenSpec.upto repairLinesSpec)

/-- 'bowdlerlaw1.RepairGood', WHERE WHAT IT READS IS OF BULK AT MOST 1048576: true; the input reads as it did. -/
def repairGoodUptoRow : OpenClaim := { program := "ytnaehmnhiafbdaadoor", sum := "b269eafc1ea312001c6cc6bccdb4c9dc61c32cf9c3a3d3422260bcf10cb8b092", func := "bowdler/bowdlerlaw1.RepairGood", spec := "repairGood", inPlace := ["internal/abi.NoEscape"], unfollowed := true, recurses := true, named := ["unicode/utf8.first", "unicode/utf8.acceptRanges"], apart := false, laid := [("unicode/utf8.acceptRanges", laid_unicode_utf8_acceptRanges), ("unicode/utf8.first", laid_unicode_utf8_first)], narrowed := true }
def RepairGoodUptoSaid : Prop := repairGoodUptoRow.holds Tryd.pinned (OpenSpec.upto repairGoodSpec)

/-- 'bowdlerlaw1.RepairClasses', WHERE WHAT IT READS IS OF BULK AT MOST 1048576: true; the input reads as it did. -/
def repairClassesUptoRow : OpenClaim := { program := "ytnaehmnhiafbdaadoor", sum := "b269eafc1ea312001c6cc6bccdb4c9dc61c32cf9c3a3d3422260bcf10cb8b092", func := "bowdler/bowdlerlaw1.RepairClasses", spec := "repairClasses", inPlace := ["internal/abi.NoEscape"], unfollowed := true, recurses := true, named := ["unicode/utf8.first", "unicode/utf8.acceptRanges"], apart := false, laid := [("unicode/utf8.acceptRanges", laid_unicode_utf8_acceptRanges), ("unicode/utf8.first", laid_unicode_utf8_first)], narrowed := true }
def RepairClassesUptoSaid : Prop := repairClassesUptoRow.holds Tryd.pinned (OpenSpec.upto repairClassesSpec)

/-- 'bowdlerlaw1.RepairFolds', WHERE WHAT IT READS IS OF BULK AT MOST 1048576: true; the input reads as it did. -/
def repairFoldsUptoRow : OpenClaim := { program := "ytnaehmnhiafbdaadoor", sum := "b269eafc1ea312001c6cc6bccdb4c9dc61c32cf9c3a3d3422260bcf10cb8b092", func := "bowdler/bowdlerlaw1.RepairFolds", spec := "repairFolds", inPlace := ["internal/abi.NoEscape"], unfollowed := true, recurses := true, named := ["unicode/utf8.first", "unicode/utf8.acceptRanges"], apart := false, laid := [("unicode/utf8.acceptRanges", laid_unicode_utf8_acceptRanges), ("unicode/utf8.first", laid_unicode_utf8_first)], narrowed := true }
def RepairFoldsUptoSaid : Prop := repairFoldsUptoRow.holds Tryd.pinned (OpenSpec.upto repairFoldsSpec)

end Rows
end Go.Proofs.YtnaehmnhiafbdaaDoor
