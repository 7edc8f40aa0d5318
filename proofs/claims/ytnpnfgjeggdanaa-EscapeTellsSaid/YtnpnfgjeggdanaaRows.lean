/-
  No cell of these rows narrows 'for every input' (looked for: loops, veiled, ifaces, maps, wideKeys, modest, calm, conditions, laid).
  DERIVED. THE GIVEN ROWS OF THIS SEAT. 3 by the template 'for every input the law returns true; each argument reads behind the call as it read before'; 0 by the template 'total and deterministic' (their statements: YtnpnfgjeggdanaaTotals.lean).
  GIVEN WITH THE SEED: the statements are not yours to turn. If you find one false, say at which input.
  Laid BY PROGRAM, IN A SANDBOX (cutbox-rows.mjs): the forced cells as the released guide's own fill.sh prints them over the translation 26851c09f6d833fc… (all of the seat's roots in one cut). By AI agents, Wed Nov 11 2026. No macro, syntax, notation, axiom, sorry.
-/
import Derived.Test.YtnpnfgjeggdanaaChecked
import GoSem.Claim
import GoSem.ClaimJoined
import GoSem.ClaimMapViews
import Derived.JoinedTies
import Derived.KernelRfl
namespace Go.Proofs.Ytnpnfgjeggdanaa
/- THE CELL 'sum', in the pinned program and in every row, IS THE sha256 OF THE DUMP (.gsa) THAT YtnpnfgjeggdanaaProg.lean LOADS. Nothing in Lean hashes anything: it is a label: what it is worth is what the hold of that sum in a sandbox is worth. -/
noncomputable def Try.pinned : Pinned := { name := "ytnpnfgjeggdanaa", sum := "26851c09f6d833fc9d687687cfc10d22760c469dfe20878412d0f9eec2e086b2", checked := Try.checked }
namespace Rows
def none {H : Type} : Left H := { results := [], args := [] }

/-- 'bowdlerlaw19.EscapeTells': WHATEVER THE INPUT: true; the input reads as it did. -/
def escapeTellsSpec : ChangeSpec := { name := "escapeTells", fn := fun _ => fun
  | [d1, d2] => { results := [.lit (.bool true)], args := [d1, d2] }
  | _ => none }
def escapeTellsRow : OpenClaim := { program := "ytnpnfgjeggdanaa", sum := "26851c09f6d833fc9d687687cfc10d22760c469dfe20878412d0f9eec2e086b2", func := "bowdler/bowdlerlaw19.EscapeTells", spec := "escapeTells", inPlace := ["internal/abi.NoEscape", "internal/bytealg.IndexByteString"], apart := false }
def EscapeTellsSaid : Prop := escapeTellsRow.holds Try.pinned (OpenSpec.ofChange escapeTellsSpec)

/-- ITS FALSE NEIGHBOUR: 'it returns false'. Refute it at one input. -/
def escapeTellsWrong : ChangeSpec := { name := "escapeTells", fn := fun _ => fun
  | [d1, d2] => { results := [.lit (.bool false)], args := [d1, d2] }
  | _ => none }
def EscapeTellsWrongFalsely : Prop := escapeTellsRow.holds Try.pinned (OpenSpec.ofChange escapeTellsWrong)

/-- 'bowdlerlaw19.EscapeNone': WHATEVER THE INPUT: true; the input reads as it did. -/
def escapeNoneSpec : ChangeSpec := { name := "escapeNone", fn := fun _ => fun
  | [d1, d2] => { results := [.lit (.bool true)], args := [d1, d2] }
  | _ => none }
def escapeNoneRow : OpenClaim := { program := "ytnpnfgjeggdanaa", sum := "26851c09f6d833fc9d687687cfc10d22760c469dfe20878412d0f9eec2e086b2", func := "bowdler/bowdlerlaw19.EscapeNone", spec := "escapeNone", inPlace := ["internal/abi.NoEscape", "internal/bytealg.IndexByteString"], apart := false }
def EscapeNoneSaid : Prop := escapeNoneRow.holds Try.pinned (OpenSpec.ofChange escapeNoneSpec)

/-- ITS FALSE NEIGHBOUR: 'it returns false'. Refute it at one input. -/
def escapeNoneWrong : ChangeSpec := { name := "escapeNone", fn := fun _ => fun
  | [d1, d2] => { results := [.lit (.bool false)], args := [d1, d2] }
  | _ => none }
def EscapeNoneWrongFalsely : Prop := escapeNoneRow.holds Try.pinned (OpenSpec.ofChange escapeNoneWrong)

/-- 'bowdlerlaw19.EscapeSafe': WHATEVER THE INPUT: true; the input reads as it did. -/
def escapeSafeSpec : ChangeSpec := { name := "escapeSafe", fn := fun _ => fun
  | [d] => { results := [.lit (.bool true)], args := [d] }
  | _ => none }
def escapeSafeRow : OpenClaim := { program := "ytnpnfgjeggdanaa", sum := "26851c09f6d833fc9d687687cfc10d22760c469dfe20878412d0f9eec2e086b2", func := "bowdler/bowdlerlaw19.EscapeSafe", spec := "escapeSafe", inPlace := ["internal/abi.NoEscape", "internal/bytealg.IndexByteString"], apart := false }
def EscapeSafeSaid : Prop := escapeSafeRow.holds Try.pinned (OpenSpec.ofChange escapeSafeSpec)

/-- ITS FALSE NEIGHBOUR: 'it returns false'. Refute it at one input. -/
def escapeSafeWrong : ChangeSpec := { name := "escapeSafe", fn := fun _ => fun
  | [d] => { results := [.lit (.bool false)], args := [d] }
  | _ => none }
def EscapeSafeWrongFalsely : Prop := escapeSafeRow.holds Try.pinned (OpenSpec.ofChange escapeSafeWrong)

/- THE SECOND FORM. 'bulk': how many values and letters a reading holds, each counted each time it is reached (what is shared counts as often as it is met; a slice's spare places count too). A statement '..UptoSaid' is the law's where the arguments, and the package variables that the reading takes, are together of bulk at most 1048576: NARROWER than '..Said'. Prove '..Said' where nothing that the law and all that it calls make is longer than what came in: it says more and counts as full. Else prove '..UptoSaid'. A law counts once. -/
mutual
def uptoBulk {H : Type} : DataW H → Nat
  | .lit (.string bytes) => bytes.length + 1
  | .lit _ => 1
  | .nil => 1
  | .ptr d => uptoBulk d + 1
  | .slice elems spare => uptoBulkAll elems + uptoBulkAll spare + 1
  | .agg parts => uptoBulkAll parts + 1
  | .iface _ d => uptoBulk d + 1
  | .map entries => uptoBulkEntries entries + 1
  | .held _ => 1
def uptoBulkAll {H : Type} : List (DataW H) → Nat
  | [] => 0
  | d :: r => uptoBulk d + uptoBulkAll r
def uptoBulkEntries {H : Type} : List (Lit × DataW H) → Nat
  | [] => 0
  | x :: r => uptoBulkEntry x + uptoBulkEntries r
def uptoBulkEntry {H : Type} : Lit × DataW H → Nat
  | (.string bytes, d) => bytes.length + uptoBulk d + 1
  | (_, d) => uptoBulk d + 1
 end
def uptoSmall : (H : Type) → List (DataW H) → Bool := fun _ ds => decide (uptoBulkAll ds ≤ 1048576)
def OpenSpec.upto (s : _root_.Go.ChangeSpec) : _root_.Go.OpenSpec := { _root_.Go.OpenSpec.ofChange s with cond := some uptoSmall }

/-- 'bowdlerlaw19.EscapeTells', WHERE WHAT IT READS IS OF BULK AT MOST 1048576: true; the input reads as it did. -/
def escapeTellsUptoRow : OpenClaim := { program := "ytnpnfgjeggdanaa", sum := "26851c09f6d833fc9d687687cfc10d22760c469dfe20878412d0f9eec2e086b2", func := "bowdler/bowdlerlaw19.EscapeTells", spec := "escapeTells", inPlace := ["internal/abi.NoEscape", "internal/bytealg.IndexByteString"], apart := false, narrowed := true }
def EscapeTellsUptoSaid : Prop := escapeTellsUptoRow.holds Try.pinned (OpenSpec.upto escapeTellsSpec)

/-- 'bowdlerlaw19.EscapeNone', WHERE WHAT IT READS IS OF BULK AT MOST 1048576: true; the input reads as it did. -/
def escapeNoneUptoRow : OpenClaim := { program := "ytnpnfgjeggdanaa", sum := "26851c09f6d833fc9d687687cfc10d22760c469dfe20878412d0f9eec2e086b2", func := "bowdler/bowdlerlaw19.EscapeNone", spec := "escapeNone", inPlace := ["internal/abi.NoEscape", "internal/bytealg.IndexByteString"], apart := false, narrowed := true }
def EscapeNoneUptoSaid : Prop := escapeNoneUptoRow.holds Try.pinned (OpenSpec.upto escapeNoneSpec)

/-- 'bowdlerlaw19.EscapeSafe', WHERE WHAT IT READS IS OF BULK AT MOST 1048576: true; the input reads as it did. -/
def escapeSafeUptoRow : OpenClaim := { program := "ytnpnfgjeggdanaa", sum := "26851c09f6d833fc9d687687cfc10d22760c469dfe20878412d0f9eec2e086b2", func := "bowdler/bowdlerlaw19.EscapeSafe", spec := "escapeSafe", inPlace := ["internal/abi.NoEscape", "internal/bytealg.IndexByteString"], apart := false, narrowed := true }
def EscapeSafeUptoSaid : Prop := escapeSafeUptoRow.holds Try.pinned (OpenSpec.upto escapeSafeSpec)

end Rows
end Go.Proofs.Ytnpnfgjeggdanaa
