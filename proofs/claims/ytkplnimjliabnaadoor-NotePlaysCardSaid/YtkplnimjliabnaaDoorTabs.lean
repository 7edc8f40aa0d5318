/- The tables of the library that a number's digits lean on: from what the row lists to what the walks ask. -/
import Derived.Test.YtkplnimjliabnaaDoorRows
import Derived.Test.YtkplnimjliabnaaDoorShelf
import Derived.Lib.LaidU8
import Derived.Lib.LaidTab
import Derived.Lib.AppendIntMem
import Derived.ProofKit
import Derived.KernelRfl
namespace Go.Proofs.YtkplnimjliabnaaDoor
open Go.RowKit

/-- what every law's walk is told of the world: the table of the powers of ten -/
structure Tabs (w : World) : Prop where
  tab : Lib.TabIs Tryd.prog w "internal/strconv.uint64pow10" .u64 Lib.pow10Tab

theorem Tabs.on {w w' : World} (h : Tabs w) (hb : Below w.heap.size w w') : Tabs w' := ⟨((Lib.tabBelow_of_tabIs h.tab).on hb).here⟩

theorem tabIs_of_reads {P : Program} {W : World} {name : String} {k : IntKind} {zs : List Int} {g : Nat} {t e : TypeId} {n : Nat}
    (hg : P.globalNamed name = some g) (hty : (P.globals[g]?).map (·.type) = some t) (ht : P.underlying t = some (.array n e)) (he : P.underlying e = some (.int k)) (hce : P.cellsOf e = 1) (hct : P.cellsOf t = n)
    (h : Lib.VarReads P W name (Lib.tabData k zs)) : Lib.TabIs P W name k zs := by
  obtain ⟨g', t', cs, fuel, p, hg', ht', hvar, hd⟩ := h
  obtain rfl := Option.some.inj (hg.symm.trans hg')
  obtain rfl := Option.some.inj (hty.symm.trans ht')
  unfold Lib.TabIs
  rw [hvar, ← Lib.cells_of_tab ht he hce hct hd]

def laidL : List (String × DataW Unit) := [("math/bits.deBruijn32tab", Rows.laid_math_bits_deBruijn32tab), ("math/bits.deBruijn64tab", Rows.laid_math_bits_deBruijn64tab), ("internal/strconv.uint64pow10", Rows.laid_internal_strconv_uint64pow10)]
theorem pow_is : (Rows.laid_internal_strconv_uint64pow10 : DataW Unit) = Lib.tabData .u64 Lib.pow10Tab := by kernel_rfl
theorem pow_type : (Tryd.prog.globals[0]?).map (·.type) = some 120 := by kernel_rfl
theorem tables_of {W : World} (h : laidMetH Tryd.prog laidL W) : Tabs W := by
  have hf := Lib.laidMet.reads h (.tail _ (.tail _ (.head _)))
  rw [pow_is] at hf
  exact ⟨tabIs_of_reads (by kernel_rfl) pow_type Tryd.underlying120 Tryd.underlying113 (by kernel_rfl) (by kernel_rfl) hf⟩

/-- what a list of numbers reads as -/
def numsOf : DataW Unit → List Int
  | .agg l => l.filterMap fun | .lit (.int _ n) => some n | _ => none
  | _ => []
def layTab (k : IntKind) (zs : List Int) : Obj → Obj
  | .cells _ t frozen => .cells (zs.map fun z => Value.int k z).toArray t frozen
  | o => o
/-- a world for the witness: the settled one, the tables holding what their initialisers lay -/
noncomputable def laidWorld (os : Os) : World :=
  { World.holding Tryd.prog os ⟨#[], #[], []⟩ with heap := (((World.holding Tryd.prog os ⟨#[], #[], []⟩).heap.modify 0 (layTab .u64 (numsOf Rows.laid_internal_strconv_uint64pow10))).modify 1 (layTab .u8 (numsOf Rows.laid_math_bits_deBruijn32tab))).modify 2 (layTab .u8 (numsOf Rows.laid_math_bits_deBruijn64tab)) }
end Go.Proofs.YtkplnimjliabnaaDoor
