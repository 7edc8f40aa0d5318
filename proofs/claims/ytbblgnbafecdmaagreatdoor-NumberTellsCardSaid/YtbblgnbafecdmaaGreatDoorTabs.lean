/- From what the row lists to what the walks ask; a world for the witness in which the listed tables hold what their initialisers lay. -/
import Derived.Test.YtbblgnbafecdmaaGreatDoorNext
import Derived.Test.YtbblgnbafecdmaaGreatDoorRows
import Derived.Lib.LaidU8
import Derived.Lib.LaidTab
import Derived.ProofKit
import Derived.KernelRfl
namespace Go.Proofs.YtbblgnbafecdmaaGreatDoor
open Go.RowKit

theorem tabIs_of_reads {P : Program} {W : World} {name : String} {k : IntKind} {zs : List Int} {g : Nat} {t e : TypeId} {n : Nat}
    (hg : P.globalNamed name = some g) (hty : (P.globals[g]?).map (·.type) = some t) (ht : P.underlying t = some (.array n e)) (he : P.underlying e = some (.int k)) (hce : P.cellsOf e = 1) (hct : P.cellsOf t = n)
    (h : Lib.VarReads P W name (Lib.tabData k zs)) : Lib.TabIs P W name k zs := by
  obtain ⟨g', t', cs, fuel, p, hg', ht', hvar, hd⟩ := h
  obtain rfl := Option.some.inj (hg.symm.trans hg')
  obtain rfl := Option.some.inj (hty.symm.trans ht')
  unfold Lib.TabIs
  rw [hvar, ← Lib.cells_of_tab ht he hce hct hd]

def laidL : List (String × DataW Unit) := [("math/bits.deBruijn32tab", Rows.laid_math_bits_deBruijn32tab), ("math/bits.deBruijn64tab", Rows.laid_math_bits_deBruijn64tab), ("internal/strconv.uint64pow10", Rows.laid_internal_strconv_uint64pow10), ("unicode/utf8.acceptRanges", Rows.laid_unicode_utf8_acceptRanges), ("unicode/utf8.first", Rows.laid_unicode_utf8_first)]
theorem pow_is : (Rows.laid_internal_strconv_uint64pow10 : DataW Unit) = Lib.tabData .u64 Lib.pow10Tab := by kernel_rfl
theorem pow_type : (Tryz.prog.globals[0]?).map (·.type) = some 157 := by kernel_rfl
theorem u8extra : U8Extra Tryz.prog Tryz.lays260_ren := ⟨by kernel_rfl, by kernel_rfl, by kernel_rfl, by kernel_rfl, by kernel_rfl, by kernel_rfl, by kernel_rfl⟩
theorem first_is : Rows.laid_unicode_utf8_first = Lib.firstData := by kernel_rfl
theorem accept_is : (Rows.laid_unicode_utf8_acceptRanges : DataW Unit) = Lib.acceptData := by kernel_rfl
theorem tables_of {W : World} (h : laidMetH Tryz.prog laidL W) : Tabs W := by
  have hp := Lib.laidMet.reads h (.tail _ (.tail _ (.head _)))
  have ha := Lib.laidMet.reads h (.tail _ (.tail _ (.tail _ (.head _))))
  have hf := Lib.laidMet.reads h (.tail _ (.tail _ (.tail _ (.tail _ (.head _)))))
  rw [pow_is] at hp
  rw [first_is] at hf
  rw [accept_is] at ha
  have ht := utf8Tabs_of_reads Tryz.lays260 u8extra hf ha
  exact ⟨ht, World.block_lt_of_cell? W _ (ht.1 0 (by decide)), World.block_lt_of_cell? W _ (ht.2 0 (by decide)).1,
    tabIs_of_reads (by kernel_rfl) pow_type Tryz.underlying157 Tryz.underlying142 (by kernel_rfl) (by kernel_rfl) hp⟩

def numsOf : DataW Unit → List Int
  | .agg l => l.filterMap fun | .lit (.int _ n) => some n | _ => none
  | _ => []
def layTab (k : IntKind) (zs : List Int) : Obj → Obj
  | .cells _ t frozen => .cells (zs.map fun z => Value.int k z).toArray t frozen
  | o => o
def layAccept : Obj → Obj
  | .cells _ t frozen => .cells ((List.range 16).flatMap fun i => [Value.int .u8 (Lib.accLo i), Value.int .u8 (Lib.accHi i)]).toArray t frozen
  | o => o
/-- a world for the witness: the settled one, the tables holding what their initialisers lay -/
noncomputable def laidWorld (os : Os) : World :=
  { World.holding Tryz.prog os ⟨#[], #[], []⟩ with heap := (((((World.holding Tryz.prog os ⟨#[], #[], []⟩).heap.modify 0 (layTab .u64 (numsOf Rows.laid_internal_strconv_uint64pow10))).modify 3 (layTab .u8 (numsOf Rows.laid_math_bits_deBruijn32tab))).modify 4 (layTab .u8 (numsOf Rows.laid_math_bits_deBruijn64tab))).modify 1 (layTab .u8 Lib.firstTab)).modify 2 layAccept }
end Go.Proofs.YtbblgnbafecdmaaGreatDoor
