/- The names of entities: what entity.Names, runes and Named answer. -/
import Derived.Test.YtnehpclbflnpaaaDoorRows
import Derived.Test.YtnehpclbflnpaaaDoorNumWalk
import Derived.Lib.AppendIntMem
import Derived.Lib.LaidTab
import Derived.Lib.LaidU8
import Derived.ProofKit
import Derived.KernelRfl
import Derived.Shelf.Vars
namespace Go.Proofs.YtnehpclbflnpaaaDoor
open Go.RowKit Go.Lib

/-- what every walk is told of the world: the table of blanks, and that bytealg.MaxLen holds a number -/
structure Tabs (w : World) : Prop where
  tab : Lib.TabIs Tryd.prog w "strings.asciiSpace" .u8 Lib.asciiSpaceTab
  mlen : ∃ m, w.cell? ⟨2, 0, none⟩ = some (.int .i64 m)

theorem Tabs.on {w w' : World} (h : Tabs w) (hb : Below w.heap.size w w') : Tabs w' :=
  ⟨((Lib.tabBelow_of_tabIs h.tab).on hb).here, by obtain ⟨m, hm⟩ := h.mlen; exact ⟨m, (hb.cell (p := ⟨2, 0, none⟩) (World.block_lt_of_cell? w _ hm)).trans hm⟩⟩

theorem tabIs_of_reads {P : Program} {W : World} {name : String} {k : IntKind} {zs : List Int} {g : Nat} {t e : TypeId} {n : Nat}
    (hg : P.globalNamed name = some g) (hty : (P.globals[g]?).map (·.type) = some t) (ht : P.underlying t = some (.array n e)) (he : P.underlying e = some (.int k)) (hce : P.cellsOf e = 1) (hct : P.cellsOf t = n)
    (h : Lib.VarReads P W name (Lib.tabData k zs)) : Lib.TabIs P W name k zs := by
  obtain ⟨g', t', cs, fuel, p, hg', ht', hvar, hd⟩ := h
  obtain rfl := Option.some.inj (hg.symm.trans hg')
  obtain rfl := Option.some.inj (hty.symm.trans ht')
  unfold Lib.TabIs
  rw [hvar, ← Lib.cells_of_tab ht he hce hct hd]

def laidL : List (String × DataW Unit) := [("unicode.White_Space", Rows.laid_unicode_White_Space), ("strings.asciiSpace", Rows.laid_strings_asciiSpace)]
theorem spc_is : (Rows.laid_strings_asciiSpace : DataW Unit) = Lib.tabData .u8 Lib.asciiSpaceTab := by kernel_rfl
theorem spc_type : (Tryd.prog.globals[0]?).map (·.type) = some 78 := by kernel_rfl
theorem tables_of {W : World} (h : laidMetH Tryd.prog laidL W) (hs : W.ShapedOpen Tryd.prog) : Tabs W := by
  have hf := Lib.laidMet.reads h (.tail _ (.head _))
  rw [spc_is] at hf
  have ht := tabIs_of_reads (by kernel_rfl) spc_type Tryd.underlying78 Tryd.underlying5 (by kernel_rfl) (by kernel_rfl) hf
  obtain ⟨m, hm⟩ := Go.Proofs.cell_of_shapedOpen_int (P := Tryd.prog) (g := 2) (zero := #[.int .i64 0]) (t := 3) hs (of_decide_eq_true (by kernel_rfl)) (by kernel_rfl) rfl (by kernel_rfl) (by kernel_rfl) Tryd.underlying3
  exact ⟨ht, m, hm⟩

def namesC : ByteArray := ⟨#[97, 109, 112, 32, 108, 116, 32, 103, 116, 32, 113, 117, 111, 116, 32, 97, 112, 111, 115, 32, 110, 98, 115, 112, 32, 99, 111, 112, 121, 32, 114, 101, 103, 32, 100, 101, 103, 32, 115, 101, 99, 116, 32, 112, 97, 114, 97, 32, 109, 105, 100, 100, 111, 116, 32, 101, 97, 99, 117, 116, 101, 32, 97, 117, 109, 108, 32, 111, 117, 109, 108, 32, 117, 117, 109, 108, 32, 115, 122, 108, 105, 103, 32, 110, 100, 97, 115, 104, 32, 109, 100, 97, 115, 104, 32, 104, 101, 108, 108, 105, 112, 32, 101, 117, 114, 111, 32, 108, 97, 114, 114, 32, 114, 97, 114, 114]⟩
def namesL : List (List UInt8) := [[97, 109, 112], [108, 116], [103, 116], [113, 117, 111, 116], [97, 112, 111, 115], [110, 98, 115, 112], [99, 111, 112, 121], [114, 101, 103], [100, 101, 103], [115, 101, 99, 116], [112, 97, 114, 97], [109, 105, 100, 100, 111, 116], [101, 97, 99, 117, 116, 101], [97, 117, 109, 108], [111, 117, 109, 108], [117, 117, 109, 108], [115, 122, 108, 105, 103], [110, 100, 97, 115, 104], [109, 100, 97, 115, 104], [104, 101, 108, 108, 105, 112], [101, 117, 114, 111], [108, 97, 114, 114], [114, 97, 114, 114]]
def runesL : List Int := [38, 60, 62, 34, 39, 160, 169, 174, 176, 167, 182, 183, 233, 228, 246, 252, 223, 8211, 8212, 8230, 8364, 8592, 8594]
set_option maxRecDepth 100000 in
theorem names_is : Lib.fields namesC.data.toList = namesL := by decide +kernel
theorem names_ascii : ∀ (j : Nat) b, namesC.data.toList[j]? = some b → b.toNat < 128 := by
  have key : ∀ b ∈ namesC.data.toList, b.toNat < 128 := by decide +kernel
  intro j b h
  exact key b (List.mem_of_getElem? h)
/-- the list of names lies at block g -/
def NamesAt (g : Nat) (w : World) : Prop := w.heap[g]? = some (.cells (namesL.map fun l => Value.string ⟨l.toArray⟩).toArray 9 (0, 0))
theorem fields_names (w : World) (hT : Tabs w) : Calls Tryd.prog 24 #[.string namesC] w fun e w' => e = .returned (.slice (some ⟨w.heap.size, 0, none⟩) 23 23) ∧ NamesAt w.heap.size w' ∧ Below w.heap.size w w' := by
  refine (Tryd.strings_Fields_laid namesC w (by decide) names_ascii hT.tab).mono ?_
  rw [names_is]
  rintro e w' ⟨rfl, rfl⟩
  exact ⟨rfl, by unfold NamesAt; exact heap_alloc_new w _, (Below.refl _ _).alloc (Nat.le_refl _) _⟩
set_option maxRecDepth 100000 in
set_option maxHeartbeats 400000 in
theorem names_any {w : World} (hT : Tabs w) : Calls Tryd.prog 14 #[] w fun e w' => e = .returned (.slice (some ⟨w.heap.size, 0, none⟩) 23 23) ∧ NamesAt w.heap.size w' ∧ Below w.heap.size w w' := by
  have hf := fun w hT => fields_names w hT
  unfold namesC at hf
  go_enter Tryd.func14, Tryd.ntmps14
  go_wp2_with fail
  refine (hf _ hT).mono ?_
  rintro e w1 ⟨rfl, hn, hb⟩
  have hn := Lib.hid hn
  go_wp2_with fail
  go_ret
  exact ⟨rfl, hn.out, hb⟩
def RunesAt (g : Nat) (w : World) : Prop := w.heap[g]? = some (.cells (runesL.map fun r => Value.int .i32 r).toArray 21 (0, 0))
set_option maxRecDepth 100000 in
set_option maxHeartbeats 1000000 in
theorem runes_any {w : World} : Calls Tryd.prog 23 #[] w fun e w' => e = .returned (.slice (some ⟨w.heap.size, 0, none⟩) 23 23) ∧ RunesAt w.heap.size w' ∧ Below w.heap.size w w' := by
  go_enter Tryd.func23, Tryd.ntmps23
  go_wp2_with fail
  go_ret
  refine ⟨rfl, ?_, ?_⟩
  · exact heap_alloc_new w _
  · exact (Below.refl _ _).alloc (Nat.le_refl _) _

/-- what a name stands for -/
def namedR (l : List UInt8) : List UInt8 × Bool := if namesL.idxOf l < 23 then (encodeRune (runesL.getD (namesL.idxOf l) 0), true) else ([], false)
theorem named_cell {g : Nat} {w : World} (h : NamesAt g w) {k : Nat} (hk : k < 23) : w.cell? ⟨g, k, none⟩ = some (.string ⟨(namesL.getD k []).toArray⟩) := by
  have hl : namesL.length = 23 := rfl
  unfold NamesAt at h
  rw [cell_of_row w g k _ _ _ h]
  simp [List.getElem?_map, List.getElem?_eq_getElem (show k < namesL.length by rw [hl]; exact hk)]
theorem runes_cell {g : Nat} {w : World} (h : RunesAt g w) {k : Nat} (hk : k < 23) : w.cell? ⟨g, k, none⟩ = some (.int .i32 (runesL.getD k 0)) := by
  have hl : runesL.length = 23 := rfl
  unfold RunesAt at h
  rw [cell_of_row w g k _ _ _ h]
  simp [List.getElem?_map, List.getElem?_eq_getElem (show k < runesL.length by rw [hl]; exact hk)]
theorem idx_le {l : List UInt8} {L : List (List UInt8)} {k : Nat} (h : L.getD k [] = l) (hk : k < L.length) : L.idxOf l ≤ k := by
  rw [List.getD_eq_getElem?_getD, List.getElem?_eq_getElem hk] at h
  induction L generalizing k with
  | nil => simp at hk
  | cons a L ih =>
    rw [List.idxOf_cons]
    cases k with
    | zero => simp at h; simp [h]
    | succ k =>
      cases hq : (a == l) with
      | true => simp
      | false => simp only [cond_false]; have := ih (k := k) (by simpa using hk) (by simpa using h); omega
set_option maxRecDepth 100000 in
set_option maxHeartbeats 1000000 in
theorem named_any {w : World} (nm : ByteArray) (hT : Tabs w) : Calls Tryd.prog 13 #[.string nm] w fun e w' => e = .returned (.tuple #[.string ⟨(namedR nm.data.toList).1.toArray⟩, .bool (namedR nm.data.toList).2]) ∧ Below w.heap.size w w' := by
  go_enter Tryd.func13, Tryd.ntmps13
  go_wp2_with fail
  refine (names_any hT).mono ?_
  rintro e w1 ⟨rfl, hn, hb⟩
  have hn := Lib.hid hn
  go_wp2_with fail
  go_loopw [8] (fun i wr => ∃ k : Nat, k ≤ 23 ∧ i = .int .i64 k ∧ Below w.heap.size w wr ∧ Hid (NamesAt w.heap.size wr) ∧ Hid (∀ j, j < k → namesL.getD j [] ≠ nm.data.toList) ∧ w.heap.size < wr.heap.size) (fun i _ => 23 - (RowKit.intOf i).toNat)
  case atStart => exact ⟨0, by omega, rfl, hb, hn, Lib.hid (fun j hj => by omega), (Array.getElem?_eq_some_iff.1 hn.out).1⟩
  case round =>
    obtain ⟨k, hk, rfl, hB, hN, hno, hlt⟩ := hrel
    by_cases hk2 : k < 23
    · have hc := named_cell hN.out hk2
      obtain ⟨x, hx⟩ : ∃ x, namesL.getD k [] = x := ⟨_, rfl⟩
      rw [hx] at hc
      have hx := Lib.hid hx
      cases hq : (x == nm.toList) with
      | true =>
        have he := beq_iff_eq.1 hq
        rw [Lib.toList_data] at he
        have hr := @runes_any
        have he := Lib.hid he
        have hR := Lib.hid (show namedR nm.data.toList = (encodeRune (runesL.getD k 0), true) by
          have hix : namesL.idxOf nm.data.toList = k := by
            have h1 : namesL.idxOf nm.data.toList ≤ k := idx_le (by rw [hx.out]; exact he.out) hk2
            rcases Nat.lt_or_ge (namesL.idxOf nm.data.toList) k with h2 | h2
            · exfalso
              have h3 : namesL.idxOf nm.data.toList < namesL.length := Nat.lt_trans h2 hk2
              exact hno.out _ h2 (by rw [List.getD_eq_getElem?_getD, List.getElem?_eq_getElem h3]; exact List.getElem_idxOf h3)
            · omega
          unfold namedR
          rw [hix, if_pos hk2])
        go_wp2_with (first | (go_at_call 23; refine (hr).mono ?_; rintro e w2 ⟨rfl, hr2, hb2⟩; have hrc := runes_cell hr2 hk2; have hr2 := Lib.hid hr2; obtain ⟨z, hz⟩ : ∃ z, runesL.getD k 0 = z := ⟨_, rfl⟩; rw [hz] at hrc hR; have hz := Lib.hid hz; have hk0 : 0 ≤ (k : Int) := by omega))
        go_ret2
        rw [hR.out]
        refine ⟨?_, hB.trans (hb2.mono (Nat.le_of_lt hlt))⟩
        dsimp only
        rw [← utf8_enc z]; rfl
      | false =>
        have he : x ≠ nm.data.toList := by
          intro h9
          rw [h9, Lib.toList_data, beq_self_eq_true] at hq
          cases hq
        have he := Lib.hid he
        go_wp2_with fail
        go_roundw
        case rel =>
          refine ⟨k + 1, by omega, by go_num, hB, hN, Lib.hid (fun j hj => ?_), hlt⟩
          rcases Nat.lt_or_ge j k with h1 | h1
          · exact hno.out j h1
          · obtain rfl : j = k := by omega
            rw [hx.out]; exact he.out
        case measure => simp only [RowKit.intOf]; omega
    · have hk3 : decide ((k : Int) < 23) = false := by simp only [decide_eq_false_iff_not]; omega
      go_wp2_with fail
      go_ret2
      refine ⟨?_, hB⟩
      have hR : namedR nm.data.toList = ([], false) := by
        unfold namedR
        rw [if_neg]
        intro hlt2
        exact hno.out _ (Nat.lt_of_lt_of_le hlt2 (by omega)) (by rw [List.getD_eq_getElem?_getD, List.getElem?_eq_getElem (by exact hlt2)]; exact List.getElem_idxOf hlt2)
      rw [hR]; rfl
end Go.Proofs.YtnehpclbflnpaaaDoor
