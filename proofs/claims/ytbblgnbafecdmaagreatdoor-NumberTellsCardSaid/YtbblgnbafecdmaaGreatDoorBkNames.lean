/- Names in a slice; bowdlerbook.SameTexts: the walk. All texts of the book lie in a namespace of their own. -/
import Derived.Test.YtbblgnbafecdmaaGreatDoorStep
import Derived.WalkLawsBesides
import Derived.WalkSpells
import Derived.Lib.OthersKept
import Derived.Lib.Strings
import Derived.Deep.QuietTactic
import Derived.BigQuiet
import Derived.Outline
namespace Go.Proofs.YtbblgnbafecdmaaGreatDoor.bk
open Go.RowKit Go.Lib

theorem ba_eq {a b : ByteArray} (h : a.data.toList = b.data.toList) : a = b := by
  cases a; cases b; simp at h; rw [h]
theorem ba_size (a : ByteArray) : a.size = a.data.toList.length := by cases a; rfl
/-- are two names one? -/
def eqB (a b : ByteArray) : Bool := a.toList == b.toList
theorem eqB_iff {a b : ByteArray} : eqB a b = true ↔ a = b := by
  unfold eqB
  rw [beq_iff_eq, Lib.toList_data, Lib.toList_data]
  exact ⟨ba_eq, fun h => by rw [h]⟩
theorem eqB_false {a b : ByteArray} : eqB a b = false ↔ a ≠ b := by
  rw [← Bool.not_eq_true, ne_eq, not_congr]; exact eqB_iff

/-- names lie in a slice -/
def NamesIn (w : World) (v : Value) (l : List ByteArray) : Prop :=
  (l = [] ∧ ∃ a cap, v = .slice a 0 cap) ∨ ∃ b o cap, v = .slice (some ⟨b, o, none⟩) l.length cap ∧ b < w.heap.size ∧ ∀ i (h : i < l.length), w.cell? ⟨b, o + i, none⟩ = some (.string l[i])
theorem NamesIn.below {w w' : World} {v : Value} {l : List ByteArray} (h : NamesIn w v l) (hb : Below w.heap.size w w') : NamesIn w' v l := by
  rcases h with h | ⟨b, o, cap, hv, hlt, hc⟩
  · exact .inl h
  · exact .inr ⟨b, o, cap, hv, Nat.lt_of_lt_of_le hlt hb.size, fun i hi => (hb.cell (p := ⟨b, o + i, none⟩) hlt).trans (hc i hi)⟩

theorem namesIn_row {w : World} {base : Nat} {v : Value} {L : List ByteArray} (h : w.ownsRow base 9 1 v L.length (L.map .string)) : NamesIn w v L := by
  by_cases hL : L = []
  · subst hL
    rcases h.2 with ⟨rfl, _⟩ | ⟨g, cap, cur, rfl, _⟩
    · exact .inl ⟨rfl, _, _, rfl⟩
    · exact .inl ⟨rfl, _, _, rfl⟩
  · have hn : 0 < (L.map Value.string).length := by rw [List.length_map]; exact List.length_pos_iff.2 hL
    obtain ⟨g, cap, rfl, _⟩ := row_some h hn
    refine .inr ⟨g, 0, cap, rfl, (h.lt g rfl).2, fun i hi => ?_⟩
    rw [h.cellAt (0 + i) (by omega), Nat.zero_add]
    simp [hi]

/-- are two lists of texts one? -/
def sameL (a b : List ByteArray) : Bool := a.map (·.toList) == b.map (·.toList)
theorem sameL_iff {a b : List ByteArray} : sameL a b = true ↔ a = b := by
  unfold sameL
  rw [beq_iff_eq]
  refine ⟨fun h => ?_, fun h => by rw [h]⟩
  have hi : ∀ x y : ByteArray, x.toList = y.toList → x = y := fun x y h => eqB_iff.1 (by unfold eqB; rw [h]; simp)
  exact List.map_inj_right (fun x y h => hi x y h) |>.1 h
theorem sameL_false {a b : List ByteArray} : sameL a b = false ↔ a ≠ b := by
  rw [← Bool.not_eq_true, ne_eq, not_congr]; exact sameL_iff
theorem sameL_len {a b : List ByteArray} (h : a.length ≠ b.length) : sameL a b = false := sameL_false.2 (fun e => h (by rw [e]))
theorem sameL_refl (a : List ByteArray) : sameL a a = true := sameL_iff.2 rfl
theorem NamesIn.form {w : World} {v : Value} {l : List ByteArray} (h : NamesIn w v l) : ∃ a cap, v = .slice a l.length cap := by
  rcases h with ⟨rfl, a, cap, rfl⟩ | ⟨b, o, cap, rfl, -⟩
  · exact ⟨_, _, rfl⟩
  · exact ⟨_, _, rfl⟩
theorem NamesIn.cells {w : World} {v : Value} {l : List ByteArray} {a : Option Addr} {cap : Nat} (h : NamesIn w v l) (hv : v = .slice a l.length cap) (hne : 0 < l.length) : ∃ b o, a = some ⟨b, o, none⟩ ∧ b < w.heap.size ∧ ∀ i (h : i < l.length), w.cell? ⟨b, o + i, none⟩ = some (.string l[i]) := by
  rcases h with ⟨rfl, -⟩ | ⟨b, o, cap', rfl, hb, hc⟩
  · simp at hne
  · simp only [Value.slice.injEq] at hv
    exact ⟨b, o, hv.1.symm, hb, hc⟩

set_option maxRecDepth 100000 in
set_option maxHeartbeats 1000000 in
theorem same_any {w : World} (v u : Value) (L M : List ByteArray) (hv : NamesIn w v L) (hu : NamesIn w u M) (hm : L.length ≤ 100000) (hm2 : M.length ≤ 100000) :
    Calls Tryz.prog 10 #[v, u] w fun e w' => e = .returned (.bool (sameL L M)) ∧ Below w.heap.size w w' := by
  obtain ⟨a, ca, rfl⟩ := hv.form
  obtain ⟨b, cb, rfl⟩ := hu.form
  have HV := Lib.hid hv
  have HU := Lib.hid hu
  clear hv hu
  by_cases hl : L.length = M.length
  · have t1 : ((L.length : Int) == (M.length : Int)) = true := by simp [hl]
    have t2 : ((L.length : Int) != (M.length : Int)) = false := by rw [bne, t1]; rfl
    replace hl := Lib.hid hl
    go_enter Tryz.func10, Tryz.ntmps10
    go_wp2_with fail
    go_loopw [5] (fun i wr => ∃ k : Nat, k ≤ L.length ∧ i = .int .i64 k ∧ Hid (L.take k = M.take k) ∧ Below w.heap.size w wr) (fun i _ => L.length - (RowKit.intOf i).toNat)
    case atStart => exact ⟨0, Nat.zero_le _, rfl, Lib.hid (by simp), Below.refl _ _⟩
    case round =>
      obtain ⟨k, hk, rfl, hE, hB⟩ := hrel
      by_cases hlt : k < L.length
      · have hltM : k < M.length := by rw [← hl.out]; exact hlt
        obtain ⟨b1, o1, rfl, hb1, hc1⟩ := HV.out.cells rfl (by omega)
        obtain ⟨b2, o2, rfl, hb2, hc2⟩ := HU.out.cells rfl (by omega)
        have c1 := (hB.cell (p := ⟨b1, o1 + k, none⟩) hb1).trans (hc1 k hlt)
        have c2 := (hB.cell (p := ⟨b2, o2 + k, none⟩) hb2).trans (hc2 k hltM)
        have hd1 := Lib.hid (List.take_succ_eq_append_getElem hlt)
        have hd2 := Lib.hid (List.take_succ_eq_append_getElem hltM)
        have hne := Lib.hid (show ∀ h : L = M, L[k] = M[k] from fun h => by subst h; rfl)
        clear hc1 hc2
        have hk0 : (0 : Int) ≤ (k : Int) := by omega
        have hk1 : (k : Int) < L.length := by omega
        have hk2 : (k : Int) < M.length := by omega
        generalize L[k] = x at *
        generalize M[k] = y at *
        cases hq : (x.toList == y.toList) with
        | true =>
          have hR := Lib.hid (show L.take (k + 1) = M.take (k + 1) by
            rw [hd1.out, hd2.out, hE.out, eqB_iff.1 (show eqB x y = true from hq)])
          go_wp2_with fail
          go_quiet (fail)
          go_wp2_with fail
          go_roundw
          case rel => exact ⟨k + 1, by omega, by go_num, hR, below_drewN hB _⟩
          case measure => simp only [RowKit.intOf]; omega
        | false =>
          have hR := Lib.hid (show sameL L M = false by
            rw [sameL_false]
            intro h
            have h2 := hne.out h
            rw [h2] at hq
            simp at hq)
          go_wp2_with fail
          go_quiet (fail)
          go_wp2_with fail
          go_ret
          rw [hR.out]
          exact ⟨rfl, below_drewN hB _⟩
      · have hR := Lib.hid (show sameL L M = true by
          rw [sameL_iff]
          have h1 := hE.out
          rw [List.take_of_length_le (by omega), List.take_of_length_le (by rw [← hl.out]; omega)] at h1
          exact h1)
        go_wp2_with fail
        go_ret
        rw [hR.out]
        exact ⟨rfl, hB⟩
  · have t1 : ((L.length : Int) == (M.length : Int)) = false := by rw [beq_eq_false_iff_ne]; omega
    have t2 : ((L.length : Int) != (M.length : Int)) = true := by rw [bne, t1]; rfl
    have hR := Lib.hid (sameL_len hl)
    replace hl := Lib.hid hl
    go_enter Tryz.func10, Tryz.ntmps10
    go_wp2_with fail
    go_ret
    rw [hR.out]
    exact ⟨rfl, Below.refl _ _⟩
end Go.Proofs.YtbblgnbafecdmaaGreatDoor.bk
