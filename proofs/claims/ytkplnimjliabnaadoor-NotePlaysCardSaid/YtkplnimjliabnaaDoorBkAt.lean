/- bowdlerref1.At: the walk. -/
import Derived.Test.YtkplnimjliabnaaDoorBkNames
namespace Go.Proofs.YtkplnimjliabnaaDoor.bk
open Go.RowKit Go.Lib

/-- the place of a name; -1 -/
def idxN (nm : ByteArray) : List ByteArray → Nat → Int
  | [], _ => -1
  | x :: l, k => if eqB x nm = true then k else idxN nm l (k + 1)
theorem idxN_none {nm : ByteArray} {l : List ByteArray} (h : nm ∉ l) (k : Nat) : idxN nm l k = -1 := by
  induction l generalizing k with
  | nil => rfl
  | cons x l ih =>
    simp only [List.mem_cons, not_or] at h
    unfold idxN
    rw [if_neg (by rw [eqB_iff]; exact fun e => h.1 e.symm)]
    exact ih h.2 _
theorem idxN_some {nm : ByteArray} {l : List ByteArray} (h : nm ∈ l) (k : Nat) : ∃ i, i < l.length ∧ idxN nm l k = ((k + i : Nat) : Int) ∧ l[i]? = some nm ∧ ∀ j, j < i → l[j]? ≠ some nm := by
  induction l generalizing k with
  | nil => cases h
  | cons x l ih =>
    unfold idxN
    by_cases hx : eqB x nm = true
    · have hx' := eqB_iff.1 hx
      exact ⟨0, by simp, by rw [if_pos hx]; simp, by simp [hx'], fun j hj => by omega⟩
    · have hne : x ≠ nm := fun e => hx (eqB_iff.2 e)
      have hm : nm ∈ l := by
        rcases List.mem_cons.1 h with e | h
        · exact absurd e.symm hne
        · exact h
      obtain ⟨i, h1, h2, h3, h4⟩ := ih hm (k + 1)
      refine ⟨i + 1, by simpa using h1, by rw [if_neg hx, h2]; congr 1; omega, by simpa using h3, fun j hj => ?_⟩
      cases j with
      | zero => simpa using hne
      | succ j => simpa using h4 j (by omega)

set_option maxHeartbeats 1000000 in
theorem refAt_any {w : World} (v : Value) (L : List ByteArray) (nm : ByteArray) (hv : NamesIn w v L) (hL : L.length ≤ 100000) :
    Calls Tryd.prog 13 #[v, .string nm] w fun e w' => e = .returned (.int .i64 (idxN nm L 0)) ∧ Below w.heap.size w w' := by
  obtain ⟨a, cap, rfl⟩ := hv.form
  have HV := Lib.hid hv
  have hLi : (L.length : Int) ≤ 100000 := by omega
  clear hv
  go_enter Tryd.func13, Tryd.ntmps13
  go_wp2_with fail
  go_loopw [5] (fun i wr => ∃ k : Nat, k ≤ L.length ∧ i = .int .i64 k ∧ Hid (idxN nm (L.drop k) k = idxN nm L 0) ∧ Below w.heap.size w wr) (fun i _ => L.length - (RowKit.intOf i).toNat)
  case atStart => exact ⟨0, Nat.zero_le _, rfl, Lib.hid (by rw [List.drop_zero]), Below.refl _ _⟩
  case round =>
    obtain ⟨k, hk, rfl, HF, hB⟩ := hrel
    by_cases hlt : k < L.length
    · obtain ⟨b, o, rfl, hb, hcell⟩ := HV.out.cells rfl (by omega)
      have s0 := (hB.cell (p := ⟨b, o + k, none⟩) hb).trans (hcell k hlt)
      have HD := Lib.hid (List.drop_eq_getElem_cons hlt)
      have hki : (k : Int) < L.length := by omega
      have hk0 : (0 : Int) ≤ (k : Int) := by omega
      clear hcell
      generalize L[k] = x at *
      cases hq : (x.toList == nm.toList) with
      | true =>
        have HR := Lib.hid (show idxN nm L 0 = k by rw [← HF.out, HD.out]; unfold idxN; rw [if_pos (show eqB x nm = true from hq)])
        go_wp2_with fail
        go_ret
        refine ⟨?_, hB⟩; rw [HR.out]; rfl
      | false =>
        have HR := Lib.hid (show idxN nm (L.drop (k + 1)) (k + 1) = idxN nm L 0 by
          rw [← HF.out, HD.out]; conv => rhs; unfold idxN
          rw [if_neg (by rw [show eqB x nm = false from hq]; simp)])
        go_wp2_with fail
        go_roundw
        case rel => exact ⟨k + 1, by omega, by go_num, HR, hB⟩
        case measure => simp only [RowKit.intOf]; omega
    · obtain rfl : k = L.length := by omega
      have HR := Lib.hid (show idxN nm L 0 = -1 by rw [← HF.out, List.drop_length]; rfl)
      go_wp2_with fail
      go_ret
      refine ⟨?_, hB⟩; rw [HR.out]; rfl
end Go.Proofs.YtkplnimjliabnaaDoor.bk
