/- The walks over cross.Find, cross.Call and their references. -/
import Derived.Test.YtpabackkapgkpaaGreatDoorCrossData
namespace Go.Proofs.YtpabackkapgkpaaGreatDoor
open Go.RowKit




set_option maxHeartbeats 400000 in
theorem call_any (s : Sec) (numbers : Bool) (w : World) :
    Calls Tryz.prog 77 #[s.val, .bool numbers] w fun e w' => e = .returned (.string (callSec s numbers)) ∧ Below w.heap.size w w' := by
  unfold Sec.val
  cases numbers
  all_goals
    go_enter Tryz.func77, Tryz.ntmps77
    go_wp2
  all_goals go_ret
  all_goals exact ⟨ret_string (by simp [callSec, *]), (Below.refl _ _).alloc (Nat.le_refl _) _⟩

set_option maxHeartbeats 400000 in
theorem find_any (anchor : ByteArray) (v : Value) (l : List Sec) (w : World) (h : SecsIn w w.heap.size v l) :
    Calls Tryz.prog 76 #[.string anchor, v] w fun e w' => e = .returned (.tuple #[(findSec anchor l).1.val, .bool (findSec anchor l).2]) ∧ Below w.heap.size w w' := by
  obtain ⟨a, cap, rfl, hc, hm, hnil, h⟩ := h
  go_enter Tryz.func76, Tryz.ntmps76
  go_wp2
  go_loopw [10] (fun i wr => ∃ k : Nat, k ≤ l.length ∧ i = .int .i64 k ∧ findSec anchor (l.drop k) = findSec anchor l ∧ Below w.heap.size w wr ∧ wr.heap[w.heap.size]? = some (.cells #[.int .i64 0, .string ⟨#[]⟩, .string ⟨#[]⟩, .string ⟨#[]⟩] 29)) (fun i _ => l.length - (intOf i).toNat)
  case atStart => exact ⟨0, Nat.zero_le _, rfl, by simp, (Below.refl _ _).alloc (Nat.le_refl _) _, heap_alloc_new w _⟩
  case round =>
    obtain ⟨k, hk, rfl, hf, hb, hcell⟩ := hrel
    by_cases hlt : k < l.length
    · obtain ⟨b, o, rfl, hbl, hs⟩ := h.resolve_left (by intro h; simp [h] at hlt)
      have hs' := (hs k hlt).below hb hbl
      have s0 := hs'.c0
      have s1 := hs'.c1
      have s2 := hs'.c2
      have s3 := hs'.c3
      obtain ⟨c0, c1, c2, c3, f0, f1, f2, f3, hz⟩ := block4 hcell
      have H1 := Lib.hid hf
      have H2 := Lib.hid hcell
      clear hcell
      clear hf hs h hs'
      have hd := List.drop_eq_getElem_cons hlt
      have H3 := Lib.hid hd
      clear hd
      go_wp2
      · have ht : (l[k].anchor.toList == anchor.toList) = true := by assumption
        refine bodyPost_ret (v := .tuple #[.agg #[.int .i64 l[k].level, .string l[k].number, .string l[k].anchor, .string l[k].text], .bool true]) (by simp [results, Tryz.results76, go_sem, c0, c1, c2, c3, hz]) rfl ⟨?_, ?_⟩
        · rw [← H1.out, H3.out]; simp [findSec, ht, Sec.val]
        · refine Below.alloc (Below.setCell (Below.setCell (Below.setCell (Below.setCell hb ?_ _) ?_ _) ?_ _) ?_ _) ?_ _ <;> first | exact Nat.le_refl _ | (simp; omega)
      · have ht : (l[k].anchor.toList == anchor.toList) = false := by assumption
        go_roundw
        case rel =>
          refine ⟨k + 1, by omega, by go_num, ?_, Below.alloc hb (by omega) _, (heap_alloc_old _ _ hz).trans H2.out⟩
          rw [← H1.out, H3.out]; simp [findSec, ht]
        case measure => simp [intOf]; omega
    · obtain ⟨c0, c1, c2, c3, f0, f1, f2, f3, hz⟩ := block4 hcell
      have H1 := Lib.hid hf
      clear hf hcell
      have hk' : k = l.length := by omega
      have H2 := Lib.hid hk'
      clear hk'
      go_wp2
      refine bodyPost_ret (v := .tuple #[.agg #[.int .i64 0, .string ⟨#[]⟩, .string ⟨#[]⟩, .string ⟨#[]⟩], .bool false]) (by simp [results, Tryz.results76, go_sem, c0, c1, c2, c3]) rfl ⟨?_, ?_⟩
      · rw [← H1.out, H2.out]; simp [findSec, Sec.zero, Sec.val]
      · refine Below.setCell (Below.setCell (Below.setCell (Below.setCell hb ?_ _) ?_ _) ?_ _) ?_ _ <;> exact Nat.le_refl _
end Go.Proofs.YtpabackkapgkpaaGreatDoor
