/- holder: the walk. -/
import Derived.Test.YtpabackkapgkpaaGreatDoorHLeave
namespace Go.Proofs.YtpabackkapgkpaaGreatDoor
open Go.RowKit Go.Lib

set_option maxHeartbeats 4000000 in
set_option maxRecDepth 100000 in
theorem holder_any {w : World} {x : Blk} (hT : Tabs w) (hx : x.Small) :
    Calls Tryz.prog 36 #[x.val] w fun e w' => ∃ A B : ByteArray, e = .returned (.tuple #[.string A, .string B, .bool (holds x)]) ∧ A.data.toList = (holderL x).1 ∧ B.data.toList = (holderL x).2 ∧ Below w.heap.size w w' := by
  obtain ⟨-, hi, -, hn, -⟩ := hx
  obtain ⟨kd, dp, nn, ti, tx, inf⟩ := x
  simp only at hi hn
  unfold Blk.val
  simp only
  have hA := (Below.refl w.heap.size w).alloc (Nat.le_refl _) (.cells #[.int .i64 kd, .int .i64 dp, .int .i64 nn, .bool ti, .string tx, .string inf] 50)
  have q2 : (w.alloc (.cells #[.int .i64 kd, .int .i64 dp, .int .i64 nn, .bool ti, .string tx, .string inf] 50)).cell? ⟨w.heap.size, 2, none⟩ = some (.int .i64 nn) := by rw [Lib.cell_of_heap (heap_alloc_new w _)]; rfl
  have q5 : (w.alloc (.cells #[.int .i64 kd, .int .i64 dp, .int .i64 nn, .bool ti, .string tx, .string inf] 50)).cell? ⟨w.heap.size, 5, none⟩ = some (.string inf) := by rw [Lib.cell_of_heap (heap_alloc_new w _)]; rfl
  by_cases k3 : kd = 3
  · subst k3
    go_enter Tryz.func36, Tryz.ntmps36
    go_wp2_with fail
    go_ret3
    exact ⟨_, _, rfl, by simp [holderL], by simp [holderL], hA⟩
  by_cases k4 : kd = 4
  · subst k4
    by_cases n1 : nn = -1
    · subst n1
      go_enter Tryz.func36, Tryz.ntmps36
      go_wp2_with fail
      go_ret3
      exact ⟨_, _, rfl, by simp [holderL], by simp [holderL], hA⟩
    by_cases n2 : nn = 1
    · subst n2
      go_enter Tryz.func36, Tryz.ntmps36
      go_wp2_with fail
      go_ret3
      exact ⟨_, _, rfl, by simp [holderL], by simp [holderL], hA⟩
    · obtain ⟨D, hD⟩ : ∃ Y : ByteArray, Y.data.toList = Lib.itoa nn := ⟨_, ba_mk _⟩
      have hDs : D.size ≤ 21 := by rw [ba_size, hD]; exact itoa_len nn hn.1 hn.2
      obtain ⟨Z, hZ, hZs⟩ := ex_attr [115, 116, 97, 114, 116] D.data.toList
      have a1 := attrL_length [115, 116, 97, 114, 116] D.data.toList
      rw [← ba_size] at a1
      simp only [List.length_cons, List.length_nil] at a1
      have HD := Lib.hid hD
      have HZ := Lib.hid hZ
      have HT := Lib.hid hT
      clear hD hZ hT
      go_enter Tryz.func36, Tryz.ntmps36
      go_wp2_with (first
        | (go_at_call 43; refine (itoa_any nn (by omega) (by omega) _ (HT.out.on hA) HD.out).mono ?_; rintro e w2 ⟨rfl, hb2⟩; have hB2 := hA.trans (hb2.mono hA.size))
        | (go_at_call 22; refine (Attr_lit (w0 := w) (N := ⟨#[115, 116, 97, 114, 116]⟩) (X := D) (Y := Z) HZ.out.symm (by decide) (by omega) hB2).mono ?_; rintro e w3 ⟨rfl, hb3⟩))
      go_ret3
      have e9 := HZ.out
      rw [HD.out] at e9
      exact ⟨_, _, rfl, by simp [holderL, e9, n1, n2], by simp [holderL, n1, n2], hb3⟩
  by_cases k5 : kd = 5
  · subst k5
    go_enter Tryz.func36, Tryz.ntmps36
    go_wp2_with fail
    go_ret3
    exact ⟨_, _, rfl, by simp [holderL], by simp [holderL], hA⟩
  by_cases k9 : kd = 9
  · subst k9
    obtain ⟨Z, hZ, hZs⟩ := ex_attr [99, 108, 97, 115, 115] inf.data.toList
    have a1 := attrL_length [99, 108, 97, 115, 115] inf.data.toList
    rw [← ba_size] at a1
    simp only [List.length_cons, List.length_nil] at a1
    have HZ := Lib.hid hZ
    clear hZ
    go_enter Tryz.func36, Tryz.ntmps36
    go_wp2_with (go_at_call 22; refine (Attr_lit (w0 := w) (N := ⟨#[99, 108, 97, 115, 115]⟩) (X := inf) (Y := Z) HZ.out.symm (by decide) (by omega) hA).mono ?_; rintro e w3 ⟨rfl, hb3⟩)
    go_ret3
    exact ⟨_, _, rfl, by simp [holderL, HZ.out], by simp [holderL], hb3⟩
  · have e1 : holderL ⟨kd, dp, nn, ti, tx, inf⟩ = ([], []) := by simp [holderL, k3, k4, k5, k9]
    have e2 : holds ⟨kd, dp, nn, ti, tx, inf⟩ = false := by simp [holds, k3, k4, k5, k9]
    rw [e1, e2]
    go_enter Tryz.func36, Tryz.ntmps36
    go_wp2_with fail
    go_ret3
    exact ⟨_, _, rfl, rfl, rfl, hA⟩
end Go.Proofs.YtpabackkapgkpaaGreatDoor
