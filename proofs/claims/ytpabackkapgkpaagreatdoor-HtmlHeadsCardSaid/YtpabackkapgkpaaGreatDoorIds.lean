/- note.Id, note.Back, alive: the walks. -/
import Derived.Test.YtpabackkapgkpaaGreatDoorRef
import Derived.Test.YtpabackkapgkpaaGreatDoorTabs
import Derived.Lib.ItoaLen
namespace Go.Proofs.YtpabackkapgkpaaGreatDoor
open Go.RowKit Go.Lib

theorem itoa_any (n : Int) (h0 : -9223372036854775808 ≤ n) (h1 : n ≤ 9223372036854775807) (w : World) (hT : Tabs w) {X : ByteArray} (hX : X.data.toList = Lib.itoa n) :
    Calls Tryz.prog 43 #[.int .i64 n] w fun e w' => e = .returned (.string X) ∧ Below w.heap.size w w' := by
  refine (Tryz.strconv_Itoa n h0 h1 w hT.tab).mono ?_
  rintro e w' ⟨he, k, os, rfl⟩
  exact ⟨by rw [he]; exact ret_string (ba_eq (by rw [ba_mk, hX])), below_grow _ w (Nat.le_refl _) k os⟩

def idL (n : Int) : List UInt8 := [102, 110, 45] ++ Lib.itoa n
def backL (n t : Int) : List UInt8 := [102, 110, 114, 101, 102, 45] ++ Lib.itoa n ++ [45] ++ Lib.itoa t

theorem tabs_on {w0 w : World} (hT : Tabs w0) (h : Below w0.heap.size w0 w) : Tabs w := hT.on h

set_option maxHeartbeats 400000 in
theorem id_from {w0 w : World} (n : Int) (h0 : -9223372036854775808 ≤ n) (h1 : n ≤ 9223372036854775807) (h : Below w0.heap.size w0 w) (hT : Tabs w0) {Y : ByteArray} (hY : Y.data.toList = idL n) :
    Calls Tryz.prog 21 #[.int .i64 n] w fun e w' => e = .returned (.string Y) ∧ Below w0.heap.size w0 w' := by
  obtain ⟨X, hX⟩ : ∃ X : ByteArray, X.data.toList = Lib.itoa n := ⟨⟨(Lib.itoa n).toArray⟩, ba_mk _⟩
  have hXs : X.size ≤ 21 := by rw [ba_size, hX]; exact itoa_length_le n h0 h1
  have HX := Lib.hid hX
  have HY := Lib.hid hY
  have c1 : ∀ {w : World}, Below w0.heap.size w0 w → Calls Tryz.prog 43 #[.int .i64 n] w fun e w' => e = .returned (.string X) ∧ Below w0.heap.size w0 w' := fun {w} h => (itoa_any n h0 h1 w (tabs_on hT h) hX).mono fun e w' ⟨he, hb⟩ => ⟨he, h.trans (hb.mono h.size)⟩
  clear hX hY
  go_enter Tryz.func21, Tryz.ntmps21
  go_wp2_with fail
  refine (c1 (by assumption)).mono ?_
  rintro e w1 ⟨rfl, hb1⟩
  go_wp2_with fail
  go_ret
  exact ⟨ret_string (ba_eq (by rw [ba_append, HX.out, HY.out]; rfl)), hb1⟩

set_option maxHeartbeats 400000 in
theorem back_from {w0 w : World} (n t : Int) (h0 : -9223372036854775808 ≤ n) (h1 : n ≤ 9223372036854775807) (g0 : -9223372036854775808 ≤ t) (g1 : t ≤ 9223372036854775807) (h : Below w0.heap.size w0 w) (hT : Tabs w0) {Y : ByteArray} (hY : Y.data.toList = backL n t) :
    Calls Tryz.prog 23 #[.int .i64 n, .int .i64 t] w fun e w' => e = .returned (.string Y) ∧ Below w0.heap.size w0 w' := by
  obtain ⟨X, hX⟩ : ∃ X : ByteArray, X.data.toList = Lib.itoa n := ⟨⟨(Lib.itoa n).toArray⟩, ba_mk _⟩
  obtain ⟨Z, hZ⟩ : ∃ X : ByteArray, X.data.toList = Lib.itoa t := ⟨⟨(Lib.itoa t).toArray⟩, ba_mk _⟩
  have hXs : X.size ≤ 21 := by rw [ba_size, hX]; exact itoa_length_le n h0 h1
  have hZs : Z.size ≤ 21 := by rw [ba_size, hZ]; exact itoa_length_le t g0 g1
  have HX := Lib.hid hX
  have HZ := Lib.hid hZ
  have HY := Lib.hid hY
  have c1 : ∀ {w : World}, Below w0.heap.size w0 w → Calls Tryz.prog 43 #[.int .i64 n] w fun e w' => e = .returned (.string X) ∧ Below w0.heap.size w0 w' := fun {w} h => (itoa_any n h0 h1 w (tabs_on hT h) hX).mono fun e w' ⟨he, hb⟩ => ⟨he, h.trans (hb.mono h.size)⟩
  have c2 : ∀ {w : World}, Below w0.heap.size w0 w → Calls Tryz.prog 43 #[.int .i64 t] w fun e w' => e = .returned (.string Z) ∧ Below w0.heap.size w0 w' := fun {w} h => (itoa_any t g0 g1 w (tabs_on hT h) hZ).mono fun e w' ⟨he, hb⟩ => ⟨he, h.trans (hb.mono h.size)⟩
  clear hX hY hZ
  go_enter Tryz.func23, Tryz.ntmps23
  go_wp2_with fail
  refine (c1 (by assumption)).mono ?_
  rintro e w1 ⟨rfl, hb1⟩
  go_wp2_with fail
  refine (c2 (by assumption)).mono ?_
  rintro e w2 ⟨rfl, hb2⟩
  go_wp2_with fail
  go_ret
  exact ⟨ret_string (ba_eq (by rw [ba_append, ba_append, ba_append, HX.out, HZ.out, HY.out]; rfl)), hb2⟩

end Go.Proofs.YtpabackkapgkpaaGreatDoor
