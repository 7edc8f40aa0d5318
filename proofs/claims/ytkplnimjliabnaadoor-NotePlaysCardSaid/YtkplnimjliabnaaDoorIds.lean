/- note.Id, note.Back, alive: the walks. -/
import Derived.Test.YtkplnimjliabnaaDoorRef
import Derived.Test.YtkplnimjliabnaaDoorTabs
import Derived.Lib.ItoaLen
namespace Go.Proofs.YtkplnimjliabnaaDoor
open Go.RowKit Go.Lib

theorem itoa_any (n : Int) (h0 : -9223372036854775808 ≤ n) (h1 : n ≤ 9223372036854775807) (w : World) (hT : Tabs w) {X : ByteArray} (hX : X.data.toList = Lib.itoa n) :
    Calls Tryd.prog 19 #[.int .i64 n] w fun e w' => e = .returned (.string X) ∧ Below w.heap.size w w' := by
  refine (Tryd.strconv_Itoa n h0 h1 w hT.tab).mono ?_
  rintro e w' ⟨he, k, os, rfl⟩
  exact ⟨by rw [he]; exact ret_string (ba_eq (by rw [ba_mk, hX])), below_grow _ w (Nat.le_refl _) k os⟩

def idL (n : Int) : List UInt8 := [102, 110, 45] ++ Lib.itoa n
def backL (n t : Int) : List UInt8 := [102, 110, 114, 101, 102, 45] ++ Lib.itoa n ++ [45] ++ Lib.itoa t

theorem tabs_on {w0 w : World} (hT : Tabs w0) (h : Below w0.heap.size w0 w) : Tabs w := hT.on h

set_option maxHeartbeats 400000 in
theorem id_from {w0 w : World} (n : Int) (h0 : -9223372036854775808 ≤ n) (h1 : n ≤ 9223372036854775807) (h : Below w0.heap.size w0 w) (hT : Tabs w0) {Y : ByteArray} (hY : Y.data.toList = idL n) :
    Calls Tryd.prog 7 #[.int .i64 n] w fun e w' => e = .returned (.string Y) ∧ Below w0.heap.size w0 w' := by
  obtain ⟨X, hX⟩ : ∃ X : ByteArray, X.data.toList = Lib.itoa n := ⟨⟨(Lib.itoa n).toArray⟩, ba_mk _⟩
  have hXs : X.size ≤ 21 := by rw [ba_size, hX]; exact itoa_length_le n h0 h1
  have HX := Lib.hid hX
  have HY := Lib.hid hY
  have c1 : ∀ {w : World}, Below w0.heap.size w0 w → Calls Tryd.prog 19 #[.int .i64 n] w fun e w' => e = .returned (.string X) ∧ Below w0.heap.size w0 w' := fun {w} h => (itoa_any n h0 h1 w (tabs_on hT h) hX).mono fun e w' ⟨he, hb⟩ => ⟨he, h.trans (hb.mono h.size)⟩
  clear hX hY
  go_enter Tryd.func7, Tryd.ntmps7
  go_wp2_with fail
  refine (c1 (by assumption)).mono ?_
  rintro e w1 ⟨rfl, hb1⟩
  go_wp2_with fail
  go_ret
  exact ⟨ret_string (ba_eq (by rw [ba_append, HX.out, HY.out]; rfl)), hb1⟩

set_option maxHeartbeats 400000 in
theorem back_from {w0 w : World} (n t : Int) (h0 : -9223372036854775808 ≤ n) (h1 : n ≤ 9223372036854775807) (g0 : -9223372036854775808 ≤ t) (g1 : t ≤ 9223372036854775807) (h : Below w0.heap.size w0 w) (hT : Tabs w0) {Y : ByteArray} (hY : Y.data.toList = backL n t) :
    Calls Tryd.prog 8 #[.int .i64 n, .int .i64 t] w fun e w' => e = .returned (.string Y) ∧ Below w0.heap.size w0 w' := by
  obtain ⟨X, hX⟩ : ∃ X : ByteArray, X.data.toList = Lib.itoa n := ⟨⟨(Lib.itoa n).toArray⟩, ba_mk _⟩
  obtain ⟨Z, hZ⟩ : ∃ X : ByteArray, X.data.toList = Lib.itoa t := ⟨⟨(Lib.itoa t).toArray⟩, ba_mk _⟩
  have hXs : X.size ≤ 21 := by rw [ba_size, hX]; exact itoa_length_le n h0 h1
  have hZs : Z.size ≤ 21 := by rw [ba_size, hZ]; exact itoa_length_le t g0 g1
  have HX := Lib.hid hX
  have HZ := Lib.hid hZ
  have HY := Lib.hid hY
  have c1 : ∀ {w : World}, Below w0.heap.size w0 w → Calls Tryd.prog 19 #[.int .i64 n] w fun e w' => e = .returned (.string X) ∧ Below w0.heap.size w0 w' := fun {w} h => (itoa_any n h0 h1 w (tabs_on hT h) hX).mono fun e w' ⟨he, hb⟩ => ⟨he, h.trans (hb.mono h.size)⟩
  have c2 : ∀ {w : World}, Below w0.heap.size w0 w → Calls Tryd.prog 19 #[.int .i64 t] w fun e w' => e = .returned (.string Z) ∧ Below w0.heap.size w0 w' := fun {w} h => (itoa_any t g0 g1 w (tabs_on hT h) hZ).mono fun e w' ⟨he, hb⟩ => ⟨he, h.trans (hb.mono h.size)⟩
  clear hX hY hZ
  go_enter Tryd.func8, Tryd.ntmps8
  go_wp2_with fail
  refine (c1 (by assumption)).mono ?_
  rintro e w1 ⟨rfl, hb1⟩
  go_wp2_with fail
  refine (c2 (by assumption)).mono ?_
  rintro e w2 ⟨rfl, hb2⟩
  go_wp2_with fail
  go_ret
  exact ⟨ret_string (ba_eq (by rw [ba_append, ba_append, ba_append, HX.out, HZ.out, HY.out]; rfl)), hb2⟩

theorem alive_i1 : idxName ⟨#[97]⟩ [] 0 = -1 := by decide +kernel
theorem alive_i2 : idxName ⟨#[98]⟩ [⟨#[97]⟩] 0 = -1 := by decide +kernel
theorem alive_i3 : idxName ⟨#[97]⟩ [⟨#[97]⟩, ⟨#[98]⟩] 0 = ((0 : Nat) : Int) := by decide +kernel
theorem alive_d1 : [102, 110, 45, 51] = idL 3 := by decide +kernel
theorem alive_d2 : [102, 110, 114, 101, 102, 45, 49, 45, 50] = backL 1 2 := by decide +kernel
theorem small_names (l : List ByteArray) (h : (l.all fun x => decide (x.size ≤ 9223372036854775807)) = true) : ∀ x ∈ l, x.size ≤ 9223372036854775807 := fun x hx => by
  have := List.all_eq_true.1 h x hx; simpa using this

set_option maxHeartbeats 2000000 in
theorem alive_from {w0 w : World} (h : Below w0.heap.size w0 w) (hT : Tabs w0) : Calls Tryd.prog 6 #[] w fun e w' => e = .returned (.bool true) ∧ Below w0.heap.size w0 w' := by
  have c4 : ∀ {w : World}, Below w0.heap.size w0 w → Calls Tryd.prog 7 #[.int .i64 3] w fun e w' => e = .returned (.string ⟨#[102, 110, 45, 51]⟩) ∧ Below w0.heap.size w0 w' := fun h => id_from 3 (by decide) (by decide) h hT alive_d1
  have c5 : ∀ {w : World}, Below w0.heap.size w0 w → Calls Tryd.prog 8 #[.int .i64 1, .int .i64 2] w fun e w' => e = .returned (.string ⟨#[102, 110, 114, 101, 102, 45, 49, 45, 50]⟩) ∧ Below w0.heap.size w0 w' := fun h => back_from 1 2 (by decide) (by decide) (by decide) (by decide) h hT alive_d2
  have hs0 := h.size
  have hB1 := h.alloc hs0 (.cells #[.slice none 0 0, .slice none 0 0] 30)
  have N0 := NotesAt.fresh (T := 30) (base := w0.heap.size) w hs0
  go_enter Tryd.func6, Tryd.ntmps6
  go_wp2_with fail
  refine (ref_new N0 alive_i1 (by decide) (by decide) (small_names _ (by decide)) hB1.size).mono ?_
  rintro e w1 ⟨rfl, ⟨F1, N1, hF1⟩, fr1⟩
  have hB2 := fr1.on_below (fun k hk => (N0.lt k hk).1) hB1 (Nat.le_refl _)
  go_wp2_with fail
  refine (ref_new N1 alive_i2 (by decide) (by decide) (small_names _ (by decide)) hB2.size).mono ?_
  rintro e w2 ⟨rfl, ⟨F2, N2, hF2⟩, fr2⟩
  have hB3 := fr2.on_below (fun k hk => (N1.lt k hk).1) hB2 (Nat.le_refl _)
  go_wp2_with fail
  refine (ref_found (k := 0) (c := 1) N2 rfl alive_i3 (by decide) (by decide) (small_names _ (by decide)) (by decide) (by decide)).mono ?_
  rintro e w3 ⟨rfl, N3, fr3⟩
  have hB4 := fr3.on_below (fun k hk => (N2.lt k hk).1) hB3 (Nat.le_refl _)
  go_wp2_with fail
  refine (c4 hB4).mono ?_
  rintro e w4 ⟨rfl, hB5⟩
  go_wp2_with fail
  refine (c5 hB5).mono ?_
  rintro e w5 ⟨rfl, hB6⟩
  go_wp2_with fail
  go_ret
  exact ⟨rfl, hB6⟩
end Go.Proofs.YtkplnimjliabnaaDoor
