/- EscapeTells: the references of Href and Attr, and the walk. -/
import Derived.Test.YtnpnfgjeggdanaaRefs3
namespace Go.Proofs.Ytnpnfgjeggdanaa
open Go.RowKit Go.Lib

theorem esc_ref_as {w0 w : World} {X Y : ByteArray} (hY : Y.data.toList = escL X.data.toList) (hs : X.size ≤ 1000000) (h : Below w0.heap.size w0 w) :
    Calls Try.prog 8 #[.string X] w fun e w' => e = .returned (.string Y) ∧ Below w0.heap.size w0 w' :=
  (esc_ref_any X w hs).mono fun e w' ⟨he, hw⟩ => ⟨by rw [he]; exact ret_string (ba_eq (by rw [ba_mk, hY])), by rw [hw]; exact h⟩

set_option maxHeartbeats 1000000 in
theorem href_ref_as {w0 w : World} {s H : ByteArray} (hH : H.data.toList = hrefL s.data.toList) (h : Below w0.heap.size w0 w) (hs : s.size ≤ 300000) :
    Calls Try.prog 10 #[.string s] w fun e w' => e = .returned (.string H) ∧ Below w0.heap.size w0 w' := by
  obtain ⟨X, hX⟩ : ∃ X : ByteArray, X.data.toList = encL s.data.toList := ⟨⟨(encL s.data.toList).toArray⟩, ba_mk _⟩
  have hXs : X.size ≤ 1000000 := by have := encL_length s.data.toList; rw [← hX, ← ba_size, ← ba_size] at this; omega
  have cE : ∀ {w : World}, Below w0.heap.size w0 w → Calls Try.prog 18 #[.string s] w fun e w' => e = .returned (.string X) ∧ Below w0.heap.size w0 w' := fun {w} h => (encode_ref_from s h (by omega)).mono fun e w' ⟨he, hb⟩ => ⟨by rw [he]; exact ret_string (ba_eq (by rw [ba_mk, hX])), hb⟩
  have cS : ∀ {w : World}, Below w0.heap.size w0 w → Calls Try.prog 17 #[.string s] w fun e w' => e = .returned (.bool (safeB s.data.toList)) ∧ Below w0.heap.size w0 w' := fun {w} h => (safe_ref_from s h (by omega)).mono fun e w' ⟨he, hb⟩ => ⟨by rw [he, safeRB_eq], hb⟩
  have HX := Lib.hid hX
  have HH := Lib.hid hH
  clear hX hH
  cases hb : safeB s.data.toList with
  | true =>
    have cT : ∀ {w : World}, Below w0.heap.size w0 w → Calls Try.prog 8 #[.string X] w fun e w' => e = .returned (.string H) ∧ Below w0.heap.size w0 w' := fun {w} h => esc_ref_as (by rw [HH.out]; unfold hrefL; rw [if_pos hb, HX.out]) hXs h
    go_enter Try.func10, Try.ntmps10
    go_wp2_with fail
    refine (cS (by assumption)).mono ?_
    rintro e w1 ⟨rfl, hb1⟩
    go_wp2_with fail
    refine (cE (by assumption)).mono ?_
    rintro e w2 ⟨rfl, hb2⟩
    go_wp2_with fail
    refine (cT (by assumption)).mono ?_
    rintro e w3 ⟨rfl, hb3⟩
    go_wp2_with fail
    go_ret
    exact ⟨rfl, by assumption⟩
  | false =>
    go_enter Try.func10, Try.ntmps10
    go_wp2_with fail
    refine (cS (by assumption)).mono ?_
    rintro e w1 ⟨rfl, hb1⟩
    go_wp2_with fail
    go_ret
    exact ⟨ret_string (ba_eq (by rw [HH.out]; unfold hrefL; rw [hb]; rfl)), by assumption⟩

set_option maxHeartbeats 1000000 in
theorem attr_ref_as {w0 w : World} {n v A : ByteArray} (hA : A.data.toList = attrL n.data.toList v.data.toList) (h : Below w0.heap.size w0 w) (hn : n.size ≤ 1000000) (hv : v.size ≤ 1000000) :
    Calls Try.prog 12 #[.string n, .string v] w fun e w' => e = .returned (.string A) ∧ Below w0.heap.size w0 w' := by
  have HA := Lib.hid hA
  clear hA
  by_cases h0 : v.size = 0
  · have hl : v.data.toList = [] := List.eq_nil_of_length_eq_zero (by rw [← ba_size]; exact h0)
    have hv0 : v = ⟨#[]⟩ := ba_eq (by rw [hl])
    subst hv0
    go_enter Try.func12, Try.ntmps12
    go_wp2_with fail
    go_ret
    exact ⟨ret_string (ba_eq HA.out.symm), by assumption⟩
  · have hl : v.data.toList ≠ [] := by intro hh; apply h0; rw [ba_size, hh]; rfl
    have hne : v.toList.isEmpty = false := by
      rw [Lib.toList_data]
      cases hq : v.data.toList with
      | nil => exact absurd hq hl
      | cons a t => rfl
    obtain ⟨X, hX⟩ : ∃ X : ByteArray, X.data.toList = escL v.data.toList := ⟨⟨(escL v.data.toList).toArray⟩, ba_mk _⟩
    have hsz : X.size ≤ 6000000 := by have := escL_length v.data.toList; rw [← hX, ← ba_size, ← ba_size] at this; omega
    have cE : ∀ {w : World}, Below w0.heap.size w0 w → Calls Try.prog 8 #[.string v] w fun e w' => e = .returned (.string X) ∧ Below w0.heap.size w0 w' := fun {w} h => esc_ref_as hX hv h
    have HX := Lib.hid hX
    have HL := Lib.hid hl
    clear hX hl
    go_enter Try.func12, Try.ntmps12
    go_wp2_with fail
    refine (cE (by assumption)).mono ?_
    rintro e w3 ⟨rfl, hb3⟩
    go_wp2_with fail
    go_ret
    refine ⟨ret_string (ba_eq ?_), by assumption⟩
    rw [HA.out, attrL, if_neg HL.out]
    simp only [ba_append]
    rw [HX.out]

theorem attr_length (n v : List UInt8) : (attrL n v).length ≤ 6 * v.length + n.length + 4 := by
  unfold attrL
  split
  · simp
  · have := escL_length v
    simp; omega

theorem Attr_as {w0 w : World} {N X Y : ByteArray} (hX : Y.data.toList = attrL N.data.toList X.data.toList) (hn : N.size ≤ 1000000) (hs : X.size ≤ 1000000) (h : Below w0.heap.size w0 w) :
    Calls Try.prog 11 #[.string N, .string X] w fun e w' => e = .returned (.string Y) ∧ Below w0.heap.size w0 w' := Attr_lit hX.symm hn hs h

set_option maxHeartbeats 1000000 in
theorem tells_from {w0 w : World} (s n : ByteArray) (h : Below w0.heap.size w0 w) (hs : s.size ≤ 9223372036854775807) (hn : n.size ≤ 9223372036854775807) :
    Calls Try.prog 3 #[.string s, .string n] w fun e w' => e = .returned (.bool true) ∧ Below w0.heap.size w0 w' := by
  by_cases hc : s.size ≤ 300 ∧ n.size ≤ 60
  · obtain ⟨hs2, hn2⟩ := hc
    have hi1 : (s.size : Int) ≤ 300 := by omega
    have hi2 : (n.size : Int) ≤ 60 := by omega
    obtain ⟨E, hE⟩ : ∃ E : ByteArray, E.data.toList = escL s.data.toList := ⟨⟨(escL s.data.toList).toArray⟩, ba_mk _⟩
    obtain ⟨H, hH⟩ : ∃ H : ByteArray, H.data.toList = hrefL s.data.toList := ⟨⟨(hrefL s.data.toList).toArray⟩, ba_mk _⟩
    obtain ⟨A, hA⟩ : ∃ A : ByteArray, A.data.toList = attrL n.data.toList s.data.toList := ⟨⟨(attrL n.data.toList s.data.toList).toArray⟩, ba_mk _⟩
    have c1 : ∀ {w : World}, Below w0.heap.size w0 w → Calls Try.prog 7 #[.string s] w fun e w' => e = .returned (.string E) ∧ Below w0.heap.size w0 w' := fun {w} h => Text_as hE (by omega) h
    have c2 : ∀ {w : World}, Below w0.heap.size w0 w → Calls Try.prog 8 #[.string s] w fun e w' => e = .returned (.string E) ∧ Below w0.heap.size w0 w' := fun {w} h => esc_ref_as hE (by omega) h
    have c3 : ∀ {w : World}, Below w0.heap.size w0 w → Calls Try.prog 9 #[.string s] w fun e w' => e = .returned (.string H) ∧ Below w0.heap.size w0 w' := fun {w} h => Href_as hH (by omega) h
    have c4 : ∀ {w : World}, Below w0.heap.size w0 w → Calls Try.prog 10 #[.string s] w fun e w' => e = .returned (.string H) ∧ Below w0.heap.size w0 w' := fun {w} h => href_ref_as hH h (by omega)
    have c5 : ∀ {w : World}, Below w0.heap.size w0 w → Calls Try.prog 11 #[.string n, .string s] w fun e w' => e = .returned (.string A) ∧ Below w0.heap.size w0 w' := fun {w} h => Attr_as hA (by omega) (by omega) h
    have c6 : ∀ {w : World}, Below w0.heap.size w0 w → Calls Try.prog 12 #[.string n, .string s] w fun e w' => e = .returned (.string A) ∧ Below w0.heap.size w0 w' := fun {w} h => attr_ref_as hA h (by omega) (by omega)
    clear hE hH hA
    go_enter Try.func3, Try.ntmps3
    go_wp2_with fail
    refine (alive_from (w0 := w0) (by assumption)).mono ?_
    rintro e w1 ⟨rfl, hb1⟩
    go_wp2_with fail
    refine (c1 (by assumption)).mono ?_
    rintro e w2 ⟨rfl, hb2⟩
    go_wp2_with fail
    refine (c2 (by assumption)).mono ?_
    rintro e w3 ⟨rfl, hb3⟩
    go_wp2_with fail
    refine (c3 (by assumption)).mono ?_
    rintro e w4 ⟨rfl, hb4⟩
    go_wp2_with fail
    refine (c4 (by assumption)).mono ?_
    rintro e w5 ⟨rfl, hb5⟩
    go_wp2_with fail
    refine (c5 (by assumption)).mono ?_
    rintro e w6 ⟨rfl, hb6⟩
    go_wp2_with fail
    refine (c6 (by assumption)).mono ?_
    rintro e w7 ⟨rfl, hb7⟩
    go_wp2_with fail
    go_ret
    exact ⟨ret_bool (by first | rfl | simp), by assumption⟩
  · have hi : 300 < (s.size : Int) ∨ ((s.size : Int) ≤ 300 ∧ 60 < (n.size : Int)) := by omega
    rcases hi with hi | ⟨hi, hj⟩
    all_goals
      go_enter Try.func3, Try.ntmps3
      go_wp2_with fail
      refine (alive_from (w0 := w0) (by assumption)).mono ?_
      rintro e w1 ⟨rfl, hb1⟩
      go_wp2_with fail
      go_ret
      exact ⟨rfl, by assumption⟩
theorem escapeTells_walk (s n : ByteArray) (W : World) (hs : s.size ≤ 9223372036854775807) (hn : n.size ≤ 9223372036854775807) :
    Calls Try.prog 3 #[.string s, .string n] W fun e w' => e = .returned (.bool true) ∧ Below W.heap.size W w' := tells_from s n (Below.refl _ _) hs hn
end Go.Proofs.Ytnpnfgjeggdanaa
