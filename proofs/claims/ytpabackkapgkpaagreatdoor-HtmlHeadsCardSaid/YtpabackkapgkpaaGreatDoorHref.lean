/- escape.Href, escape.Attr, alive: the walks. -/
import Derived.Test.YtpabackkapgkpaaGreatDoorSafe
namespace Go.Proofs.YtpabackkapgkpaaGreatDoor
open Go.RowKit Go.Lib

def hrefL (l : List UInt8) : List UInt8 := if safeB l then escL (encL l) else [35]

theorem text_go {w0 w : World} {X : ByteArray} {t : List UInt8} (hX : X.data.toList = t) (h : Below w0.heap.size w0 w) (hs : X.size ≤ 2000000) :
    Calls Tryz.prog 18 #[.string X] w fun e w' => e = .returned (.string ⟨(escL t).toArray⟩) ∧ Below w0.heap.size w0 w' := by
  rw [← hX]; exact text_from X h hs

set_option maxHeartbeats 1000000 in
theorem href_from {w0 w : World} (s : ByteArray) (h : Below w0.heap.size w0 w) (hs : s.size ≤ 300000) :
    Calls Tryz.prog 24 #[.string s] w fun e w' => e = .returned (.string ⟨(hrefL s.data.toList).toArray⟩) ∧ Below w0.heap.size w0 w' := by
  have hen := encL_length s.data.toList
  rw [← ba_size] at hen
  have hsz : (⟨(encL s.data.toList).toArray⟩ : ByteArray).size ≤ 2000000 := by rw [ba_size, ba_mk]; omega
  have hX : (⟨(encL s.data.toList).toArray⟩ : ByteArray).data.toList = encL s.data.toList := ba_mk _
  generalize (⟨(encL s.data.toList).toArray⟩ : ByteArray) = X at *
  have hE : ∀ {w : World}, Below w0.heap.size w0 w → Calls Tryz.prog 45 #[.string s] w fun e w' => e = .returned (.string X) ∧ Below w0.heap.size w0 w' := fun {w} h => (encode_from s h (by omega)).mono fun e w' ⟨he, hb⟩ => ⟨by rw [he, show X = ⟨(encL s.data.toList).toArray⟩ from ba_eq (by rw [hX, ba_mk])], hb⟩
  have HX := Lib.hid hX
  clear hX hen
  cases hb : safeB s.data.toList with
  | true =>
    go_enter Tryz.func24, Tryz.ntmps24
    go_wp2_with (first | (go_at_call 44; refine (safe_from (w0 := w0) _ (by assumption) (by omega)).mono ?_; rintro e w1 ⟨rfl, hb1⟩) | (go_at_call 45; refine (hE (by assumption)).mono ?_; rintro e w2 ⟨rfl, hb2⟩) | (go_at_call 18; refine (text_go HX.out (by assumption) hsz).mono ?_; rintro e w3 ⟨rfl, hb3⟩))
    go_ret
    exact ⟨by unfold hrefL; rw [hb]; rfl, by assumption⟩
  | false =>
    go_enter Tryz.func24, Tryz.ntmps24
    go_wp2_with (first | (go_at_call 44; refine (safe_from (w0 := w0) _ (by assumption) (by omega)).mono ?_; rintro e w1 ⟨rfl, hb1⟩))
    go_ret
    exact ⟨by unfold hrefL; rw [hb]; rfl, by assumption⟩

def attrL (n v : List UInt8) : List UInt8 := if v = [] then [] else [32] ++ n ++ [61, 34] ++ escL v ++ [34]

set_option maxHeartbeats 1000000 in
theorem attr_from {w0 w : World} (n v : ByteArray) (h : Below w0.heap.size w0 w) (hn : n.size ≤ 2000000) (hv : v.size ≤ 2000000) :
    Calls Tryz.prog 22 #[.string n, .string v] w fun e w' => e = .returned (.string ⟨(attrL n.data.toList v.data.toList).toArray⟩) ∧ Below w0.heap.size w0 w' := by
  by_cases h0 : v.size = 0
  · have hl : v.data.toList = [] := List.eq_nil_of_length_eq_zero (by rw [← ba_size]; exact h0)
    have hv0 : v = ⟨#[]⟩ := ba_eq (by rw [hl])
    subst hv0
    go_enter Tryz.func22, Tryz.ntmps22
    go_wp2_with fail
    go_ret
    exact ⟨rfl, by assumption⟩
  · have hl : v.data.toList ≠ [] := by intro hh; apply h0; rw [ba_size, hh]; rfl
    have hne : v.toList.isEmpty = false := by
      rw [Lib.toList_data]
      cases hq : v.data.toList with
      | nil => exact absurd hq hl
      | cons a t => rfl
    have hlen := escL_length v.data.toList
    rw [← ba_size] at hlen
    have hsz : (⟨(escL v.data.toList).toArray⟩ : ByteArray).size ≤ 12000000 := by rw [ba_size, ba_mk]; omega
    have hX : (⟨(escL v.data.toList).toArray⟩ : ByteArray).data.toList = escL v.data.toList := ba_mk _
    generalize (⟨(escL v.data.toList).toArray⟩ : ByteArray) = X at *
    have hE : ∀ {w : World}, Below w0.heap.size w0 w → Calls Tryz.prog 18 #[.string v] w fun e w' => e = .returned (.string X) ∧ Below w0.heap.size w0 w' := fun {w} h => (text_from v h (by omega)).mono fun e w' ⟨he, hb⟩ => ⟨by rw [he, show X = ⟨(escL v.data.toList).toArray⟩ from ba_eq (by rw [hX, ba_mk])], hb⟩
    have HX := Lib.hid hX
    have HL := Lib.hid hl
    clear hX hlen hl
    go_enter Tryz.func22, Tryz.ntmps22
    go_wp2_with (first | (go_at_call 18; refine (hE (by assumption)).mono ?_; rintro e w3 ⟨rfl, hb3⟩))
    go_ret
    refine ⟨ret_string (ba_eq ?_), by assumption⟩
    rw [ba_mk, attrL, if_neg HL.out]
    simp only [ba_append]
    rw [HX.out]

theorem Esc_lit {w0 w : World} {X Y : ByteArray} (hX : escL X.data.toList = Y.data.toList) (hs : X.size ≤ 2000000) (h : Below w0.heap.size w0 w) :
    Calls Tryz.prog 18 #[.string X] w fun e w' => e = .returned (.string Y) ∧ Below w0.heap.size w0 w' :=
  (text_from X h hs).mono fun e w' ⟨he, hb⟩ => ⟨by rw [he]; exact ret_string (ba_eq (by rw [ba_mk, hX])), hb⟩
theorem Href_lit {w0 w : World} {X Y : ByteArray} (hX : hrefL X.data.toList = Y.data.toList) (hs : X.size ≤ 300000) (h : Below w0.heap.size w0 w) :
    Calls Tryz.prog 24 #[.string X] w fun e w' => e = .returned (.string Y) ∧ Below w0.heap.size w0 w' :=
  (href_from X h hs).mono fun e w' ⟨he, hb⟩ => ⟨by rw [he]; exact ret_string (ba_eq (by rw [ba_mk, hX])), hb⟩
theorem Attr_lit {w0 w : World} {N X Y : ByteArray} (hX : attrL N.data.toList X.data.toList = Y.data.toList) (hn : N.size ≤ 2000000) (hs : X.size ≤ 2000000) (h : Below w0.heap.size w0 w) :
    Calls Tryz.prog 22 #[.string N, .string X] w fun e w' => e = .returned (.string Y) ∧ Below w0.heap.size w0 w' :=
  (attr_from N X h hn hs).mono fun e w' ⟨he, hb⟩ => ⟨by rw [he]; exact ret_string (ba_eq (by rw [ba_mk, hX])), hb⟩

end Go.Proofs.YtpabackkapgkpaaGreatDoor
