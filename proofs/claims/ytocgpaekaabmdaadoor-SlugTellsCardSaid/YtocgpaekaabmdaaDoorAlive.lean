/- alive: the walk. -/
import Derived.Test.YtocgpaekaabmdaaDoorNext
namespace Go.Proofs.YtocgpaekaabmdaaDoor
open Go.RowKit Go.Lib

theorem next_first {f x : List UInt8} (h : NextIs [] f x) : x = f :=
  h.uniq ⟨1, Nat.le_refl _, by unfold cand; rw [if_pos (Nat.le_refl 1)], by simp, fun j h1 h2 => by omega⟩
theorem slug_ab : slugL [65, 32, 98, 33] = [97, 45, 98] := by decide +kernel
theorem slug_ab1 : slugL [65, 32, 98] = [97, 45, 98] := by decide +kernel
theorem slug_ab2 : slugL [97, 32, 66, 33] = [97, 45, 98] := by decide +kernel
theorem slug_q : slugL [63] = [115, 101, 99, 116, 105, 111, 110] := by decide +kernel
theorem itoa_2 : Lib.itoa 2 = [50] := by decide +kernel
theorem next_ab2 {x : List UInt8} (h : NextIs ([] ++ [[97, 45, 98]]) [97, 45, 98] x) : x = [97, 45, 98, 45, 50] := by
  refine h.uniq ⟨2, by omega, ?_, ?_, fun j h1 h2 => ?_⟩
  · unfold cand; rw [if_neg (by omega)]
    show _ = _ ++ 45 :: Lib.itoa 2
    rw [itoa_2]; rfl
  · unfold cand; rw [if_neg (by omega)]
    show ¬ _ ++ 45 :: Lib.itoa 2 ∈ _
    rw [itoa_2]; decide
  · obtain rfl : j = 1 := by omega
    unfold cand; rw [if_pos (Nat.le_refl 1)]; simp

theorem of_list {w : World} (s : ByteArray) (l r : List UInt8) (hl : s.data.toList = l) (hr : slugL l = r) (hs : l.length ≤ 300000) (hT : Tabs w) :
    Calls Tryd.prog 10 #[.string s] w fun e w' => e = .returned (.string ⟨r.toArray⟩) ∧ Below w.heap.size w w' := by
  have := of_any s hT (by rw [ba_size, hl]; exact hs)
  rw [hl, hr] at this
  exact this

open Classical in
set_option maxRecDepth 100000 in
set_option maxHeartbeats 2000000 in
theorem alive_any {w : World} (hT : Tabs w) : Calls Tryd.prog 8 #[] w fun e w' => e = .returned (.bool true) ∧ Below w.heap.size w w' := by
  have o1 : ∀ w, Tabs w → Calls Tryd.prog 10 #[.string ⟨#[65, 32, 98, 33]⟩] w fun e w' => e = .returned (.string ⟨#[97, 45, 98]⟩) ∧ Below w.heap.size w w' := fun w hT => of_list _ _ _ rfl slug_ab (by simp) hT
  have o2 : ∀ w, Tabs w → Calls Tryd.prog 10 #[.string ⟨#[63]⟩] w fun e w' => e = .returned (.string ⟨#[115, 101, 99, 116, 105, 111, 110]⟩) ∧ Below w.heap.size w w' := fun w hT => of_list _ _ _ rfl slug_q (by simp) hT
  have HL := Lib.hid hT.low
  have HT := Lib.hid hT
  clear hT
  go_enter Tryd.func8, Tryd.ntmps8
  go_wp2_with fail
  have HA0 := Lib.hid (AncAt.fresh w.heap.size w (Nat.le_refl _))
  have HB0 := Lib.hid ((Below.refl w.heap.size w).alloc (Nat.le_refl _) (.cells #[.map none] 27))
  refine (o1 _ (HT.out.on HB0.out)).mono ?_
  rintro e w1 ⟨rfl, hb1⟩
  have hz : w.heap.size + 1 ≤ w1.heap.size := by have := hb1.size; simpa using this
  have HA1 := Lib.hid (HA0.out.below hb1)
  have HB1 := Lib.hid (HB0.out.trans (hb1.mono HB0.out.size))
  clear hb1
  go_wp2_with fail
  refine (next_any HA1.out ⟨#[65, 32, 98]⟩ (HT.out.under HL.out HB1.out) (by decide) (by simp) (by omega) HL.out).mono ?_
  rintro e w2 ⟨ID, rfl, hn, -, ⟨F2, hA2, hF2⟩, hfr2⟩
  have hid : ID.data.toList = [97, 45, 98] := by
    have := next_first hn
    rw [show (⟨#[65, 32, 98]⟩ : ByteArray).data.toList = [65, 32, 98] from rfl, slug_ab1] at this
    exact this
  have hid2 : ID = ⟨#[97, 45, 98]⟩ := ba_eq (by rw [hid])
  subst hid2
  have HB2 := Lib.hid (HB1.out.trans (hfr2.to_below (fun k hk => (HA1.out.lt k hk).1) HB1.out.size))
  have HA2 := Lib.hid hA2
  clear hn hF2 hfr2 hA2 hid
  go_wp2_with fail
  refine (next_any HA2.out ⟨#[97, 32, 66, 33]⟩ (HT.out.under HL.out HB2.out) (by decide) (by simp) HB2.out.size HL.out).mono ?_
  rintro e w3 ⟨ID, rfl, hn, -, ⟨F3, hA3, hF3⟩, hfr3⟩
  have hid : ID.data.toList = [97, 45, 98, 45, 50] := by
    rw [show (⟨#[97, 32, 66, 33]⟩ : ByteArray).data.toList = [97, 32, 66, 33] from rfl, slug_ab2] at hn
    exact next_ab2 hn
  have hid2 : ID = ⟨#[97, 45, 98, 45, 50]⟩ := ba_eq (by rw [hid])
  subst hid2
  have HB3 := Lib.hid (HB2.out.trans (hfr3.to_below (fun k hk => (HA2.out.lt k hk).1) HB2.out.size))
  have HA3 := Lib.hid hA3
  clear hn hF3 hfr3 hA3 hid
  have c1 : Hid (∀ w', AncAt w.heap.size F3 w.heap.size ([] ++ [[97, 45, 98]] ++ [[97, 45, 98, 45, 50]]) w' → Calls Tryd.prog 12 #[.pointer (some ⟨w.heap.size, 0, none⟩), .string ⟨#[97, 45, 98, 45, 50]⟩] w' fun e w2 => e = .returned (.bool true) ∧ Below w'.heap.size w' w2) := fun w' h => (has_any h ⟨#[97, 45, 98, 45, 50]⟩ (by decide)).mono fun e w2 ⟨he, hb⟩ => ⟨by rw [he]; simp, hb⟩
  have c2 : Hid (∀ w', AncAt w.heap.size F3 w.heap.size ([] ++ [[97, 45, 98]] ++ [[97, 45, 98, 45, 50]]) w' → Calls Tryd.prog 12 #[.pointer (some ⟨w.heap.size, 0, none⟩), .string ⟨#[97]⟩] w' fun e w2 => e = .returned (.bool false) ∧ Below w'.heap.size w' w2) := fun w' h => (has_any h ⟨#[97]⟩ (by decide)).mono fun e w2 ⟨he, hb⟩ => ⟨by rw [he]; simp, hb⟩
  go_wp2_with fail
  refine (c1.out _ HA3.out).mono ?_
  rintro e w4 ⟨rfl, hb4⟩
  have HA4 := Lib.hid (HA3.out.below hb4)
  have HB4 := Lib.hid (HB3.out.trans (hb4.mono HB3.out.size))
  clear hb4
  go_wp2_with fail
  refine (c2.out _ HA4.out).mono ?_
  rintro e w5 ⟨rfl, hb5⟩
  have HB5 := Lib.hid (HB4.out.trans (hb5.mono HB4.out.size))
  clear hb5
  go_wp2_with fail
  refine (o2 _ (HT.out.under HL.out HB5.out)).mono ?_
  rintro e w6 ⟨rfl, hb6⟩
  have HB6 := Lib.hid (HB5.out.trans (hb6.mono HB5.out.size))
  clear hb6
  go_wp2_with fail
  go_ret
  exact ⟨rfl, HB6.out⟩
end Go.Proofs.YtocgpaekaabmdaaDoor
