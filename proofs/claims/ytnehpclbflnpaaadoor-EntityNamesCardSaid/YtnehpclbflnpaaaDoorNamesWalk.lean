/- EntityNames and EntityLengths: the walks. -/
import Derived.Test.YtnehpclbflnpaaaDoorPlainWalk
namespace Go.Proofs.YtnehpclbflnpaaaDoor
open Go.RowKit Go.Lib

theorem mod_23 (k : Int) : ∃ m : Nat, m < 23 ∧ (wrap64 (k.tmod 23 + 23)).tmod 23 = m := by
  have h1 := Int.tmod_lt_of_pos k (show (0 : Int) < 23 by omega)
  have h2 := Int.lt_tmod_of_pos k (show (0 : Int) < 23 by omega)
  rw [IntWalk.wrap64_in _ (by omega), Int.tmod_eq_emod_of_nonneg (by omega)]
  have h3 := Int.emod_nonneg (k.tmod 23 + 23) (show (23 : Int) ≠ 0 by omega)
  have h4 := Int.emod_lt_of_pos (k.tmod 23 + 23) (show (0 : Int) < 23 by omega)
  exact ⟨((k.tmod 23 + 23) % 23).toNat, by omega, by omega⟩
theorem named_list {w : World} (s : ByteArray) (l : List UInt8) (r : List UInt8 × Bool) (hl : s.data.toList = l) (hr : namedR l = r) (hT : Tabs w) :
    Calls Tryd.prog 13 #[.string s] w fun e w' => e = .returned (.tuple #[.string ⟨r.1.toArray⟩, .bool r.2]) ∧ Below w.heap.size w w' := by
  have := named_any (w := w) s hT
  rw [hl, hr] at this
  exact this

set_option maxRecDepth 100000 in
set_option maxHeartbeats 1000000 in
theorem entityNames_walk (k : Int) (s : ByteArray) (w : World) (hT : Tabs w) (hk : -9223372036854775808 ≤ k ∧ k ≤ 9223372036854775807) (hs : s.size ≤ 9223372036854775807) :
    Calls Tryd.prog 6 #[.int .i64 k, .string s] w fun e w' => e = .returned (.bool true) ∧ Below w.heap.size w w' := by
  have ha := fun w => @alive_any w
  obtain ⟨hk0, hk1⟩ := hk
  by_cases h : s.size ≤ 40
  · obtain ⟨m, hm, hmk⟩ := mod_23 k
    have hm0 : 0 ≤ (m : Int) := by omega
    have hm23 : (m : Int) < 23 := by omega
    have hcell : Hid (∀ w', NamesAt w.heap.size w' → w'.cell? ⟨w.heap.size, m, none⟩ = some (.string ⟨(namesL.getD m []).toArray⟩)) := fun w' h => named_cell h hm
    have hmem : namesL.getD m [] ∈ namesL := by
      rw [List.getD_eq_getElem?_getD, List.getElem?_eq_getElem (show m < namesL.length from hm)]; exact List.getElem_mem _
    generalize namesL.getD m [] = n at hcell hmem
    obtain ⟨f1, f2, f3, f4, f5, -⟩ := names_form n hmem
    obtain ⟨N, hN⟩ : ∃ N : ByteArray, N = ⟨n.toArray⟩ := ⟨_, rfl⟩
    have hNl : N.data.toList = n := by rw [hN]
    have hNs : N.size ≤ 6 := by rw [ba_size, hNl]; exact f3
    rw [← hN] at hcell
    have hsl : s.data.toList.length ≤ 40 := by rw [← ba_size]; exact h
    obtain ⟨a1, a2⟩ := at_named hmem s.data.toList
    have a3 := at_named_no hmem s.data.toList
    obtain ⟨X, hX⟩ : ∃ X, namedR n = X := ⟨_, rfl⟩
    rw [hX] at a1 a2
    obtain ⟨X1, X2⟩ := X
    dsimp only at a1 a2
    subst a2
    obtain ⟨Y, hY⟩ : ∃ Y, atR (38 :: (n ++ 32 :: 59 :: s.data.toList)) = Y := ⟨_, rfl⟩
    rw [hY] at a3
    obtain ⟨Y1, Y2⟩ := Y
    dsimp only at a3
    subst a3
    have c1 : ∀ w, Tabs w → Calls Tryd.prog 13 #[.string N] w fun e w' => e = .returned (.tuple #[.string ⟨X1.toArray⟩, .bool true]) ∧ Below w.heap.size w w' := fun w hT => named_list N _ _ hNl hX hT
    have c2 : ∀ w, Tabs w → Calls Tryd.prog 9 #[.string (⟨#[38]⟩ ++ N ++ ⟨#[59]⟩ ++ s)] w fun e w' => e = .returned (.tuple #[.string ⟨X1.toArray⟩, .int .i64 (N.size + 2)]) ∧ Below w.heap.size w w' := fun w hT => by
      have := at_list (w := w) (⟨#[38]⟩ ++ N ++ ⟨#[59]⟩ ++ s) _ _ (by simp [hNl]) a1 (by simp only [List.length_cons, List.length_append]; omega) hT
      dsimp only at this
      rw [← hNl, ← ba_size] at this
      exact this
    have c3 : ∀ w, Tabs w → Calls Tryd.prog 13 #[.string (N ++ ⟨#[120]⟩)] w fun e w' => e = .returned (.tuple #[.string ⟨#[]⟩, .bool false]) ∧ Below w.heap.size w w' := fun w hT => named_list _ (n ++ [120]) _ (by simp [hNl]) (named_no f4) hT
    have c4 : ∀ w, Tabs w → Calls Tryd.prog 9 #[.string (⟨#[38]⟩ ++ N ++ ⟨#[32, 59]⟩ ++ s)] w fun e w' => e = .returned (.tuple #[.string ⟨Y1.toArray⟩, .int .i64 0]) ∧ Below w.heap.size w w' := fun w hT =>
      at_list _ _ _ (by simp [hNl]) hY (by simp only [List.length_cons, List.length_append]; omega) hT
    have HT := Lib.hid hT
    clear hT f1 f2 f3 f4 f5 hmem hY a1 hsl hX
    replace hNl := Lib.hid hNl
    replace hN := Lib.hid hN
    go_enter Tryd.func6, Tryd.ntmps6
    go_wp2_with fail
    refine (names_any HT.out).mono ?_
    rintro e w1 ⟨rfl, hn1, hb1⟩
    have HN1 := Lib.hid hn1
    have HB1 := Lib.hid hb1
    have HT1 := Lib.hid (HT.out.on hb1)
    clear hb1 hn1
    go_wp2_with fail
    refine (ha _ HT1.out).mono ?_
    rintro e w2 ⟨rfl, hb2⟩
    have HT2 := Lib.hid (HT1.out.on hb2)
    have HB2 := Lib.hid (HB1.out.trans (hb2.mono HB1.out.size))
    have HN2 := Lib.hid (show NamesAt w.heap.size w2 by unfold NamesAt at *; rw [hb2.block _ (Array.getElem?_eq_some_iff.1 HN1.out).1]; exact HN1.out)
    clear hb2
    have hc2 := hcell.out w2 HN2.out
    go_wp2_with fail
    refine (c1 _ HT2.out).mono ?_
    rintro e w3 ⟨rfl, hb3⟩
    have HT3 := Lib.hid (HT2.out.on hb3)
    have HB3 := Lib.hid (HB2.out.trans (hb3.mono HB2.out.size))
    clear hb3
    go_wp2_with fail
    refine (c2 _ HT3.out).mono ?_
    rintro e w4 ⟨rfl, hb4⟩
    have HT4 := Lib.hid (HT3.out.on hb4)
    have HB4 := Lib.hid (HB3.out.trans (hb4.mono HB3.out.size))
    clear hb4
    go_wp2_with fail
    refine (c3 _ HT4.out).mono ?_
    rintro e w5 ⟨rfl, hb5⟩
    have HT5 := Lib.hid (HT4.out.on hb5)
    have HB5 := Lib.hid (HB4.out.trans (hb5.mono HB4.out.size))
    clear hb5
    go_wp2_with fail
    refine (c4 _ HT5.out).mono ?_
    rintro e w6 ⟨rfl, hb6⟩
    have HB6 := Lib.hid (HB5.out.trans (hb6.mono HB5.out.size))
    clear hb6
    go_wp2_with fail
    go_ret
    exact ⟨rfl, HB6.out⟩
  · have h9 : decide ((40 : Int) < s.size) = true := by simp only [decide_eq_true_eq]; omega
    have HT := Lib.hid hT
    clear hT
    go_enter Tryd.func6, Tryd.ntmps6
    go_wp2_with fail
    refine (names_any HT.out).mono ?_
    rintro e w1 ⟨rfl, hn1, hb1⟩
    have HB1 := Lib.hid hb1
    have HT1 := Lib.hid (HT.out.on hb1)
    clear hb1 hn1
    go_wp2_with fail
    refine (ha _ HT1.out).mono ?_
    rintro e w2 ⟨rfl, hb2⟩
    go_wp2_with fail
    go_ret
    exact ⟨rfl, HB1.out.trans (hb2.mono HB1.out.size)⟩
end Go.Proofs.YtnehpclbflnpaaaDoor
