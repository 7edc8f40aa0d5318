/- SlugNew: the walk. -/
import Derived.Test.YtocgpaekaabmdaaDoorAlive
import Derived.Test.YtocgpaekaabmdaaDoorSlugLaws
import Derived.Test.YtocgpaekaabmdaaDoorRow
namespace Go.Proofs.YtocgpaekaabmdaaDoor
open Go.RowKit Go.Lib Go.Maps

/-- what a new anchor is like -/
structure Fine (ID : ByteArray) : Prop where
  pos : 0 < ID.size
  first : alnum ID[0] = true
  last : alnum (ID[ID.size - 1]'(by omega)) = true
  all : ∀ i (h : i < ID.size), alnum ID[i] = true ∨ ID[i] = 45
theorem dig_alnum {k : Nat} : ∀ b ∈ Lib.itoa (k : Int), alnum b = true := by
  intro b hb
  rw [itoa_nonneg] at hb
  have := (valD_dec k).2 b hb
  unfold alnum; simp; omega
theorem itoa_ne (k : Nat) : Lib.itoa (k : Int) ≠ [] := by
  rw [itoa_nonneg]
  intro h
  have h1 := (valD_dec k).1
  rw [h] at h1
  have : k = 0 := by simpa [valD] using h1.symm
  subst this
  rw [decDigits] at h
  simp at h
theorem getLast_append_ne {a b : List UInt8} (h : b ≠ []) : (a ++ b).getLast? = b.getLast? := by
  rw [List.getLast?_append]
  cases hb : b.getLast? with
  | none => rw [List.getLast?_eq_none_iff] at hb; exact absurd hb h
  | some x => rfl
theorem fine_of {had : List (List UInt8)} {l : List UInt8} {ID : ByteArray} (h : NextIs had (slugL l) ID.data.toList) : Fine ID := by
  obtain ⟨k, -, he, -, -⟩ := h
  obtain ⟨h1, -⟩ := slugL_ok l
  generalize slugL l = f at *
  have hall : ∀ b ∈ ID.data.toList, alnum b = true ∨ b = 45 := by
    intro b hb
    rw [he] at hb
    unfold cand at hb
    split at hb
    · exact dash_bytes h1 b hb
    · rcases List.mem_append.1 hb with hb | hb
      · exact dash_bytes h1 b hb
      · rcases List.mem_cons.1 hb with rfl | hb
        · exact .inr rfl
        · exact .inl (dig_alnum b hb)
  have hfirst : ∃ c t, ID.data.toList = c :: t ∧ alnum c = true := by
    obtain ⟨c, t, rfl⟩ := List.exists_cons_of_ne_nil (dashOk_ne h1)
    have hc : alnum c = true := by
      rcases h1 with ⟨h2, -⟩ | ⟨-, h2, -⟩
      · exact h2
      · cases h2
    rw [he]
    unfold cand
    split
    · exact ⟨c, t, rfl, hc⟩
    · exact ⟨c, t ++ _, rfl, hc⟩
  have hlast : ∀ b, ID.data.toList.getLast? = some b → alnum b = true := by
    intro b hb
    rw [he] at hb
    unfold cand at hb
    split at hb
    · exact dash_last h1 b hb
    · rw [getLast_append_ne (by simp)] at hb
      have hne := itoa_ne k
      obtain ⟨c, t, e⟩ := List.exists_cons_of_ne_nil hne
      rw [e, List.getLast?_cons_cons, ← e] at hb
      exact dig_alnum b (List.mem_of_getLast? hb)
  obtain ⟨c, t, e, hc⟩ := hfirst
  have hp : 0 < ID.size := by rw [ba_size, e]; simp
  have hget : ∀ i (h : i < ID.size), ∃ h2 : i < ID.data.toList.length, ID[i] = ID.data.toList[i] := fun i h => ⟨by rw [← ba_size]; exact h, rfl⟩
  refine ⟨hp, ?_, ?_, fun i h => ?_⟩
  · obtain ⟨h2, e2⟩ := hget 0 hp
    rw [e2]
    have : ID.data.toList[0] = c := by simp only [e, List.getElem_cons_zero]
    rw [this]; exact hc
  · obtain ⟨h2, e2⟩ := hget (ID.size - 1) (by omega)
    refine hlast _ ?_
    rw [e2, List.getLast?_eq_getElem?, ← ba_size, List.getElem?_eq_getElem h2]
  · obtain ⟨h2, e2⟩ := hget i h
    rw [e2]
    exact hall _ (List.getElem_mem _)
theorem alnum_ne {b : UInt8} (h : alnum b = true) : ((b.toNat : Int) == 45) = false := by
  unfold alnum at h
  simp at h
  rw [beq_eq_false_iff_ne]; omega
theorem alnum_cases {b : UInt8} (h : alnum b = true ∨ b = 45) : (decide ((97 : Int) ≤ b.toNat) = true ∧ decide ((b.toNat : Int) ≤ 122) = true) ∨
    (decide ((97 : Int) ≤ b.toNat) = false ∧ decide ((48 : Int) ≤ b.toNat) = true ∧ decide ((b.toNat : Int) ≤ 57) = true) ∨
    (decide ((97 : Int) ≤ b.toNat) = false ∧ decide ((48 : Int) ≤ b.toNat) = false ∧ ((b.toNat : Int) == 45) = true) := by
  rcases h with h | h
  · unfold alnum at h
    simp at h
    simp only [decide_eq_true_eq, decide_eq_false_iff_not]
    omega
  · subst h; right; right; decide

open Classical in
set_option maxRecDepth 100000 in
set_option maxHeartbeats 4000000 in
theorem new_main (a : Option Addr) (cap : Nat) (l : List ByteArray) (W : World) (hT : Tabs W) (hl : l.length ≤ 40) (hsz : ∀ s ∈ l, s.size ≤ 9223372036854775807)
    (hr : l = [] ∨ ∃ b o, a = some ⟨b, o, none⟩ ∧ b < W.heap.size ∧ ∀ i (h : i < l.length), W.cell? ⟨b, o + i, none⟩ = some (.string l[i])) :
    Calls Tryd.prog 4 #[.slice a l.length cap] W fun e w' => e = .returned (.bool true) ∧ Below W.heap.size W w' := by
  have hi : (l.length : Int) ≤ 40 := by omega
  have HR := Lib.hid hr
  have HSZ := Lib.hid hsz
  have HT := Lib.hid hT
  have HLOW := Lib.hid hT.low
  clear hr hsz hT
  have hmm := @run_makeMap Tryd.prog
  go_enter Tryd.func4, Tryd.ntmps4
  go_wp2_with fail
  refine (alive_any HT.out).mono ?_
  rintro e w1 ⟨rfl, hb1⟩
  have hs1 := hb1.size
  have HB2 := Lib.hid ((hb1.alloc hs1 (.cells #[.map none] 27)).alloc (by simp; omega) (.map #[] 0))
  have HA0 := Lib.hid ((AncAt.fresh W.heap.size w1 hs1).below ((Below.refl _ _).alloc (Nat.le_refl _) (.map #[] 0)))
  have HS0 := Lib.hid (show SetAt (w1.heap.size + 1) 0 [] ((w1.alloc (.cells #[.map none] 27)).alloc (.map #[] 0)) by
    have := SetAt.fresh (w1.alloc (.cells #[.map none] 27))
    have h9 : (w1.alloc (.cells #[.map none] 27)).heap.size = w1.heap.size + 1 := by simp
    rwa [h9] at this)
  clear hb1
  go_wp2_with fail
  go_loopw [22] (fun vi wr => ∃ (k n : Nat) (had : List (List UInt8)) (F : Nat → Prop), k ≤ l.length ∧ vi = .int .i64 k ∧ had.length = k ∧ n ≤ k ∧ Hid (AncAt W.heap.size F w1.heap.size had wr) ∧ Hid (SetAt (w1.heap.size + 1) n had wr) ∧ Hid (¬ F (w1.heap.size + 1)) ∧ Hid (Below W.heap.size W wr)) (fun vi _ => l.length - (RowKit.intOf vi).toNat)
  case atStart => exact ⟨0, 0, [], _, Nat.zero_le _, rfl, rfl, Nat.le_refl _, HA0, HS0, Lib.hid (show ¬ (w1.heap.size + 1 = w1.heap.size) by omega), HB2⟩
  case round =>
    obtain ⟨k, n, had, F, hk, rfl, hhl, hn, HA, HS, HF, HB⟩ := hrel
    by_cases hlt : k < l.length
    · rcases HR.out with h9 | ⟨ab, ao, ha, hbl, hcell⟩
      · rw [h9] at hlt; simp at hlt
      subst ha
      have hc := (HB.out.cell (p := ⟨ab, ao + k, none⟩) hbl).trans (hcell k hlt)
      have hxs := HSZ.out l[k] (List.getElem_mem _)
      clear hcell
      generalize l[k] = x at *
      have HHL := Lib.hid hhl
      have hhb : had.length ≤ 40 := by omega
      clear hhl
      by_cases hx : x.size ≤ 100
      · go_wp2_with fail
        refine (next_any HA.out x (HT.out.under HLOW.out HB.out) (by omega) (by omega) HB.out.size HLOW.out).mono ?_
        rintro e w2 ⟨ID, rfl, hnx, hids, ⟨F2, hA2, hF2⟩, hfr2⟩
        have HFine := Lib.hid (fine_of hnx)
        have hm1 : w1.heap.size + 1 < wr.heap.size := HS.out.lt
        have hS2 : SetAt (w1.heap.size + 1) n had w2 := HS.out.kept (hfr2.block _ hm1 HF.out)
        have HS2 := Lib.hid hS2
        have hB2 := HB.out.trans (hfr2.to_below (fun q hq => (HA.out.lt q hq).1) HB.out.size)
        have HB2' := Lib.hid hB2
        have HA2 := Lib.hid hA2
        have HF2 := Lib.hid (show ¬ F2 (w1.heap.size + 1) from fun h9 => by
          rcases hF2 _ h9 with h8 | h8
          · exact HF.out h8
          · omega)
        have hnin : ID.data.toList ∉ had := by
          obtain ⟨j, -, e, h8, -⟩ := hnx
          rw [e]; exact h8
        have hlk := HS2.out.look ID (by omega)
        rw [decide_eq_false hnin] at hlk
        have hemp : ID.toList.isEmpty = false := by
          rw [Lib.toList_data]
          have := HFine.out.pos
          rw [ba_size] at this
          cases hq : ID.data.toList with
          | nil => rw [hq] at this; simp at this
          | cons a t => rfl
        have hpos : 0 < ID.size := HFine.out.pos
        have hf0 := alnum_ne HFine.out.first
        have hf1 := alnum_ne HFine.out.last
        obtain ⟨D, hD, hDs⟩ := HS2.out.at'
        have HD := Lib.hid hD
        have HDs := Lib.hid hDs
        have hkey := keyOf_str ID (by omega)
        have hnl : n < maxLen := by unfold maxLen; omega
        clear hnx hF2 hfr2 hA2 hS2 hB2 hnin hD hDs
        go_wp2_with (first | (at_mapUpdate; refine wpList_mapUpdate_own _ rfl (.tmp 52) (.tmp 53) (.const (.bool true)) 25 rfl 9 4 skey Tryd.underlying25 (plainElem Tryd.prog 4) (w1.heap.size + 1) n D rfl HD.out hnl (.string ID) (.bool true) (.string ID.data.toList) rfl rfl hkey (.lit (.bool true)) [] (plainElem_bool Tryd.underlying4 true) ?_; intro w3 hown3 hgr3; have HO3 := Lib.hid hown3; have HG3 := Lib.hid hgr3; clear hown3 hgr3))
        have hm2 : SetAt (w1.heap.size + 1) (n + 1) (had ++ [ID.data.toList]) w3 := ⟨_, HO3.out, HDs.out.put (World.ownsMap.isMap HD.out) _⟩
        have hA3 : AncAt W.heap.size F2 w1.heap.size (had ++ [ID.data.toList]) w3 := HA2.out.frame (Frame.of_grown (F := fun q => q = w1.heap.size + 1) HG3.out (fun q hq => by cases hq; rfl)) (fun q hq e => HF2.out (by rw [← e]; exact hq))
        have hB3 : Below W.heap.size W w3 := HB2'.out.grown HG3.out HB2'.out.size (fun q hq => by cases hq; omega)
        have HM3 := Lib.hid hm2
        have HA3 := Lib.hid hA3
        have HB3 := Lib.hid hB3
        clear hm2 hA3 hB3 hlk hkey hc hemp hf0 hf1
        go_loop [8] (fun j => ∃ q : Nat, q ≤ ID.size ∧ j = .int .i64 q) (fun j => ID.size - (RowKit.intOf j).toNat)
        case atStart => exact ⟨0, Nat.zero_le _, rfl⟩
        case round =>
          obtain ⟨q, hq, rfl⟩ := hrel
          by_cases hq2 : q < ID.size
          · have hch := alnum_cases (HFine.out.all q hq2)
            rcases hch with ⟨t1, t2⟩ | ⟨t1, t2, t3⟩ | ⟨t1, t2, t3⟩
            all_goals go_wp2_with fail
            all_goals first
              | (go_round
                 case rel => exact ⟨q + 1, by omega, by go_num⟩
                 case measure => simp only [RowKit.intOf]; omega)
          · go_wp2_with fail
            go_roundw
            case rel => exact ⟨k + 1, n + 1, _, F2, by omega, by go_num, by rw [List.length_append, HHL.out]; rfl, by omega, HA3, HM3, HF2, HB3⟩
            case measure => simp only [RowKit.intOf]; omega
      · have hx9 : decide ((100 : Int) < x.size) = true := by simp only [decide_eq_true_eq]; omega
        go_wp2_with fail
        go_ret
        exact ⟨rfl, HB.out⟩
    · go_wp2_with fail
      go_ret
      exact ⟨rfl, HB.out⟩

theorem slugNew_walk (v : Value) (W : World) (hT : Tabs W) (h : ∃ l : List ByteArray, RowIn W W.heap.size v (l.map Value.string) ∧ ∀ s ∈ l, s.size ≤ 9223372036854775807) :
    Calls Tryd.prog 4 #[v] W fun e w' => e = .returned (.bool true) ∧ Below W.heap.size W w' := by
  obtain ⟨l, ⟨a, cap, rfl, hlc, hcm, hr⟩, hs⟩ := h
  simp only [List.length_map] at *
  by_cases hl : l.length ≤ 40
  · refine new_main a cap l W hT hl hs ?_
    rcases hr with hr | ⟨b, o, ha, hb, hc⟩
    · exact .inl (by simpa using hr)
    · exact .inr ⟨b, o, ha, hb, fun i h => by
      have h9 := hc i h
      rw [List.getElem_map] at h9
      exact h9⟩
  · have hi : 40 < (l.length : Int) := by omega
    have ha := fun w => @alive_any w
    have HT := Lib.hid hT
    clear hr hT
    go_enter Tryd.func4, Tryd.ntmps4
    go_wp2_with fail
    refine (ha _ HT.out).mono ?_
    rintro e w1 ⟨rfl, hb1⟩
    go_wp2_with fail
    go_ret
    exact ⟨rfl, hb1⟩
end Go.Proofs.YtocgpaekaabmdaaDoor
