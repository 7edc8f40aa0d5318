/- bowdlerref14.Anchor: the walk. -/
import Derived.Test.YtbblgnbafecdmaaGreatDoorDigits
import Derived.Test.YtbblgnbafecdmaaGreatDoorNames
import Derived.Test.YtbblgnbafecdmaaGreatDoorRefSlug
import Derived.Test.YtbblgnbafecdmaaGreatDoorNext
namespace Go.Proofs.YtbblgnbafecdmaaGreatDoor
open Go.RowKit Go.Lib

set_option maxRecDepth 100000 in
set_option maxHeartbeats 1000000 in
theorem refAt_any {w : World} (v : Value) (L : List ByteArray) (nm : ByteArray) (hv : NamesIn w v L) (hm : L.length ≤ 100000) :
    Calls Tryz.prog 61 #[v, .string nm] w fun e w' => e = .returned (.int .i64 (idxName nm L 0)) ∧ w' = w := by
  rcases hv with ⟨rfl, a, cap, rfl⟩ | ⟨b, o, cap, rfl, hbl, hcell⟩
  · go_enter Tryz.func61, Tryz.ntmps61
    go_wp2_with fail
    go_loop [5] (fun i => i = .int .i64 0) (fun i => 0)
    case atStart => rfl
    case round =>
      obtain rfl := hrel
      go_wp2_with fail
      go_ret
      exact ⟨rfl, rfl⟩
  · have HC := Lib.hid hcell
    clear hcell
    have hmi : (L.length : Int) ≤ 100000 := by omega
    go_enter Tryz.func61, Tryz.ntmps61
    go_wp2_with fail
    go_loop [5] (fun i => ∃ k : Nat, k ≤ L.length ∧ i = .int .i64 k ∧ Hid (idxName nm (L.drop k) k = idxName nm L 0)) (fun i => L.length - (RowKit.intOf i).toNat)
    case atStart => exact ⟨0, Nat.zero_le _, rfl, Lib.hid (by rw [List.drop_zero])⟩
    case round =>
      obtain ⟨k, hk, rfl, hf⟩ := hrel
      by_cases hlt : k < L.length
      · have hc := HC.out k hlt
        have hd := Lib.hid (List.drop_eq_getElem_cons hlt)
        generalize L[k] = x at *
        cases hq : (x.toList == nm.toList) with
        | true =>
          have hR := Lib.hid (show idxName nm L 0 = k by rw [← hf.out, hd.out]; unfold idxName; rw [if_pos (show eqB x nm = true from hq)])
          go_wp2_with fail
          go_ret
          rw [hR.out]
          exact ⟨rfl, rfl⟩
        | false =>
          have hR := Lib.hid (show idxName nm (L.drop (k + 1)) (k + 1) = idxName nm L 0 by
            rw [← hf.out, hd.out]
            conv => rhs; unfold idxName
            rw [if_neg (by unfold eqB; rw [hq]; simp)])
          go_wp2_with fail
          go_round
          case rel => exact ⟨k + 1, by omega, by go_num, hR⟩
          case measure => simp only [RowKit.intOf]; omega
      · have hR := Lib.hid (show idxName nm L 0 = -1 by rw [← hf.out, List.drop_eq_nil_of_le (by omega)]; rfl)
        go_wp2_with fail
        go_ret
        rw [hR.out]
        exact ⟨rfl, rfl⟩
end Go.Proofs.YtbblgnbafecdmaaGreatDoor
namespace Go.Proofs.YtbblgnbafecdmaaGreatDoor
open Go.RowKit Go.Lib

def hadOf (L : List ByteArray) : List (List UInt8) := L.map fun b => b.data.toList
theorem mem_had {L : List ByteArray} {x : ByteArray} : x.data.toList ∈ hadOf L ↔ x ∈ L := by
  unfold hadOf
  rw [List.mem_map]
  constructor
  · rintro ⟨y, hy, e⟩
    rw [← ba_eq e]; exact hy
  · intro h; exact ⟨x, h, rfl⟩
theorem idx_neg {L : List ByteArray} {x : ByteArray} : idxName x L 0 < 0 ↔ x.data.toList ∉ hadOf L := by
  rw [mem_had]
  constructor
  · intro h hm
    obtain ⟨i, -, e, -, -⟩ := idx_some hm 0
    omega
  · intro h; rw [idx_none h]; omega
def AnchorPost (L : List ByteArray) (f : List UInt8) (w : World) (e : Ending) (w' : World) : Prop :=
  ∃ ID : ByteArray, e = .returned (.string ID) ∧ NextIs (hadOf L) f ID.data.toList ∧ ID.size ≤ 100 ∧ Below w.heap.size w w'

set_option maxRecDepth 100000 in
set_option maxHeartbeats 2000000 in
theorem refAnchor_any {w : World} (v : Value) (L : List ByteArray) (s : ByteArray) (hv : NamesIn w v L) (hm : L.length ≤ 1000) (hT : Tabs w) (hs : s.size ≤ 300000) :
    Calls Tryz.prog 24 #[v, .string s] w (AnchorPost L (slugL s.data.toList) w) := by
  have HT := Lib.hid hT
  have HV := Lib.hid hv
  clear hT hv
  go_enter Tryz.func24, Tryz.ntmps24
  go_wp2_with fail
  refine (refSlug_any s HT.out hs).mono ?_
  rintro e w1 ⟨rfl, hb1⟩
  have HB1 := Lib.hid hb1
  have HV1 := Lib.hid (HV.out.below hb1)
  clear hb1
  obtain ⟨f, hf⟩ : ∃ f, slugL s.data.toList = f := ⟨_, rfl⟩
  have hfl : f.length ≤ 40 := by rw [← hf]; exact slugL_len _
  rw [hf]
  replace hf := Lib.hid hf
  have cAt := fun (w' : World) (h : Below w1.heap.size w1 w') (x : ByteArray) => refAt_any (w := w') v L x (HV1.out.below h) (by omega)
  obtain ⟨X, hX⟩ : ∃ X : ByteArray, (⟨f.toArray⟩ : ByteArray) = X := ⟨_, rfl⟩
  have hXl : X.data.toList = f := by rw [← hX]
  have hXs : X.size ≤ 40 := by rw [ba_size, hXl]; exact hfl
  rw [hX]
  replace hX := Lib.hid hX
  replace hXl := Lib.hid hXl
  obtain ⟨i0, hi0⟩ : ∃ i0, idxName X L 0 = i0 := ⟨_, rfl⟩
  have hi0m := Lib.hid (idx_neg (L := L) (x := X))
  rw [hi0, hXl.out] at hi0m
  replace hi0 := Lib.hid hi0
  have c0 := cAt w1 (Below.refl _ _) X
  rw [hi0.out] at c0
  by_cases hn : i0 < 0
  · have t0 : decide (i0 < 0) = true := by simp only [decide_eq_true_eq]; exact hn
    have hnin := Lib.hid (hi0m.out.1 hn)
    clear cAt hn
    go_wp2_with fail
    refine c0.mono ?_
    rintro e w2 ⟨rfl, hw2⟩
    subst hw2
    clear c0
    go_wp2_with fail
    go_ret
    show AnchorPost L (slugL s.data.toList) w _ _
    rw [hf.out]
    exact ⟨X, rfl, ⟨1, Nat.le_refl _, by rw [hXl.out]; unfold cand; rw [if_pos (Nat.le_refl 1)], by unfold cand; rw [if_pos (Nat.le_refl 1)]; exact hnin.out, fun j h1 h2 => by omega⟩, by omega, HB1.out⟩
  · have t0 : decide (i0 < 0) = false := by simp only [decide_eq_false_iff_not]; exact hn
    have hin : f ∈ hadOf L := by
      rcases Classical.em (f ∈ hadOf L) with h9 | h9
      · exact h9
      · exact absurd (hi0m.out.2 h9) hn
    have HIN := Lib.hid hin
    clear hn hin
    go_wp2_with fail
    refine c0.mono ?_
    rintro e w2 ⟨rfl, hw2⟩
    subst hw2
    clear c0
    go_wp2_with fail
    go_loopw [6] (fun nv wr => ∃ k : Nat, 1 ≤ k ∧ k ≤ L.length ∧ nv = .int .i64 ((k : Int) + 1) ∧ Hid (∀ j, 1 ≤ j → j ≤ k → cand f j ∈ hadOf L) ∧ Below w2.heap.size w2 wr) (fun nv _ => L.length + 3 - (RowKit.intOf nv).toNat)
    case atStart =>
      have h1 : ∀ j, 1 ≤ j → j ≤ 1 → cand f j ∈ hadOf L := fun j h1 h2 => by
        obtain rfl : j = 1 := by omega
        unfold cand; rw [if_pos (Nat.le_refl 1)]; exact HIN.out
      have h2 := cand_le h1
      exact ⟨1, Nat.le_refl _, by unfold hadOf at h2; simpa using h2, rfl, Lib.hid h1, Below.refl _ _⟩
    case round =>
      obtain ⟨k, hk1, hk2, rfl, hno, hB⟩ := hrel
      have cDg := fun (w' : World) (h : Below w2.heap.size w2 w') => digits_nat (w0 := w2) (w := w') (k + 1) (by omega) h
      rw [show ((k + 1 : Nat) : Int) = (k : Int) + 1 by omega] at cDg
      obtain ⟨Z, hZ⟩ : ∃ Z : ByteArray, (⟨(Lib.itoa ((k : Int) + 1)).toArray⟩ : ByteArray) = Z := ⟨_, rfl⟩
      have hZl : Z.data.toList = Lib.itoa ((k : Int) + 1) := by rw [← hZ]
      have hZs : Z.size ≤ 21 := by rw [ba_size, hZl]; exact Lib.itoa_length_le _ (by omega) (by omega)
      rw [hZ] at cDg
      have hcl : (X ++ ⟨#[45]⟩ ++ Z : ByteArray).data.toList = cand f (k + 1) := by
        rw [ba_append, ba_append, hXl.out, hZl]
        unfold cand
        rw [if_neg (by omega), show ((k + 1 : Nat) : Int) = (k : Int) + 1 by omega]
        simp
      have hcz : (X ++ ⟨#[45]⟩ ++ Z : ByteArray).size ≤ 100 := by rw [ByteArray.size_append, ByteArray.size_append]; show X.size + 1 + Z.size ≤ 100; omega
      obtain ⟨i1, hi1⟩ : ∃ i1, idxName (X ++ ⟨#[45]⟩ ++ Z) L 0 = i1 := ⟨_, rfl⟩
      have hi1m := Lib.hid (idx_neg (L := L) (x := X ++ ⟨#[45]⟩ ++ Z))
      rw [hi1, hcl] at hi1m
      have cA1 := fun (w' : World) (h : Below w2.heap.size w2 w') => cAt w' h (X ++ ⟨#[45]⟩ ++ Z)
      rw [hi1] at cA1
      replace hi1 := Lib.hid hi1
      replace hcl := Lib.hid hcl
      replace hZ := Lib.hid hZ
      replace hZl := Lib.hid hZl
      replace hcz := Lib.hid hcz
      by_cases hn : i1 < 0
      · have t1 : decide (0 ≤ i1) = false := by simp only [decide_eq_false_iff_not]; omega
        have hnin := Lib.hid (hi1m.out.1 hn)
        clear hn
        go_wp2_with fail
        refine (cDg _ hB).mono ?_
        rintro e w3 ⟨rfl, hb3⟩
        have HB3 := Lib.hid hb3
        clear hb3
        go_wp2_with fail
        refine (cA1 _ HB3.out).mono ?_
        rintro e w4 ⟨rfl, hw4⟩
        subst hw4
        go_wp2_with fail
        refine (cDg _ HB3.out).mono ?_
        rintro e w5 ⟨rfl, hb5⟩
        go_wp2_with fail
        go_ret
        show AnchorPost L (slugL s.data.toList) w _ _
        rw [hf.out]
        exact ⟨_, rfl, ⟨k + 1, by omega, hcl.out, hnin.out, fun j h1 h2 => hno.out j h1 (by omega)⟩, hcz.out, HB1.out.trans (hb5.mono HB1.out.size)⟩
      · have t1 : decide (0 ≤ i1) = true := by simp only [decide_eq_true_eq]; omega
        have hin : cand f (k + 1) ∈ hadOf L := by
          rcases Classical.em (cand f (k + 1) ∈ hadOf L) with h9 | h9
          · exact h9
          · exact absurd (hi1m.out.2 h9) hn
        have hno2 : ∀ j, 1 ≤ j → j ≤ k + 1 → cand f j ∈ hadOf L := fun j h1 h2 => by
          rcases Nat.lt_or_ge k j with h3 | h3
          · obtain rfl : j = k + 1 := by omega
            exact hin
          · exact hno.out j h1 h3
        have hle := cand_le hno2
        have hle2 : k + 1 ≤ L.length := by unfold hadOf at hle; simpa using hle
        have HNO2 := Lib.hid hno2
        clear hn hin hno2 hle
        go_wp2_with fail
        refine (cDg _ hB).mono ?_
        rintro e w3 ⟨rfl, hb3⟩
        have HB3 := Lib.hid hb3
        clear hb3
        go_wp2_with fail
        refine (cA1 _ HB3.out).mono ?_
        rintro e w4 ⟨rfl, hw4⟩
        subst hw4
        go_wp2_with fail
        go_roundw
        case rel => exact ⟨k + 1, by omega, hle2, by go_num, HNO2, HB3.out⟩
        case measure => simp only [RowKit.intOf]; omega
end Go.Proofs.YtbblgnbafecdmaaGreatDoor
