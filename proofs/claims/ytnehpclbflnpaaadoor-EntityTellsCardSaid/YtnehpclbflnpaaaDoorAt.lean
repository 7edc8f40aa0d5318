/- entity.At: the walk. -/
import Derived.Test.YtnehpclbflnpaaaDoorNames
namespace Go.Proofs.YtnehpclbflnpaaaDoor
open Go.RowKit Go.Lib

/-- what stands behind an & -/
def behind (l : List UInt8) : List UInt8 := Lib.trimPrefix l [38]
def numAtR (base : Int) (most ahead : Nat) (l : List UInt8) : List UInt8 × Nat := if (numR base most (l.drop ahead)).2 = 0 then ([], 0) else ((numR base most (l.drop ahead)).1, ahead + (numR base most (l.drop ahead)).2 + 1)
def nameAtR (r : List UInt8) : List UInt8 × Nat :=
  if (Lib.cut r [59]).2.2 = false then ([], 0) else if (namedR (Lib.cut r [59]).1).2 = false then ([], 0) else ((namedR (Lib.cut r [59]).1).1, (Lib.cut r [59]).1.length + 2)
def isHex (l : List UInt8) : Bool := Lib.hasPrefix (behind l) [35, 120] || Lib.hasPrefix (behind l) [35, 88]
/-- the entity with which a text begins, and how many bytes it has -/
def atR (l : List UInt8) : List UInt8 × Nat :=
  if Lib.hasPrefix l [38] = false then ([], 0) else if isHex l = true then numAtR 16 6 3 l else if Lib.hasPrefix (behind l) [35] = true then numAtR 10 7 2 l else nameAtR (behind l)

theorem ba_extract (s : ByteArray) (i : Nat) : (s.extract i s.size).data.toList = s.data.toList.drop i := by
  simp only [ByteArray.data_extract, Array.toList_extract, List.extract_eq_take_drop]
  rw [List.take_of_length_le (by rw [List.length_drop, ← ba_size]; omega)]
theorem pre_iff {l p : List UInt8} (h : Lib.hasPrefix l p = true) : p <+: l := by simpa [Lib.hasPrefix] using h
theorem pre_len {l p : List UInt8} (h : Lib.hasPrefix l p = true) : p.length ≤ l.length := (pre_iff h).length_le
theorem pre_pre {l p q : List UInt8} (h : Lib.hasPrefix l p = true) (hq : q <+: p) : Lib.hasPrefix l q = true := by
  have := hq.trans (pre_iff h)
  simpa [Lib.hasPrefix] using this
theorem behind_len {l : List UInt8} (h : Lib.hasPrefix l [38] = true) : (behind l).length + 1 = l.length := by
  have := pre_len h
  unfold behind Lib.trimPrefix
  rw [if_pos h]
  simp at this ⊢; omega

theorem numR_le {base : Int} {most : Nat} {l : List UInt8} : (numR base most l).2 ≤ most := by
  unfold numR numL
  split
  · exact Nat.zero_le _
  · rename_i v n h
    split at h
    · cases h
    · rename_i hn
      cases h
      simp only [not_or] at hn
      exact Nat.le_of_not_lt hn.1
theorem cut_len (l s : List UInt8) : (Lib.cut l s).1.length ≤ l.length := by
  unfold Lib.cut
  split
  · simp; omega
  · simp
theorem drew_below (w : World) (n : Nat) : Below w.heap.size w (w.drewN n) := ⟨rfl, rfl, rfl, Nat.le_refl _, fun _ _ => rfl⟩
set_option maxRecDepth 100000 in
set_option maxHeartbeats 2000000 in
theorem at_any {w : World} (s : ByteArray) (hs : s.size < 4294967281) (hT : Tabs w) :
    Calls Tryd.prog 9 #[.string s] w fun e w' => e = .returned (.tuple #[.string ⟨(atR s.data.toList).1.toArray⟩, .int .i64 (atR s.data.toList).2]) ∧ Below w.heap.size w w' := by
  have hsz := ba_size s
  have hsl : s.size ≤ 9223372036854775807 := by omega
  have hcp : ∀ w, Calls Tryd.prog 18 #[.string s, .string ⟨#[38]⟩] w fun e w' => e = .returned (.tuple #[.string ⟨(behind s.data.toList).toArray⟩, .bool (Lib.hasPrefix s.data.toList [38])]) ∧ w = w' := fun w => (Tryd.strings_CutPrefix s ⟨#[38]⟩ w).mono fun e w' ⟨h1, h2⟩ => ⟨h1, h2.symm⟩
  obtain ⟨P0, hP0⟩ : ∃ b, Lib.hasPrefix s.data.toList [38] = b := ⟨_, rfl⟩
  rw [hP0] at hcp
  have hP0 := Lib.hid hP0
  obtain ⟨R, hR⟩ : ∃ R : ByteArray, (⟨(behind s.data.toList).toArray⟩ : ByteArray) = R := ⟨_, rfl⟩
  have hRl : behind s.data.toList = R.data.toList := by rw [← hR]
  rw [hR] at hcp
  have hR := Lib.hid hR
  cases P0 with
  | false =>
    have hA := Lib.hid (show atR s.data.toList = ([], 0) by unfold atR; rw [if_pos hP0.out])
    go_enter Tryd.func9, Tryd.ntmps9
    go_wp2_with (first | (go_at_call 18; refine (hcp _).mono ?_; rintro e w1 ⟨rfl, rfl⟩))
    go_ret2
    rw [hA.out]
    exact ⟨rfl, Below.refl _ _⟩
  | true =>
    have hbl := Lib.hid (behind_len hP0.out)
    obtain ⟨P1, hP1⟩ : ∃ b, Lib.hasPrefix R.data.toList [35, 120] = b := ⟨_, rfl⟩
    obtain ⟨P2, hP2⟩ : ∃ b, Lib.hasPrefix R.data.toList [35, 88] = b := ⟨_, rfl⟩
    obtain ⟨P3, hP3⟩ : ∃ b, Lib.hasPrefix R.data.toList [35] = b := ⟨_, rfl⟩
    have hp1 : ∀ w, Calls Tryd.prog 19 #[.string R, .string ⟨#[35, 120]⟩] w fun e w' => e = .returned (.bool P1) ∧ w = w' := fun w => by rw [← hP1]; exact (Tryd.strings_HasPrefix R ⟨#[35, 120]⟩ w).mono fun e w' ⟨h1, h2⟩ => ⟨h1, h2.symm⟩
    have hp2 : ∀ w, Calls Tryd.prog 19 #[.string R, .string ⟨#[35, 88]⟩] w fun e w' => e = .returned (.bool P2) ∧ w = w' := fun w => by rw [← hP2]; exact (Tryd.strings_HasPrefix R ⟨#[35, 88]⟩ w).mono fun e w' ⟨h1, h2⟩ => ⟨h1, h2.symm⟩
    have hp3 : ∀ w, Calls Tryd.prog 19 #[.string R, .string ⟨#[35]⟩] w fun e w' => e = .returned (.bool P3) ∧ w = w' := fun w => by rw [← hP3]; exact (Tryd.strings_HasPrefix R ⟨#[35]⟩ w).mono fun e w' ⟨h1, h2⟩ => ⟨h1, h2.symm⟩
    have hRl := Lib.hid hRl
    have hP1 := Lib.hid hP1
    have hP2 := Lib.hid hP2
    have hP3 := Lib.hid hP3
    have hhex : isHex s.data.toList = (P1 || P2) := by unfold isHex; rw [hRl.out, hP1.out, hP2.out]
    have hhex := Lib.hid hhex
    have hx : Hid ((P1 = true ∨ P2 = true) → P3 = true ∧ 3 ≤ s.size) := by
      intro h
      have : 2 ≤ R.data.toList.length := by
        rcases h with h | h
        · have := pre_len (hP1.out.trans h); simpa using this
        · have := pre_len (hP2.out.trans h); simpa using this
      have hb := hbl.out
      rw [hRl.out, ← hsz] at hb
      refine ⟨?_, by omega⟩
      rw [← hP3.out]
      rcases h with h | h
      · exact pre_pre (hP1.out.trans h) ⟨[120], rfl⟩
      · exact pre_pre (hP2.out.trans h) ⟨[88], rfl⟩
    have hx3 : Hid (P3 = true → 2 ≤ s.size) := by
      intro h
      have h1 := pre_len (hP3.out.trans h)
      have hb := hbl.out
      rw [hRl.out, ← hsz] at hb
      simp at h1
      show 2 ≤ s.size
      have : R.data.toList.length = R.size := (ba_size R).symm
      omega
    clear hsz
    have hnx : P1 = true ∨ (P1 = false ∧ P2 = true) ∨ (P1 = false ∧ P2 = false ∧ P3 = true) ∨ (P1 = false ∧ P2 = false ∧ P3 = false) := by
      cases P1 <;> cases P2 <;> cases P3 <;> simp
    rcases hnx with rfl | ⟨rfl, rfl⟩ | ⟨rfl, rfl, rfl⟩ | ⟨rfl, rfl, rfl⟩
    · obtain ⟨rfl, h3⟩ := hx.out (.inl rfl)
      obtain ⟨N, hN⟩ : ∃ N : ByteArray, s.extract 3 s.size = N := ⟨_, rfl⟩
      have hNl : s.data.toList.drop 3 = N.data.toList := by rw [← hN, ba_extract]
      obtain ⟨X, hX⟩ : ∃ X, numR 16 6 N.data.toList = X := ⟨_, rfl⟩
      have hnum : ∀ w1, Below w.heap.size w w1 → Calls Tryd.prog 20 #[.string N, .int .i64 16, .int .i64 6] w1 fun e w' => e = .returned (.tuple #[.string ⟨X.1.toArray⟩, .int .i64 X.2]) ∧ Below w.heap.size w w' := fun w1 h => by
        rw [← hX]; exact number_from (w0 := w) (w := w1) N 16 6 (by simp) h
      have hXb : Hid (X.2 ≤ 6) := by rw [← hX]; exact numR_le (most := 6)
      have hA : atR s.data.toList = if X.2 = 0 then ([], 0) else (X.1, 3 + X.2 + 1) := by
        unfold atR
        rw [if_neg (by rw [hP0.out]; simp), if_pos (by rw [hhex.out]; simp)]
        unfold numAtR
        rw [hNl, hX]
      have hN' := Lib.hid hN
      have hNl := Lib.hid hNl
      have hX := Lib.hid hX
      obtain ⟨X1, n⟩ := X
      have hbd := hXb.out
      dsimp only at hnum hbd hA
      have hA := Lib.hid hA
      by_cases hn : n = 0
      · subst hn
        go_enter Tryd.func9, Tryd.ntmps9
        go_wp2_with (first | (go_at_call 18; refine (hcp _).mono ?_; rintro e w1 ⟨rfl, rfl⟩) | (go_at_call 19; ((with_reducible refine (hp1 _).mono ?_); rintro e w1 ⟨rfl, rfl⟩)) | (go_at_call 19; ((with_reducible refine (hp3 _).mono ?_); rintro e w1 ⟨rfl, rfl⟩)) | (go_at_call 20; refine (hnum _ (Below.refl _ _)).mono ?_; rintro e w1 ⟨rfl, hb1⟩))
        go_ret2
        rw [hA.out]
        exact ⟨rfl, hb1⟩
      · have hn0 : ((n : Int) == 0) = false := by rw [beq_eq_false_iff_ne]; omega
        have hn := Lib.hid hn
        go_enter Tryd.func9, Tryd.ntmps9
        go_wp2_with (first | (go_at_call 18; refine (hcp _).mono ?_; rintro e w1 ⟨rfl, rfl⟩) | (go_at_call 19; ((with_reducible refine (hp1 _).mono ?_); rintro e w1 ⟨rfl, rfl⟩)) | (go_at_call 19; ((with_reducible refine (hp3 _).mono ?_); rintro e w1 ⟨rfl, rfl⟩)) | (go_at_call 20; refine (hnum _ (Below.refl _ _)).mono ?_; rintro e w1 ⟨rfl, hb1⟩))
        go_ret2
        rw [hA.out, if_neg hn.out]
        refine ⟨?_, hb1⟩
        dsimp only
        rw [show ((3 + n + 1 : Nat) : Int) = 3 + (n : Int) + 1 by omega]
        rfl
    · obtain ⟨rfl, h3⟩ := hx.out (.inr rfl)
      obtain ⟨N, hN⟩ : ∃ N : ByteArray, s.extract 3 s.size = N := ⟨_, rfl⟩
      have hNl : s.data.toList.drop 3 = N.data.toList := by rw [← hN, ba_extract]
      obtain ⟨X, hX⟩ : ∃ X, numR 16 6 N.data.toList = X := ⟨_, rfl⟩
      have hnum : ∀ w1, Below w.heap.size w w1 → Calls Tryd.prog 20 #[.string N, .int .i64 16, .int .i64 6] w1 fun e w' => e = .returned (.tuple #[.string ⟨X.1.toArray⟩, .int .i64 X.2]) ∧ Below w.heap.size w w' := fun w1 h => by
        rw [← hX]; exact number_from (w0 := w) (w := w1) N 16 6 (by simp) h
      have hXb : Hid (X.2 ≤ 6) := by rw [← hX]; exact numR_le (most := 6)
      have hA : atR s.data.toList = if X.2 = 0 then ([], 0) else (X.1, 3 + X.2 + 1) := by
        unfold atR
        rw [if_neg (by rw [hP0.out]; simp), if_pos (by rw [hhex.out]; simp)]
        unfold numAtR
        rw [hNl, hX]
      have hN' := Lib.hid hN
      have hNl := Lib.hid hNl
      have hX := Lib.hid hX
      obtain ⟨X1, n⟩ := X
      have hbd := hXb.out
      dsimp only at hnum hbd hA
      have hA := Lib.hid hA
      by_cases hn : n = 0
      · subst hn
        go_enter Tryd.func9, Tryd.ntmps9
        go_wp2_with (first | (go_at_call 18; refine (hcp _).mono ?_; rintro e w1 ⟨rfl, rfl⟩) | (go_at_call 19; ((with_reducible refine (hp1 _).mono ?_); rintro e w1 ⟨rfl, rfl⟩)) | (go_at_call 19; ((with_reducible refine (hp2 _).mono ?_); rintro e w1 ⟨rfl, rfl⟩)) | (go_at_call 19; ((with_reducible refine (hp3 _).mono ?_); rintro e w1 ⟨rfl, rfl⟩)) | (go_at_call 20; refine (hnum _ (Below.refl _ _)).mono ?_; rintro e w1 ⟨rfl, hb1⟩))
        go_ret2
        rw [hA.out]
        exact ⟨rfl, hb1⟩
      · have hn0 : ((n : Int) == 0) = false := by rw [beq_eq_false_iff_ne]; omega
        have hn := Lib.hid hn
        go_enter Tryd.func9, Tryd.ntmps9
        go_wp2_with (first | (go_at_call 18; refine (hcp _).mono ?_; rintro e w1 ⟨rfl, rfl⟩) | (go_at_call 19; ((with_reducible refine (hp1 _).mono ?_); rintro e w1 ⟨rfl, rfl⟩)) | (go_at_call 19; ((with_reducible refine (hp2 _).mono ?_); rintro e w1 ⟨rfl, rfl⟩)) | (go_at_call 19; ((with_reducible refine (hp3 _).mono ?_); rintro e w1 ⟨rfl, rfl⟩)) | (go_at_call 20; refine (hnum _ (Below.refl _ _)).mono ?_; rintro e w1 ⟨rfl, hb1⟩))
        go_ret2
        rw [hA.out, if_neg hn.out]
        refine ⟨?_, hb1⟩
        dsimp only
        rw [show ((3 + n + 1 : Nat) : Int) = 3 + (n : Int) + 1 by omega]
        rfl
    · have h3 := hx3.out rfl
      obtain ⟨N, hN⟩ : ∃ N : ByteArray, s.extract 2 s.size = N := ⟨_, rfl⟩
      have hNl : s.data.toList.drop 2 = N.data.toList := by rw [← hN, ba_extract]
      obtain ⟨X, hX⟩ : ∃ X, numR 10 7 N.data.toList = X := ⟨_, rfl⟩
      have hnum : ∀ w1, Below w.heap.size w w1 → Calls Tryd.prog 20 #[.string N, .int .i64 10, .int .i64 7] w1 fun e w' => e = .returned (.tuple #[.string ⟨X.1.toArray⟩, .int .i64 X.2]) ∧ Below w.heap.size w w' := fun w1 h => by
        rw [← hX]; exact number_from (w0 := w) (w := w1) N 10 7 (by simp) h
      have hXb : Hid (X.2 ≤ 7) := by rw [← hX]; exact numR_le (most := 7)
      have hA : atR s.data.toList = if X.2 = 0 then ([], 0) else (X.1, 2 + X.2 + 1) := by
        unfold atR
        rw [if_neg (by rw [hP0.out]; simp), if_neg (by rw [hhex.out]; simp), if_pos (by rw [hRl.out, hP3.out])]
        unfold numAtR
        rw [hNl, hX]
      have hN' := Lib.hid hN
      have hNl := Lib.hid hNl
      have hX := Lib.hid hX
      obtain ⟨X1, n⟩ := X
      have hbd := hXb.out
      dsimp only at hnum hbd hA
      have hA := Lib.hid hA
      by_cases hn : n = 0
      · subst hn
        go_enter Tryd.func9, Tryd.ntmps9
        go_wp2_with (first | (go_at_call 18; refine (hcp _).mono ?_; rintro e w1 ⟨rfl, rfl⟩) | (go_at_call 19; ((with_reducible refine (hp1 _).mono ?_); rintro e w1 ⟨rfl, rfl⟩)) | (go_at_call 19; ((with_reducible refine (hp2 _).mono ?_); rintro e w1 ⟨rfl, rfl⟩)) | (go_at_call 19; ((with_reducible refine (hp3 _).mono ?_); rintro e w1 ⟨rfl, rfl⟩)) | (go_at_call 20; refine (hnum _ (Below.refl _ _)).mono ?_; rintro e w1 ⟨rfl, hb1⟩))
        go_ret2
        rw [hA.out]
        exact ⟨rfl, hb1⟩
      · have hn0 : ((n : Int) == 0) = false := by rw [beq_eq_false_iff_ne]; omega
        have hn := Lib.hid hn
        go_enter Tryd.func9, Tryd.ntmps9
        go_wp2_with (first | (go_at_call 18; refine (hcp _).mono ?_; rintro e w1 ⟨rfl, rfl⟩) | (go_at_call 19; ((with_reducible refine (hp1 _).mono ?_); rintro e w1 ⟨rfl, rfl⟩)) | (go_at_call 19; ((with_reducible refine (hp2 _).mono ?_); rintro e w1 ⟨rfl, rfl⟩)) | (go_at_call 19; ((with_reducible refine (hp3 _).mono ?_); rintro e w1 ⟨rfl, rfl⟩)) | (go_at_call 20; refine (hnum _ (Below.refl _ _)).mono ?_; rintro e w1 ⟨rfl, hb1⟩))
        go_ret2
        rw [hA.out, if_neg hn.out]
        refine ⟨?_, hb1⟩
        dsimp only
        rw [show ((2 + n + 1 : Nat) : Int) = 2 + (n : Int) + 1 by omega]
        rfl
    · have hRs : R.size < 4294967281 := by
        have h1 := hbl.out
        rw [hRl.out, ← ba_size, ← ba_size] at h1; omega
      obtain ⟨m, hm⟩ := hT.mlen
      have hcut := fun w1 hm => Tryd.strings_Cut R ⟨#[59]⟩ m w1 hRs hm
      obtain ⟨C, hC⟩ : ∃ C, Lib.cut R.data.toList [59] = C := ⟨_, rfl⟩
      rw [show ((⟨#[59]⟩ : ByteArray).data.toList) = [59] from rfl, hC] at hcut
      have hA : atR s.data.toList = if C.2.2 = false then ([], 0) else if (namedR C.1).2 = false then ([], 0) else ((namedR C.1).1, C.1.length + 2) := by
        unfold atR
        rw [if_neg (by rw [hP0.out]; simp), if_neg (by rw [hhex.out]; simp), if_neg (by rw [hRl.out, hP3.out]; simp)]
        unfold nameAtR
        rw [hRl.out, hC]
      have hCl : Hid (C.1.length ≤ R.size) := by rw [← hC, ba_size]; exact cut_len _ _
      have hC := Lib.hid hC
      obtain ⟨C1, C2, C3⟩ := C
      have hcl := hCl.out
      clear hCl
      dsimp only at hcut hA hcl
      have hT' := Lib.hid hT
      clear hT
      cases C3 with
      | false =>
        have hA := Lib.hid hA
        go_enter Tryd.func9, Tryd.ntmps9
        go_wp2_with (first | (go_at_call 18; refine (hcp _).mono ?_; rintro e w1 ⟨rfl, rfl⟩) | (go_at_call 19; ((with_reducible refine (hp1 _).mono ?_); rintro e w1 ⟨rfl, rfl⟩)) | (go_at_call 19; ((with_reducible refine (hp2 _).mono ?_); rintro e w1 ⟨rfl, rfl⟩)) | (go_at_call 19; ((with_reducible refine (hp3 _).mono ?_); rintro e w1 ⟨rfl, rfl⟩)) | (go_at_call 21; refine (hcut _ hm).mono ?_; rintro e w1 ⟨rfl, nq, rfl⟩))
        go_ret2
        rw [hA.out]
        exact ⟨rfl, drew_below _ _⟩
      | true =>
        have hnm := fun (w1 : World) (h : Tabs w1) => named_any ⟨C1.toArray⟩ h
        dsimp only at hnm
        obtain ⟨Y, hY⟩ : ∃ Y, namedR C1 = Y := ⟨_, rfl⟩
        rw [hY] at hnm
        rw [hY] at hA
        have hY := Lib.hid hY
        obtain ⟨Y1, Y2⟩ := Y
        dsimp only at hnm hA
        have hA := Lib.hid hA
        have hbn : ∀ n, Below w.heap.size w (w.drewN n) := fun n => drew_below _ _
        cases Y2 with
        | false =>
          go_enter Tryd.func9, Tryd.ntmps9
          go_wp2_with (first | (go_at_call 18; refine (hcp _).mono ?_; rintro e w1 ⟨rfl, rfl⟩) | (go_at_call 19; ((with_reducible refine (hp1 _).mono ?_); rintro e w1 ⟨rfl, rfl⟩)) | (go_at_call 19; ((with_reducible refine (hp2 _).mono ?_); rintro e w1 ⟨rfl, rfl⟩)) | (go_at_call 19; ((with_reducible refine (hp3 _).mono ?_); rintro e w1 ⟨rfl, rfl⟩)) | (go_at_call 21; refine (hcut _ hm).mono ?_; rintro e w1 ⟨rfl, nq, rfl⟩) | (go_at_call 13; refine (hnm _ (hT'.out.on (hbn nq))).mono ?_; rintro e w2 ⟨rfl, hb2⟩))
          go_ret2
          rw [hA.out]
          exact ⟨rfl, (hbn nq).trans hb2⟩
        | true =>
          go_enter Tryd.func9, Tryd.ntmps9
          go_wp2_with (first | (go_at_call 18; refine (hcp _).mono ?_; rintro e w1 ⟨rfl, rfl⟩) | (go_at_call 19; ((with_reducible refine (hp1 _).mono ?_); rintro e w1 ⟨rfl, rfl⟩)) | (go_at_call 19; ((with_reducible refine (hp2 _).mono ?_); rintro e w1 ⟨rfl, rfl⟩)) | (go_at_call 19; ((with_reducible refine (hp3 _).mono ?_); rintro e w1 ⟨rfl, rfl⟩)) | (go_at_call 21; refine (hcut _ hm).mono ?_; rintro e w1 ⟨rfl, nq, rfl⟩) | (go_at_call 13; refine (hnm _ (hT'.out.on (hbn nq))).mono ?_; rintro e w2 ⟨rfl, hb2⟩))
          go_ret2
          rw [hA.out]
          exact ⟨rfl, (hbn nq).trans hb2⟩
end Go.Proofs.YtnehpclbflnpaaaDoor
