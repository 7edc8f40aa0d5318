/- number: the walk. -/
import Derived.Test.YtnehpclbflnpaaaDoorNumber
import Derived.Deep.DeepCutAuto
import Derived.Deep.CutBlock
namespace Go.Proofs.YtnehpclbflnpaaaDoor
open Go.RowKit Go.Lib

theorem ba_size (b : ByteArray) : b.size = b.data.toList.length := by cases b; rfl
theorem drop_cons {s : ByteArray} {pos : Nat} (hp : pos < s.size) : s.data.toList.drop pos = s[pos] :: s.data.toList.drop (pos + 1) := by
  have hp' : pos < s.data.toList.length := by rw [← ba_size]; exact hp
  rw [List.drop_eq_getElem_cons hp']; congr 1

theorem digN_stop {base : Int} {l : List UInt8} {pos : Nat} (hall : ∀ b ∈ l.take pos, isDig base b = true) (hp : pos ≤ l.length) (hs : ∀ h : pos < l.length, isDig base l[pos] = false) : digN base l = pos := by
  obtain ⟨h1, h2⟩ := digN_at hall hp
  rcases Nat.lt_or_ge pos (digN base l) with h | h
  · obtain ⟨q, hq⟩ := h1.1 h
    rw [hs q] at hq; cases hq
  · omega
theorem numR_none {base : Int} {most : Nat} {l : List UInt8} {pos : Nat} (hd : digN base l = pos) (h : pos = 0 ∨ l[pos]? ≠ some 59) : numR base most l = ([], 0) := by
  unfold numR numL
  rw [hd, if_pos (.inr h)]
theorem numR_most {base : Int} {most : Nat} {l : List UInt8} (hall : ∀ b ∈ l.take most, isDig base b = true) (hp : most < l.length) (hs : isDig base l[most] = true) : numR base most l = ([], 0) := by
  unfold numR numL
  rw [if_pos (.inl ((digN_at hall (by omega)).1.2 ⟨hp, hs⟩))]
theorem numR_some {base : Int} {most : Nat} {l : List UInt8} {pos : Nat} (hd : digN base l = pos) (hm : pos ≤ most) (h0 : pos ≠ 0) (h : l[pos]? = some 59) : numR base most l = (runeText (valB base (l.take pos)), pos) := by
  unfold numR numL
  rw [hd, if_neg]
  rintro (h1 | h1 | h1)
  · omega
  · exact h0 h1
  · exact h1 h
theorem val_32 {base : Int} {most : Nat} (hb : (base = 10 ∧ most = 7) ∨ (base = 16 ∧ most = 6)) {l : List UInt8} {pos : Nat} (hall : ∀ b ∈ l.take pos, isDig base b = true) (hm : pos ≤ most) : 0 ≤ valB base (l.take pos) ∧ valB base (l.take pos) < 16777216 := by
  obtain ⟨h1, h2⟩ := valB_bd (by omega) _ hall
  refine ⟨h1, Int.lt_of_lt_of_le h2 ?_⟩
  have hl : (l.take pos).length ≤ most := by rw [List.length_take]; omega
  have key : ∀ k, k ≤ 7 → (10 : Int) ^ k ≤ 16777216 := by decide
  have key2 : ∀ k, k ≤ 6 → (16 : Int) ^ k ≤ 16777216 := by decide
  rcases hb with ⟨rfl, rfl⟩ | ⟨rfl, rfl⟩
  · exact key _ hl
  · exact key2 _ hl
theorem wrap32_id {v : Int} (h0 : 0 ≤ v) (h1 : v < 16777216) : wrap32 v = v := by
  unfold wrap32
  first | omega | (rw [Int.emod_eq_of_lt] <;> omega)

theorem val_64 {base : Int} {most : Nat} (hb : (base = 10 ∧ most = 7) ∨ (base = 16 ∧ most = 6)) {v d : Int} (h0 : 0 ≤ v) (h1 : v < 16777216) (d0 : 0 ≤ d) (d1 : d < base) : wrap64 (v * base + d) = v * base + d := by
  unfold wrap64
  rcases hb with ⟨rfl, rfl⟩ | ⟨rfl, rfl⟩ <;> first | omega | (rw [Int.emod_eq_of_lt] <;> omega)
theorem take_one {s : ByteArray} {pos : Nat} (hp : pos < s.size) : s.data.toList.take (pos + 1) = s.data.toList.take pos ++ [s[pos]] := by
  rw [List.take_add, drop_cons hp]; rfl


/-- what the loop leaves -/
def NumAt (s : ByteArray) (base : Int) (most : Nat) (w0 : World) (v q : Value) (wx : World) : Prop :=
  ∃ (k : Nat) (z : Int), v = .int .i64 z ∧ q = .int .i64 k ∧ 0 ≤ z ∧ z < 16777216 ∧ Below w0.heap.size w0 wx ∧
    ((k = 0 ∧ numR base most s.data.toList = ([], 0)) ∨ (∃ hk : k < s.size, k ≠ 0 ∧ s[k].toNat ≠ 59 ∧ numR base most s.data.toList = ([], 0)) ∨
      (∃ hk : k < s.size, k ≠ 0 ∧ s[k].toNat = 59 ∧ numR base most s.data.toList = (runeText z, k)))
theorem numAt_stop {s : ByteArray} {base : Int} {most : Nat} (hb : (base = 10 ∧ most = 7) ∨ (base = 16 ∧ most = 6)) {w0 wx : World} {pos : Nat} (hp : pos < s.size) (hm : pos ≤ most)
    (hall : ∀ b ∈ s.data.toList.take pos, isDig base b = true) (hd : isDig base s[pos] = false) (hw : Below w0.heap.size w0 wx) :
    NumAt s base most w0 (.int .i64 (valB base (s.data.toList.take pos))) (.int .i64 pos) wx := by
  obtain ⟨h0, h1⟩ := val_32 hb hall hm
  have hpl : pos < s.data.toList.length := by rw [← ba_size]; exact hp
  have hg : s.data.toList[pos]? = some s[pos] := by rw [List.getElem?_eq_getElem hpl]; rfl
  have hD := digN_stop hall (Nat.le_of_lt hpl) (fun _ => hd)
  refine ⟨pos, _, rfl, rfl, h0, h1, hw, ?_⟩
  by_cases hz : pos = 0
  · exact .inl ⟨hz, numR_none hD (.inl hz)⟩
  · by_cases hB : s[pos].toNat = 59
    · refine .inr (.inr ⟨hp, hz, hB, numR_some hD hm hz (by rw [hg]; congr 1; apply UInt8.toNat_inj.1; rw [hB]; rfl)⟩)
    · refine .inr (.inl ⟨hp, hz, hB, numR_none hD (.inr ?_)⟩)
      rw [hg]; intro h9; have h8 := Option.some.inj h9; rw [h8] at hB; exact hB rfl
theorem numAt_end {s : ByteArray} {base : Int} {most : Nat} (hb : (base = 10 ∧ most = 7) ∨ (base = 16 ∧ most = 6)) {w0 wx : World} {pos : Nat} (hp : ¬ pos < s.size) (hps : pos ≤ s.size) (hm : pos ≤ most)
    (hall : ∀ b ∈ s.data.toList.take pos, isDig base b = true) (hw : Below w0.heap.size w0 wx) :
    NumAt s base most w0 (.int .i64 (valB base (s.data.toList.take pos))) (.int .i64 0) wx := by
  obtain ⟨h0, h1⟩ := val_32 hb hall hm
  have hD := digN_stop hall (by rw [← ba_size]; exact hps) (fun h9 => by rw [← ba_size] at h9; omega)
  exact ⟨0, _, rfl, rfl, h0, h1, hw, .inl ⟨rfl, numR_none hD (by right; rw [List.getElem?_eq_none (by rw [← ba_size]; omega)]; simp)⟩⟩

set_option maxRecDepth 100000 in
set_option maxHeartbeats 20000000 in
theorem number_from {w0 w : World} (s : ByteArray) (base : Int) (most : Nat) (hb : (base = 10 ∧ most = 7) ∨ (base = 16 ∧ most = 6)) (h : Below w0.heap.size w0 w) :
    Calls Tryd.prog 20 #[.string s, .int .i64 base, .int .i64 most] w fun e w' => e = .returned (.tuple #[.string ⟨(numR base most s.data.toList).1.toArray⟩, .int .i64 (numR base most s.data.toList).2]) ∧ Below w0.heap.size w0 w' := by
  have hsz0 := h.size
  go_enter Tryd.func20, Tryd.ntmps20
  go_upto_block 0 with fail
  go_cut [8, 9] (fun v q wx => NumAt s base most w0 v q wx)
  case first =>
    go_wp2_with fail
    go_loopw [8, 9] (fun v q wr => ∃ pos : Nat, wr.heap[w.heap.size]? = some (.stringIter s pos) ∧ Below w0.heap.size w0 wr ∧ v = .int .i64 (valB base (s.data.toList.take pos)) ∧ q = .int .i64 0 ∧ pos ≤ most ∧ pos ≤ s.size ∧ ∀ b ∈ s.data.toList.take pos, isDig base b = true) (fun _ _ wr => s.size - wr.iterPos w.heap.size)
    case atStart =>
      refine ⟨0, World.iter_heap w _ 0, h.alloc hsz0 _, by simp [valB], rfl, Nat.zero_le _, Nat.zero_le _, by simp⟩
    case round =>
      obtain ⟨pos, hit, hbw, rfl, rfl, hpm, hps, hall⟩ := hrel
      by_cases hp : pos < s.size
      · obtain ⟨r, n, hn1, hpn, hrl, hnx, HI, hbw2, hsz2, HP1, HP2, HD, HNE, HG, HT, HTK⟩ := iter_step hit hp hbw (by omega)
        have hpl : pos < s.data.toList.length := by rw [← ba_size]; exact hp
        have hB : ∃ B : UInt8, s[pos]'hp = B := ⟨_, rfl⟩
        obtain ⟨B, hB⟩ := hB
        have hDC := Lib.hid (drop_cons hp)
        have hGE : s.data.toList[pos]'hpl = B := by rw [← hB]; rfl
        have hGE := Lib.hid hGE
        obtain ⟨hv0, hv1⟩ := val_32 hb hall hpm
        have hall := Lib.hid hall
        have hst : isDig base B = false → Hid (∀ wx, Below w0.heap.size w0 wx → NumAt s base most w0 (.int .i64 (valB base (s.data.toList.take pos))) (.int .i64 pos) wx) := fun hd wx hw => numAt_stop hb hp hpm hall.out (by rw [hB]; exact hd) hw
        by_cases hr : r < 128
        · obtain ⟨rfl, c, hc, hrc⟩ := tok_dec HNE.out HD.out HG.out hr
          rw [hDC.out, hB] at hc
          simp only [List.head?_cons, Option.some.injEq] at hc
          subst hc
          subst hrc
          have hix := indexRune_dig B.toNat hr
          obtain ⟨d, hd⟩ : ∃ d, Lib.indexByte hexList (bits BinOp.or IntKind.i32 (B.toNat : Int) 32).toNat.toUInt8 = d := ⟨_, rfl⟩
          have HF := (idx_fin ⟨B.toNat, hr⟩).2.2 base (by rcases hb with ⟨rfl, -⟩ | ⟨rfl, -⟩ <;> simp)
          dsimp only at HF
          rw [hd, UInt8.ofNat_toNat] at HF
          rw [hd] at hix
          clear hd HT HD HG HNE hDC hrl hn1
          cases hdig : isDig base B with
          | true =>
            obtain ⟨F1, F2, F3, F4⟩ := HF.1 hdig
            obtain ⟨-, F5, F6⟩ := isDig_lo hdig
            subst F1
            clear HF hst
            have f1 : decide ((B.toNat : Int) < 48) = false := by simp only [decide_eq_false_iff_not]; omega
            have f2 : decide ((102 : Int) < B.toNat) = false := by simp only [decide_eq_false_iff_not]; omega
            have f4 : decide (hexVal B < 0) = false := by simp only [decide_eq_false_iff_not]; omega
            have f5 : decide (base ≤ hexVal B) = false := by simp only [decide_eq_false_iff_not]; omega
            have f3 : decide ((57 : Int) < B.toNat) = false ∨ (decide ((57 : Int) < B.toNat) = true ∧ decide ((B.toNat : Int) < 65) = false) := by
              simp only [decide_eq_false_iff_not, decide_eq_true_eq]; omega
            have hw1 := val_64 hb hv0 hv1 (d := 0) (by omega) (by omega)
            rw [Int.add_zero] at hw1
            have hw2 := val_64 hb hv0 hv1 F5 F6
            have HT1 := Lib.hid (take_one hp)
            clear F2 F3 F4 F5 F6
            have hdig := Lib.hid hdig
            rcases f3 with f3 | ⟨f3, f6⟩
            all_goals by_cases hpq : pos = most
            all_goals first
              | (subst hpq; have hpq' : ((pos : Int) == (pos : Int)) = true := by simp)
              | (have hpq' : ((pos : Int) == (most : Int)) = false := by (rw [beq_eq_false_iff_ne]; omega)
                 have hpq := Lib.hid hpq)
            all_goals go_wp2_with (first | (go_at_call 60; refine (hix _).mono ?_; rintro e w1 ⟨rfl, hb1⟩))
            all_goals first
              | (go_ret2
                 have hall := hall.out
                 have hdig := hdig.out
                 rw [numR_most hall hpl (by rw [hGE.out]; exact hdig)]
                 exact ⟨rfl, hbw2.trans (hb1.mono (Nat.le_trans hsz0 (Nat.le_of_lt hsz2)))⟩)
              | (go_roundw
                 case rel =>
                   refine ⟨pos + 1, (hb1.block _ hsz2).trans HI.out, hbw2.trans (hb1.mono (Nat.le_trans hsz0 (Nat.le_of_lt hsz2))), ?_, rfl, ?_, hpn, ?_⟩
                   · rw [hw2, HT1.out, valB_snoc, hB]
                   · have := hpq.out; omega
                   · rw [HT1.out, hB]
                     intro b hb
                     rcases List.mem_append.1 hb with hb | hb
                     · exact hall.out b hb
                     · rw [List.mem_singleton.1 hb]; exact hdig.out
                 case measure =>
                   have h9 : w1.iterPos w.heap.size = pos + 1 := iterPos_at ((hb1.block _ hsz2).trans HI.out)
                   rw [HP1.out, h9]; omega)
          | false =>
            have hst2 := HF.2 hdig
            have hst := hst hdig
            clear HF
            have hdig := Lib.hid hdig
            have f : decide ((B.toNat : Int) < 48) = true ∨ (decide ((B.toNat : Int) < 48) = false ∧ decide ((102 : Int) < B.toNat) = true) ∨
                (decide ((B.toNat : Int) < 48) = false ∧ decide ((102 : Int) < B.toNat) = false ∧ decide ((57 : Int) < B.toNat) = true ∧ decide ((B.toNat : Int) < 65) = true) ∨
                (decide ((B.toNat : Int) < 48) = false ∧ decide ((102 : Int) < B.toNat) = false ∧ decide ((57 : Int) < B.toNat) = true ∧ decide ((B.toNat : Int) < 65) = false ∧ decide (d < 0) = true) ∨
                (decide ((B.toNat : Int) < 48) = false ∧ decide ((102 : Int) < B.toNat) = false ∧ decide ((57 : Int) < B.toNat) = false ∧ decide (d < 0) = true) ∨
                (decide ((B.toNat : Int) < 48) = false ∧ decide ((102 : Int) < B.toNat) = false ∧ decide ((57 : Int) < B.toNat) = true ∧ decide ((B.toNat : Int) < 65) = false ∧ decide (d < 0) = false ∧ decide (base ≤ d) = true) ∨
                (decide ((B.toNat : Int) < 48) = false ∧ decide ((102 : Int) < B.toNat) = false ∧ decide ((57 : Int) < B.toNat) = false ∧ decide (d < 0) = false ∧ decide (base ≤ d) = true) := by
              simp only [decide_eq_false_iff_not, decide_eq_true_eq]
              omega
            have hst2 := Lib.hid hst2
            rcases f with f1 | ⟨f1, f2⟩ | ⟨f1, f2, f3, f4⟩ | ⟨f1, f2, f3, f4, f5⟩ | ⟨f1, f2, f3, f5⟩ | ⟨f1, f2, f3, f4, f5, f6⟩ | ⟨f1, f2, f3, f5, f6⟩
            all_goals go_wp2_with (first | (go_at_call 60; refine (hix _).mono ?_; rintro e w1 ⟨rfl, hb1⟩))
            all_goals go_meet
            all_goals exact hst.out _ (hbw2.trans (hb1.mono (Nat.le_trans hsz0 (Nat.le_of_lt hsz2))))
        · obtain ⟨d, hix⟩ := indexRune_some (bits BinOp.or IntKind.i32 (r : Int) 32)
          have hB8 : 128 ≤ B.toNat := by
            rcases Nat.lt_or_ge B.toNat 128 with h9 | h9
            · exfalso
              have h8 := HD.out
              rw [hDC.out, hB, decodeL_ascii _ _ h9] at h8
              have := (Prod.mk.inj h8).1
              omega
            · exact h9
          have hdig : isDig base B = false := by
            cases h9 : isDig base B with
            | false => rfl
            | true => have := (isDig_lo h9).1; omega
          have hst := hst hdig
          have f1 : decide ((r : Int) < 48) = false := by simp only [decide_eq_false_iff_not]; omega
          have f2 : decide ((102 : Int) < r) = true := by simp only [decide_eq_true_eq]; omega
          have hdig := Lib.hid hdig
          go_wp2_with (first | (go_at_call 60; refine (hix _).mono ?_; rintro e w1 ⟨rfl, hb1⟩))
          go_meet
          exact hst.out _ (hbw2.trans (hb1.mono (Nat.le_trans hsz0 (Nat.le_of_lt hsz2))))
      · have hit2 := iter_end hit hp
        have hend := Lib.hid (numAt_end hb hp hps hpm hall hbw)
        have hall := Lib.hid hall
        go_wp2_with fail
        go_meet
        exact hend.out
  case rest =>
    obtain ⟨k, z, rfl, rfl, hz0, hz1, hbc, hc⟩ := hcut
    have hv32 := wrap32_id hz0 hz1
    rcases hc with ⟨rfl, hR⟩ | ⟨hk, hk0, hk1, hR⟩ | ⟨hk, hk0, hk1, hR⟩
    · have hR := Lib.hid hR
      go_wp2_with fail
      go_ret2
      rw [hR.out]
      exact ⟨rfl, hbc⟩
    · have hR := Lib.hid hR
      have q1 : ((k : Int) == 0) = false := by rw [beq_eq_false_iff_ne]; omega
      have q2 : ((s[k].toNat : Int) != 59) = true := by rw [bne_iff_ne]; omega
      go_wp2_with fail
      go_ret2
      rw [hR.out]
      exact ⟨rfl, hbc⟩
    · have hR := Lib.hid hR
      have q1 : ((k : Int) == 0) = false := by rw [beq_eq_false_iff_ne]; omega
      have q2 : ((s[k].toNat : Int) != 59) = false := by rw [hk1]; decide
      have hk1 := Lib.hid hk1
      have hvr := validRune_any z
      by_cases hz9 : z = 0
      · have hrt := Lib.hid (show runeText z = [239, 191, 189] by unfold runeText; rw [if_pos (.inl hz9)])
        subst hz9
        clear hv32 hz0 hz1
        go_wp2_with fail
        go_ret2
        rw [hR.out]
        dsimp only
        rw [hrt.out]
        exact ⟨rfl, hbc⟩
      · have q3 : (z == 0) = false := by rw [beq_eq_false_iff_ne]; exact hz9
        have hz9 := Lib.hid hz9
        cases hva : Utf8.valid z with
        | true =>
          have hrt := Lib.hid (show runeText z = encodeRune z by unfold runeText; rw [if_neg (by rw [hva]; rintro (h | h); exact hz9.out h; cases h)])
          rw [hva] at hvr
          go_wp2_with (first | (go_at_call 61; refine (hvr _).mono ?_; rintro e w2 ⟨rfl, rfl⟩))
          go_ret2
          rw [hR.out]
          dsimp only
          rw [hrt.out]
          refine ⟨?_, hbc⟩
          have hu : Utf8.encode z = ⟨(encodeRune z).toArray⟩ := by rw [← utf8_enc]
          rw [hu]; rfl
        | false =>
          have hrt := Lib.hid (show runeText z = [239, 191, 189] by unfold runeText; rw [if_pos (.inr hva)])
          rw [hva] at hvr
          go_wp2_with (first | (go_at_call 61; refine (hvr _).mono ?_; rintro e w2 ⟨rfl, rfl⟩))
          go_ret2
          rw [hR.out]
          dsimp only
          rw [hrt.out]
          exact ⟨rfl, hbc⟩
end Go.Proofs.YtnehpclbflnpaaaDoor
