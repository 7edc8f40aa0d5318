/- HtmlCodes: the plain law, the walk. -/
import Derived.Test.YtpabackkapgkpaaGreatDoorLRaw
import Derived.Test.YtpabackkapgkpaaGreatDoorHCode
namespace Go.Proofs.YtpabackkapgkpaaGreatDoor
open Go.RowKit Go.Lib

def Low (l : List UInt8) : Prop := ∀ b ∈ l, 97 ≤ b.toNat ∧ b.toNat ≤ 122
theorem low_word {l : List UInt8} (h : Low l) : wordL l = l ∧ ∀ r, wordL (l ++ 32 :: r) = l := by
  induction l with
  | nil => exact ⟨rfl, fun r => rfl⟩
  | cons b l ih =>
    have hb := h b (List.mem_cons_self ..)
    obtain ⟨h1, h2⟩ := ih (fun x hx => h x (List.mem_cons_of_mem _ hx))
    have n1 : b ≠ 32 := fun e => by rw [e] at hb; exact absurd hb (by decide)
    have n2 : b ≠ 9 := fun e => by rw [e] at hb; exact absurd hb (by decide)
    unfold wordL at *
    refine ⟨?_, fun r => ?_⟩
    · rw [List.takeWhile_cons_of_pos (by simp [n1, n2]), h1]
    · rw [List.cons_append, List.takeWhile_cons_of_pos (by simp [n1, n2]), h2]
theorem low_esc {l : List UInt8} (h : Low l) : escL l = l := by
  induction l with
  | nil => rfl
  | cons b l ih =>
    have hb := h b (List.mem_cons_self ..)
    have h1 := ih (fun x hx => h x (List.mem_cons_of_mem _ hx))
    have ne : ∀ c : UInt8, c.toNat < 97 → b ≠ c := fun c hc e => by rw [e] at hb; omega
    have e1 : escByte b = [b] := by
      unfold escByte
      rw [if_neg (ne 38 (by decide)), if_neg (ne 60 (by decide)), if_neg (ne 62 (by decide)), if_neg (ne 34 (by decide)), if_neg (ne 0 (by decide))]
    show escByte b ++ escL l = b :: l
    rw [e1, h1]; rfl
/-- a block of code -/
def codeB (t i : ByteArray) : Blk := ⟨6, 0, 0, false, t, i⟩
theorem low_code {t i j E C : ByteArray} (hi : Low i.data.toList) (hj : j.data.toList = i.data.toList ∨ ∃ r, j.data.toList = i.data.toList ++ 32 :: r) (hE : E.data.toList = escL t.data.toList) (hC : C = if i.toList.isEmpty = true then ⟨#[]⟩ else (⟨#[32, 99, 108, 97, 115, 115, 61, 34, 108, 97, 110, 103, 117, 97, 103, 101, 45]⟩ ++ i ++ ⟨#[34]⟩ : ByteArray)) :
    codeL (codeB t j) = (⟨#[60, 112, 114, 101, 62, 60, 99, 111, 100, 101]⟩ ++ C ++ ⟨#[62]⟩ ++ E ++ ⟨#[60, 47, 99, 111, 100, 101, 62, 60, 47, 112, 114, 101, 62, 10]⟩ : ByteArray).data.toList := by
  obtain ⟨w1, w2⟩ := low_word hi
  have hw : wordL j.data.toList = i.data.toList := by
    rcases hj with h | ⟨r, h⟩
    · rw [h, w1]
    · rw [h, w2]
  have hA : attrL [99, 108, 97, 115, 115] (classL j.data.toList) = C.data.toList := by
    rw [hC]; unfold classL
    rw [hw, Lib.toList_data]
    by_cases hn : i.data.toList = []
    · rw [if_pos hn, if_pos (by rw [hn]; rfl)]; rfl
    · rw [if_neg hn, if_neg (by simpa using hn), ba_append, ba_append]
      unfold attrL
      rw [if_neg (by simp), escL_append, low_esc hi]
      rfl
  unfold codeL codeB
  simp only [ba_append, hA, hE]
theorem codes_two (c : Cfg) (t i j : ByteArray) : blocksF c [] [codeB t i, codeB t j] 0 0 ⟨[], [], [], [], []⟩ = ⟨codeL (codeB t i) ++ codeL (codeB t j), [], [], [], []⟩ := by
  have h1 : ∀ x : ByteArray, (codeB t x).kind = 6 := fun _ => rfl
  have h2 : ∀ x : ByteArray, (codeB t x).depth = 0 := fun _ => rfl
  have h3 : ∀ x : ByteArray, holderL (codeB t x) = ([], []) := fun _ => rfl
  simp [blocksF, blockS, pushS, bodyS, leaveS, leaveF, h1, h2, h3, HSt.put]
theorem code_small {t i : ByteArray} (ht : t.size ≤ 100000) (hi : i.size ≤ 100000) (hp : ∀ b ∈ i.data.toList, b ≠ 38 ∧ b ≠ 92 ∧ b < 128) : (codeB t i).Small :=
  ⟨ht, hi, by show (-4611686018427387904 : Int) ≤ 0 ∧ (0 : Int) ≤ 4611686018427387904; omega, by show (-9223372036854775808 : Int) ≤ 0 ∧ (0 : Int) ≤ 9223372036854775807; omega, fun _ => hp⟩
theorem low_plain {b : UInt8} (h : 97 ≤ b.toNat ∧ b.toNat ≤ 122) : b ≠ 38 ∧ b ≠ 92 ∧ b < 128 :=
  ⟨fun e => by rw [e] at h; exact absurd h (by decide), fun e => by rw [e] at h; exact absurd h (by decide), UInt8.lt_iff_toNat_lt.2 (by show b.toNat < 128; omega)⟩

set_option maxHeartbeats 4000000 in
set_option maxRecDepth 100000 in
theorem htmlCodes_walk (text info : ByteArray) (W : World) (hT : Tabs W) (_ : text.size ≤ 9223372036854775807) (_ : info.size ≤ 9223372036854775807) :
    Calls Tryz.prog 10 #[.string text, .string info] W fun e w' => e = .returned (.bool true) ∧ Below W.heap.size W w' := by
  have h0 := Below.refl W.heap.size W
  by_cases ht : text.size ≤ 100
  · by_cases hi : info.size ≤ 40
    · go_enter Tryz.func10, Tryz.ntmps10
      go_wp2_with fail
      refine (alive_any h0 hT).mono ?_
      rintro e w1 ⟨rfl, hb1⟩
      have HB1 := Lib.hid hb1
      clear hb1
      go_wp2_with fail
      go_loop [5] (fun vi => ∃ i : Nat, i ≤ info.size ∧ vi = .int .i64 i ∧ Hid (Low (info.data.toList.take i))) (fun vi => info.size - (RowKit.intOf vi).toNat)
      case atStart => exact ⟨0, Nat.zero_le _, rfl, by intro x hx; simp at hx⟩
      case round =>
        obtain ⟨i, hii, rfl, HN⟩ := hrel
        by_cases hlt : i < info.size
        · by_cases h1 : (info[i].toNat : Int) < 97
          · go_wp2_with fail
            go_ret
            exact ⟨rfl, HB1.out⟩
          · by_cases h2 : (122 : Int) < (info[i].toNat : Int)
            · go_wp2_with fail
              go_ret
              exact ⟨rfl, HB1.out⟩
            · have HN2 : Hid (Low (info.data.toList.take (i + 1))) := by
                have hi' : i < info.data.toList.length := by rw [← ba_size]; exact hlt
                intro x hx
                rw [List.take_succ_eq_append_getElem hi'] at hx
                rcases List.mem_append.1 hx with hx | hx
                · exact HN.out x hx
                · have e : info.data.toList[i] = info[i] := by simp [ByteArray.getElem_eq_getElem_data]
                  rw [e] at hx
                  rw [List.mem_singleton.1 hx]
                  omega
              go_wp2_with fail
              go_round
              case rel => exact ⟨i + 1, by omega, by go_num, HN2⟩
              case measure => simp only [RowKit.intOf]; omega
        · obtain rfl : i = info.size := by omega
          have hnn : ¬ ((info.size : Int) < info.size) := by omega
          have HL : Hid (Low info.data.toList) := by
            have h9 := HN.out
            rwa [List.take_of_length_le (by rw [← ba_size]; exact Nat.le_refl _)] at h9
          obtain ⟨E, hE⟩ := ex_escE text
          have hEs := esc_size hE
          obtain ⟨C, hC⟩ : ∃ C : ByteArray, C = if info.toList.isEmpty = true then ⟨#[]⟩ else (⟨#[32, 99, 108, 97, 115, 115, 61, 34, 108, 97, 110, 103, 117, 97, 103, 101, 45]⟩ ++ info ++ ⟨#[34]⟩ : ByteArray) := ⟨_, rfl⟩
          have c1 := low_code (j := info) HL.out (.inl rfl) hE hC
          have c2 := low_code (j := info ++ ⟨#[32, 109, 111, 114, 101]⟩) HL.out (.inr ⟨[109, 111, 114, 101], by rw [ba_append]⟩) hE hC
          obtain ⟨X, hX⟩ : ∃ X : ByteArray, X = ⟨#[60, 112, 114, 101, 62, 60, 99, 111, 100, 101]⟩ ++ C ++ ⟨#[62]⟩ ++ E ++ ⟨#[60, 47, 99, 111, 100, 101, 62, 60, 47, 112, 114, 101, 62, 10]⟩ := ⟨_, rfl⟩
          rw [← hX] at c1 c2
          have hXs : X.size ≤ 2000 := by
            have hCs : C.size ≤ 100 := by
              rw [hC]; split
              · show (0 : Nat) ≤ _; omega
              · simp only [ba_size, ba_append, List.length_append]; rw [← ba_size]; simp only [List.length_cons, List.length_nil]; omega
            rw [hX]; simp only [ba_size, ba_append, List.length_append]; rw [← ba_size, ← ba_size]; simp only [List.length_cons, List.length_nil]; omega
          have hs2 : (info ++ ⟨#[32, 109, 111, 114, 101]⟩ : ByteArray).size ≤ 50 := by rw [ba_size, ba_append, List.length_append, ← ba_size]; show info.size + 5 ≤ 50; omega
          have hS := codes_two ⟨false, false, false, false, 0, []⟩ text info (info ++ ⟨#[32, 109, 111, 114, 101]⟩)
          rw [c1, c2] at hS
          have hp1 : ∀ b ∈ info.data.toList, b ≠ 38 ∧ b ≠ 92 ∧ b < 128 := fun b hb => low_plain (HL.out b hb)
          have hp2 : ∀ b ∈ (info ++ ⟨#[32, 109, 111, 114, 101]⟩ : ByteArray).data.toList, b ≠ 38 ∧ b ≠ 92 ∧ b < 128 := fun b hb => by
            rw [ba_append] at hb
            rcases List.mem_append.1 hb with hb | hb
            · exact hp1 b hb
            · have : ∀ b ∈ ([32, 109, 111, 114, 101] : List UInt8), b ≠ 38 ∧ b ≠ 92 ∧ b < 128 := by decide
              exact this b hb
          have sm : ∀ x ∈ [codeB text info, codeB text (info ++ ⟨#[32, 109, 111, 114, 101]⟩)], x.Small := fun x hx => by
            simp only [List.mem_cons, List.not_mem_nil, or_false] at hx
            rcases hx with rfl | rfl
            · exact code_small (by omega) (by omega) hp1
            · exact code_small (by omega) (by omega) hp2
          have kd : ∀ x ∈ [codeB text info, codeB text (info ++ ⟨#[32, 109, 111, 114, 101]⟩)], x.kind = 6 := fun x hx => by
            simp only [List.mem_cons, List.not_mem_nil, or_false] at hx
            rcases hx with rfl | rfl <;> rfl
          have P0 := Pen.fresh HB1.out false false false false 0 [] (.slice none 0 0) (secs_nil w1)
          have cJ := next_blocks P0 hT small_nil anch_nil [codeB text info, codeB text (info ++ ⟨#[32, 109, 111, 114, 101]⟩)] (cs := #[.int .i64 6, .int .i64 0, .int .i64 0, .bool false, .string text, .string info, .int .i64 6, .int .i64 0, .int .i64 0, .bool false, .string text, .string (info ++ ⟨#[32, 109, 111, 114, 101]⟩)]) rfl (by simp) sm (fits_nil (by simp)) (fun x hx => by rw [kd x hx]; decide) (fun x hx _ => code_ok (sm x hx) (kd x hx)) (X := X ++ X) hS (by rw [ba_append])
          have hz2 : ((w1.alloc (.cells #[.slice none 0 0, .slice none 0 0] 35)).alloc (.cells #[.bool false, .bool false, .bool false, .bool false, .int .i64 0, .slice none 0 0, .pointer (some ⟨w1.heap.size, 0, none⟩)] 37)).heap.size = w1.heap.size + 2 := by simp
          rw [hz2] at cJ
          have HE := Lib.hid hE
          have HC := Lib.hid hC
          have HX := Lib.hid hX
          clear hE hC c1 c2 hS hX hp1 hp2 sm kd P0 hz2
          go_wp2_with fail
          refine cJ.mono ?_
          rintro e w2 ⟨a2, c2, F2, rfl, P2⟩
          have HB2 := Lib.hid P2.below
          clear P2 cJ
          cases hem : info.toList.isEmpty with
          | true =>
            obtain rfl : C = ⟨#[]⟩ := by rw [HC.out, if_pos hem]
            go_wp2_with (go_at_call 18; refine (Esc_lit (w0 := W) (X := text) (Y := E) HE.out.symm (by omega) HB2.out).mono ?_; rintro e w4 ⟨rfl, hb4⟩; have HB4 := Lib.hid hb4; clear hb4)
            go_ret
            exact ⟨ret_bool (by rw [← HX.out]; simp), HB4.out⟩
          | false =>
            obtain rfl : C = (⟨#[32, 99, 108, 97, 115, 115, 61, 34, 108, 97, 110, 103, 117, 97, 103, 101, 45]⟩ ++ info ++ ⟨#[34]⟩ : ByteArray) := by rw [HC.out, if_neg (by rw [hem]; decide)]
            go_wp2_with (go_at_call 18; refine (Esc_lit (w0 := W) (X := text) (Y := E) HE.out.symm (by omega) HB2.out).mono ?_; rintro e w4 ⟨rfl, hb4⟩; have HB4 := Lib.hid hb4; clear hb4)
            go_ret
            exact ⟨ret_bool (by rw [← HX.out]; simp), HB4.out⟩
    · go_enter Tryz.func10, Tryz.ntmps10
      go_wp2_with (go_at_call 14; refine (alive_any h0 hT).mono ?_; rintro e w1 ⟨rfl, hb1⟩)
      go_ret
      exact ⟨rfl, hb1⟩
  · go_enter Tryz.func10, Tryz.ntmps10
    go_wp2_with (go_at_call 14; refine (alive_any h0 hT).mono ?_; rintro e w1 ⟨rfl, hb1⟩)
    go_ret
    exact ⟨rfl, hb1⟩
end Go.Proofs.YtpabackkapgkpaaGreatDoor
