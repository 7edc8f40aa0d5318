/- NoteIds: the plain law and the walk. -/
import Derived.Test.YtkplnimjliabnaaDoorIds
namespace Go.Proofs.YtkplnimjliabnaaDoor
open Go.RowKit Go.Lib

/-- the number that digits are -/
def valD (l : List UInt8) : Nat := l.foldl (fun a b => a * 10 + (b.toNat - 48)) 0
theorem valD_snoc (l : List UInt8) (b : UInt8) : valD (l ++ [b]) = valD l * 10 + (b.toNat - 48) := by simp [valD]
theorem u8_48 {n : Nat} (h : n < 10) : (UInt8.ofNat (48 + n)).toNat = 48 + n := by simp; omega
theorem valD_dec (u : Nat) : valD (decDigits u) = u ∧ ∀ b ∈ decDigits u, 48 ≤ b.toNat ∧ b.toNat ≤ 57 := by
  induction u using Nat.strongRecOn with
  | ind u ih =>
    rw [decDigits]
    split
    · next h =>
      refine ⟨by simp [valD]; omega, fun b hb => ?_⟩
      rw [List.mem_singleton.1 hb, u8_48 h]; omega
    · next h =>
      obtain ⟨i1, i2⟩ := ih (u / 10) (by omega)
      refine ⟨?_, fun b hb => ?_⟩
      · rw [valD_snoc, i1, u8_48 (by omega)]; omega
      · rcases List.mem_append.1 hb with hb | hb
        · exact i2 b hb
        · rw [List.mem_singleton.1 hb, u8_48 (by omega)]; omega
theorem dec_inj {a b : Nat} (h : decDigits a = decDigits b) : a = b := by
  have := congrArg valD h
  rwa [(valD_dec a).1, (valD_dec b).1] at this
theorem itoa_pos {n : Int} (h : 0 ≤ n) : Lib.itoa n = decDigits n.toNat := by
  have := itoa_nonneg n.toNat
  rwa [Int.toNat_of_nonneg h] at this
theorem itoa_inj {a b : Int} (ha : 0 ≤ a) (hb : 0 ≤ b) (h : Lib.itoa a = Lib.itoa b) : a = b := by
  rw [itoa_pos ha, itoa_pos hb] at h
  have := dec_inj h; omega
theorem itoa_bytes {a : Int} (ha : 0 ≤ a) : ∀ b ∈ Lib.itoa a, b ≠ 45 := by
  intro b hb e
  rw [itoa_pos ha] at hb
  have := (valD_dec _).2 b hb
  rw [e] at this; revert this; decide
/-- two pairs of words with a sign between that is in none -/
theorem split_inj {s : UInt8} : ∀ {x y x' y' : List UInt8}, (∀ b ∈ x, b ≠ s) → (∀ b ∈ x', b ≠ s) → x ++ s :: y = x' ++ s :: y' → x = x' ∧ y = y'
  | [], y, [], y', _, _, h => by simpa using h
  | [], y, b :: x', y', _, h', h => by
    simp only [List.nil_append, List.cons_append, List.cons.injEq] at h
    exact absurd h.1.symm (h' b (List.mem_cons_self ..))
  | b :: x, y, [], y', h', _, h => by
    simp only [List.nil_append, List.cons_append, List.cons.injEq] at h
    exact absurd h.1 (h' b (List.mem_cons_self ..))
  | b :: x, y, b' :: x', y', h1, h2, h => by
    simp only [List.cons_append, List.cons.injEq] at h
    obtain ⟨rfl, h⟩ := h
    obtain ⟨i1, i2⟩ := split_inj (fun c hc => h1 c (List.mem_cons_of_mem _ hc)) (fun c hc => h2 c (List.mem_cons_of_mem _ hc)) h
    exact ⟨by rw [i1], i2⟩
theorem id_inj {a b : Int} (ha : 0 ≤ a) (hb : 0 ≤ b) (h : idL a = idL b) : a = b := itoa_inj ha hb (by simpa [idL] using h)
theorem back_inj {a b c d : Int} (ha : 0 ≤ a) (hb : 0 ≤ b) (hc : 0 ≤ c) (hd : 0 ≤ d) (h : backL a c = backL b d) : a = b ∧ c = d := by
  unfold backL at h
  simp only [List.append_assoc, List.cons_append, List.nil_append] at h
  simp only [List.cons.injEq, true_and] at h
  obtain ⟨h1, h2⟩ := split_inj (itoa_bytes ha) (itoa_bytes hb) h
  exact ⟨itoa_inj ha hb h1, itoa_inj hc hd h2⟩
theorem id_back {a b c : Int} : idL a ≠ backL b c := by
  intro h
  unfold idL backL at h
  simp at h

theorem beq_of {X Y : ByteArray} {v : Bool} (h : v = true ↔ X.data.toList = Y.data.toList) : (X.toList == Y.toList) = v := by
  rw [Lib.toList_data, Lib.toList_data, Bool.eq_iff_iff, beq_iff_eq]; exact h.symm

set_option maxRecDepth 100000 in
set_option maxHeartbeats 2000000 in
theorem noteIds_walk (a b c d : Int) (W : World) (hT : Tabs W) (ha : -9223372036854775808 ≤ a ∧ a ≤ 9223372036854775807) (hb : -9223372036854775808 ≤ b ∧ b ≤ 9223372036854775807) (hc : -9223372036854775808 ≤ c ∧ c ≤ 9223372036854775807) (hd : -9223372036854775808 ≤ d ∧ d ≤ 9223372036854775807) :
    Calls Tryd.prog 3 #[.int .i64 a, .int .i64 b, .int .i64 c, .int .i64 d] W fun e w' => e = .returned (.bool true) ∧ Below W.heap.size W w' := by
  have h0 := Below.refl W.heap.size W
  by_cases hp : 1 ≤ a ∧ 1 ≤ b ∧ 1 ≤ c ∧ 1 ≤ d
  · obtain ⟨p1, p2, p3, p4⟩ := hp
    obtain ⟨IA, hIA⟩ : ∃ E : ByteArray, E.data.toList = idL a := ⟨⟨(idL a).toArray⟩, ba_mk _⟩
    obtain ⟨IB, hIB⟩ : ∃ E : ByteArray, E.data.toList = idL b := ⟨⟨(idL b).toArray⟩, ba_mk _⟩
    obtain ⟨K1, hK1⟩ : ∃ E : ByteArray, E.data.toList = backL a c := ⟨⟨(backL a c).toArray⟩, ba_mk _⟩
    obtain ⟨K2, hK2⟩ : ∃ E : ByteArray, E.data.toList = backL b d := ⟨⟨(backL b d).toArray⟩, ba_mk _⟩
    obtain ⟨K3, hK3⟩ : ∃ E : ByteArray, E.data.toList = backL b c := ⟨⟨(backL b c).toArray⟩, ba_mk _⟩
    have c1 : ∀ {w : World}, Below W.heap.size W w → Calls Tryd.prog 7 #[.int .i64 a] w fun e w' => e = .returned (.string IA) ∧ Below W.heap.size W w' := fun h => id_from a ha.1 ha.2 h hT hIA
    have c2 : ∀ {w : World}, Below W.heap.size W w → Calls Tryd.prog 7 #[.int .i64 b] w fun e w' => e = .returned (.string IB) ∧ Below W.heap.size W w' := fun h => id_from b hb.1 hb.2 h hT hIB
    have c3 : ∀ {w : World}, Below W.heap.size W w → Calls Tryd.prog 8 #[.int .i64 a, .int .i64 c] w fun e w' => e = .returned (.string K1) ∧ Below W.heap.size W w' := fun h => back_from a c ha.1 ha.2 hc.1 hc.2 h hT hK1
    have c4 : ∀ {w : World}, Below W.heap.size W w → Calls Tryd.prog 8 #[.int .i64 b, .int .i64 d] w fun e w' => e = .returned (.string K2) ∧ Below W.heap.size W w' := fun h => back_from b d hb.1 hb.2 hd.1 hd.2 h hT hK2
    have c5 : ∀ {w : World}, Below W.heap.size W w → Calls Tryd.prog 8 #[.int .i64 b, .int .i64 c] w fun e w' => e = .returned (.string K3) ∧ Below W.heap.size W w' := fun h => back_from b c hb.1 hb.2 hc.1 hc.2 h hT hK3
    have e1 : (IA.toList == IB.toList) = (a == b) := beq_of (by rw [hIA, hIB, beq_iff_eq]; exact ⟨fun h => by rw [h], id_inj (by omega) (by omega)⟩)
    have e2 : (K1.toList == K2.toList) = ((a == b) && (c == d)) := beq_of (by rw [hK1, hK2, Bool.and_eq_true, beq_iff_eq, beq_iff_eq]; exact ⟨fun h => by rw [h.1, h.2], back_inj (by omega) (by omega) (by omega) (by omega)⟩)
    have e3 : (IA.toList == K3.toList) = false := by
      cases hq : (IA.toList == K3.toList) with
      | false => rfl
      | true =>
        exfalso
        rw [Lib.toList_data, Lib.toList_data, beq_iff_eq, hIA, hK3] at hq
        exact id_back hq
    have e3' : (IA.toList != K3.toList) = true := by rw [bne, e3]; rfl
    have q1 : 1 ≤ a := p1
    clear hIA hIB hK1 hK2 hK3
    cases hv1 : (a == b) with
    | false =>
      rw [hv1] at e1 e2
      simp only [Bool.false_and] at e2
      go_enter Tryd.func3, Tryd.ntmps3
      go_wp2_with fail
      refine (alive_from (by assumption) hT).mono ?_
      rintro e w0 ⟨rfl, hb0⟩
      go_wp2_with fail
      refine (c1 (by assumption)).mono ?_
      rintro e w1 ⟨rfl, hb1⟩
      go_wp2_with fail
      refine (c2 (by assumption)).mono ?_
      rintro e w2 ⟨rfl, hb2⟩
      go_wp2_with fail
      refine (c3 (by assumption)).mono ?_
      rintro e w3 ⟨rfl, hb3⟩
      go_wp2_with fail
      refine (c4 (by assumption)).mono ?_
      rintro e w4 ⟨rfl, hb4⟩
      go_wp2_with fail
      refine (c1 (by assumption)).mono ?_
      rintro e w5 ⟨rfl, hb5⟩
      go_wp2_with fail
      refine (c5 (by assumption)).mono ?_
      rintro e w6 ⟨rfl, hb6⟩
      go_wp2_with fail
      go_ret
      exact ⟨by first | rfl | exact ret_bool (by first | rfl | simp), by assumption⟩
    | true =>
      rw [hv1] at e1 e2
      simp only [Bool.true_and] at e2
      cases hv2 : (c == d) with
      | false =>
        rw [hv2] at e2
        go_enter Tryd.func3, Tryd.ntmps3
        go_wp2_with fail
        refine (alive_from (by assumption) hT).mono ?_
        rintro e w0 ⟨rfl, hb0⟩
        go_wp2_with fail
        refine (c1 (by assumption)).mono ?_
        rintro e w1 ⟨rfl, hb1⟩
        go_wp2_with fail
        refine (c2 (by assumption)).mono ?_
        rintro e w2 ⟨rfl, hb2⟩
        go_wp2_with fail
        refine (c3 (by assumption)).mono ?_
        rintro e w3 ⟨rfl, hb3⟩
        go_wp2_with fail
        refine (c4 (by assumption)).mono ?_
        rintro e w4 ⟨rfl, hb4⟩
        go_wp2_with fail
        refine (c1 (by assumption)).mono ?_
        rintro e w5 ⟨rfl, hb5⟩
        go_wp2_with fail
        refine (c5 (by assumption)).mono ?_
        rintro e w6 ⟨rfl, hb6⟩
        go_wp2_with fail
        go_ret
        exact ⟨by first | rfl | exact ret_bool (by first | rfl | simp), by assumption⟩
      | true =>
        rw [hv2] at e2
        go_enter Tryd.func3, Tryd.ntmps3
        go_wp2_with fail
        refine (alive_from (by assumption) hT).mono ?_
        rintro e w0 ⟨rfl, hb0⟩
        go_wp2_with fail
        refine (c1 (by assumption)).mono ?_
        rintro e w1 ⟨rfl, hb1⟩
        go_wp2_with fail
        refine (c2 (by assumption)).mono ?_
        rintro e w2 ⟨rfl, hb2⟩
        go_wp2_with fail
        refine (c3 (by assumption)).mono ?_
        rintro e w3 ⟨rfl, hb3⟩
        go_wp2_with fail
        refine (c4 (by assumption)).mono ?_
        rintro e w4 ⟨rfl, hb4⟩
        go_wp2_with fail
        refine (c1 (by assumption)).mono ?_
        rintro e w5 ⟨rfl, hb5⟩
        go_wp2_with fail
        refine (c5 (by assumption)).mono ?_
        rintro e w6 ⟨rfl, hb6⟩
        go_wp2_with fail
        go_ret
        exact ⟨by first | rfl | exact ret_bool (by first | rfl | simp), by assumption⟩
  · have hi : a < 1 ∨ (1 ≤ a ∧ b < 1) ∨ (1 ≤ a ∧ 1 ≤ b ∧ c < 1) ∨ (1 ≤ a ∧ 1 ≤ b ∧ 1 ≤ c ∧ d < 1) := by omega
    clear ha hb hc hd hp
    rcases hi with q1 | ⟨q1, q2⟩ | ⟨q1, q2, q3⟩ | ⟨q1, q2, q3, q4⟩
    all_goals
      go_enter Tryd.func3, Tryd.ntmps3
      go_wp2_with fail
      refine (alive_from (by assumption) hT).mono ?_
      rintro e w0 ⟨rfl, hb0⟩
      go_wp2_with fail
      go_ret
      exact ⟨rfl, by assumption⟩
end Go.Proofs.YtkplnimjliabnaaDoor
