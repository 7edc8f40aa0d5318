/- html.name, html.word: the walks. -/
import Derived.Test.YtpabackkapgkpaaGreatDoorPForest
import Derived.Test.YtpabackkapgkpaaGreatDoorPBlocks
import Derived.Test.YtpabackkapgkpaaGreatDoorIter
import Derived.Test.YtpabackkapgkpaaGreatDoorHNode
namespace Go.Proofs.YtpabackkapgkpaaGreatDoor
open Go.RowKit Go.Lib

/-- up to the first of two signs -/
def stopL (p q : UInt8) (l : List UInt8) : List UInt8 := l.takeWhile fun b => !(b == p || b == q)
theorem nameL_stop (l : List UInt8) : nameL l = stopL 32 62 l := by
  induction l with
  | nil => rfl
  | cons c l ih =>
    unfold nameL stopL
    rw [List.takeWhile_cons]
    by_cases h : c = 32 ∨ c = 62
    · rw [if_pos h]
      rcases h with rfl | rfl <;> rfl
    · rw [if_neg h]
      have : (!(c == 32 || c == 62)) = true := by simp only [not_or] at h; simp [h.1, h.2]
      rw [this, if_pos rfl, ih]
      rfl
theorem wordL_stop (l : List UInt8) : wordL l = stopL 32 9 l := rfl
theorem stop_skip {p q : UInt8} {a : List UInt8} (h : ∀ c ∈ a, c ≠ p ∧ c ≠ q) (r : List UInt8) : stopL p q (a ++ r) = a ++ stopL p q r := by
  induction a with
  | nil => rfl
  | cons c a ih =>
    have hc := h c (by simp)
    unfold stopL at *
    rw [List.cons_append, List.takeWhile_cons]
    have : (!(c == p || c == q)) = true := by simp [hc.1, hc.2]
    rw [this, if_pos rfl, ih (fun d hd => h d (by simp [hd]))]
    rfl
theorem stop_at {p q c : UInt8} (h : c = p ∨ c = q) (r : List UInt8) : stopL p q (c :: r) = [] := by
  unfold stopL
  rw [List.takeWhile_cons]
  rcases h with rfl | rfl <;> simp
theorem tok_plain {x : Nat × List UInt8} (hx : GoodTok x) {p q : UInt8} (hp : p.toNat < 128) (hq : q.toNat < 128) (h1 : x.1 ≠ p.toNat) (h2 : x.1 ≠ q.toNat) : ∀ c ∈ x.2, c ≠ p ∧ c ≠ q := by
  by_cases hr : x.1 < 128
  · obtain ⟨b, e, hb⟩ := good_low hx hr
    rw [e]
    intro c hc
    rw [List.mem_singleton.1 hc]
    exact ⟨fun e => h1 (by rw [← hb, e]), fun e => h2 (by rw [← hb, e])⟩
  · intro c hc
    have := good_high hx (by omega) c hc
    exact ⟨fun e => by subst e; omega, fun e => by subst e; omega⟩
theorem stop_next {L : List UInt8} {p q : UInt8} {pos r n : Nat} (hg : GoodTok (r, (L.drop pos).take n)) (hp : p.toNat < 128) (hq : q.toNat < 128) (h1 : r ≠ p.toNat) (h2 : r ≠ q.toNat) (hL : stopL p q L = L.take pos ++ stopL p q (L.drop pos)) : stopL p q L = L.take (pos + n) ++ stopL p q (L.drop (pos + n)) := by
  rw [hL]
  conv => lhs; rw [← List.take_append_drop n (L.drop pos), stop_skip (tok_plain hg hp hq h1 h2), List.drop_drop]
  rw [List.take_add, List.append_assoc]
theorem stop_here {L : List UInt8} {p q : UInt8} {pos r n : Nat} (hg : GoodTok (r, (L.drop pos).take n)) (hp : p.toNat < 128) (hq : q.toNat < 128) (h : r = p.toNat ∨ r = q.toNat) (hL : stopL p q L = L.take pos ++ stopL p q (L.drop pos)) : stopL p q L = L.take pos := by
  have hr : r < 128 := by omega
  obtain ⟨b, e, hb⟩ := good_low hg hr
  have e : (L.drop pos).take n = [b] := e
  have hb : b.toNat = r := hb
  rw [hL]
  conv => lhs; rw [← List.take_append_drop n (L.drop pos), e]
  rw [List.singleton_append, stop_at (by
    rcases h with h | h
    · exact .inl (UInt8.toNat_inj.1 (by omega))
    · exact .inr (UInt8.toNat_inj.1 (by omega))), List.append_nil]

set_option maxHeartbeats 1000000 in
theorem name_any {w : World} (s X : ByteArray) (hX : X.data.toList = nameL s.data.toList) :
    Calls Tryz.prog 31 #[.string s] w fun e w' => e = .returned (.string X) ∧ Below w.heap.size w w' := by
  have HX : Hid (X.data.toList = stopL 32 62 s.data.toList) := by rw [hX, nameL_stop]; rfl
  clear hX
  go_enter Tryz.func31, Tryz.ntmps31
  go_wp2_with fail
  go_loopw [] (fun wr => ∃ pos, wr.heap[w.heap.size]? = some (.stringIter s pos) ∧ Below w.heap.size w wr ∧ Hid (stopL 32 62 s.data.toList = s.data.toList.take pos ++ stopL 32 62 (s.data.toList.drop pos)) ∧ pos ≤ s.size) (fun wr => s.size - wr.iterPos w.heap.size)
  case atStart => exact ⟨0, World.iter_heap w s 0, (Below.refl _ _).alloc (Nat.le_refl _) _, Lib.hid (by simp), Nat.zero_le _⟩
  case round =>
    obtain ⟨pos, hit, hbw, HS, hps⟩ := hrel
    by_cases hp : pos < s.size
    · obtain ⟨r, n, hn1, hn2, hr, hnx, HI, hb2, hlt, HIT, HIT2, -, -, HG, -, -⟩ := iter_step hit hp hbw (Nat.le_refl _)
      have hpi : (pos : Int) ≤ s.size := by omega
      have hend : r = 32 ∨ r = 62 → X = s.extract 0 pos := fun h => ba_eq (by rw [HX.out, ba_extract, List.drop_zero, stop_here (p := 32) (q := 62) HG.out (by decide) (by decide) h HS.out])
      by_cases h1 : r = 32
      · have HE := Lib.hid (hend (.inl h1))
        subst h1
        clear hend
        go_wp2_with fail
        go_ret
        exact ⟨ret_string HE.out.symm, hb2⟩
      by_cases h2 : r = 62
      · have HE := Lib.hid (hend (.inr h2))
        subst h2
        clear hend
        go_wp2_with fail
        go_ret
        exact ⟨ret_string HE.out.symm, hb2⟩
      have d1 : ((r : Int) == 32) = false := by simp; omega
      have d2 : ((r : Int) == 62) = false := by simp; omega
      have HN := Lib.hid (stop_next HG.out (p := 32) (q := 62) (by decide) (by decide) h1 h2 HS.out)
      clear hend
      go_wp2_with fail
      go_roundw
      case rel => exact ⟨pos + n, HI.out, hb2, HN, hn2⟩
      case measure => rw [HIT.out, HIT2.out]; omega
    · have hnx := iter_end hit hp
      have HE := Lib.hid (show X = s from ba_eq (by
        rw [HX.out, HS.out, List.drop_of_length_le (by rw [← ba_size]; omega), show stopL 32 62 [] = [] from rfl, List.append_nil]
        exact List.take_of_length_le (by rw [← ba_size]; omega)))
      go_wp2_with fail
      go_ret
      exact ⟨ret_string HE.out.symm, hbw⟩

set_option maxHeartbeats 1000000 in
theorem word_any {w : World} (s X : ByteArray) (hX : X.data.toList = wordL s.data.toList) :
    Calls Tryz.prog 55 #[.string s] w fun e w' => e = .returned (.string X) ∧ Below w.heap.size w w' := by
  have HX : Hid (X.data.toList = stopL 32 9 s.data.toList) := by rw [hX, wordL_stop]; rfl
  clear hX
  go_enter Tryz.func55, Tryz.ntmps55
  go_wp2_with fail
  go_loopw [] (fun wr => ∃ pos, wr.heap[w.heap.size]? = some (.stringIter s pos) ∧ Below w.heap.size w wr ∧ Hid (stopL 32 9 s.data.toList = s.data.toList.take pos ++ stopL 32 9 (s.data.toList.drop pos)) ∧ pos ≤ s.size) (fun wr => s.size - wr.iterPos w.heap.size)
  case atStart => exact ⟨0, World.iter_heap w s 0, (Below.refl _ _).alloc (Nat.le_refl _) _, Lib.hid (by simp), Nat.zero_le _⟩
  case round =>
    obtain ⟨pos, hit, hbw, HS, hps⟩ := hrel
    by_cases hp : pos < s.size
    · obtain ⟨r, n, hn1, hn2, hr, hnx, HI, hb2, hlt, HIT, HIT2, -, -, HG, -, -⟩ := iter_step hit hp hbw (Nat.le_refl _)
      have hpi : (pos : Int) ≤ s.size := by omega
      have hend : r = 32 ∨ r = 9 → X = s.extract 0 pos := fun h => ba_eq (by rw [HX.out, ba_extract, List.drop_zero, stop_here (p := 32) (q := 9) HG.out (by decide) (by decide) h HS.out])
      by_cases h1 : r = 32
      · have HE := Lib.hid (hend (.inl h1))
        subst h1
        clear hend
        go_wp2_with fail
        go_ret
        exact ⟨ret_string HE.out.symm, hb2⟩
      by_cases h2 : r = 9
      · have HE := Lib.hid (hend (.inr h2))
        subst h2
        clear hend
        go_wp2_with fail
        go_ret
        exact ⟨ret_string HE.out.symm, hb2⟩
      have d1 : ((r : Int) == 32) = false := by simp; omega
      have d2 : ((r : Int) == 9) = false := by simp; omega
      have HN := Lib.hid (stop_next HG.out (p := 32) (q := 9) (by decide) (by decide) h1 h2 HS.out)
      clear hend
      go_wp2_with fail
      go_roundw
      case rel => exact ⟨pos + n, HI.out, hb2, HN, hn2⟩
      case measure => rw [HIT.out, HIT2.out]; omega
    · have hnx := iter_end hit hp
      have HE := Lib.hid (show X = s from ba_eq (by
        rw [HX.out, HS.out, List.drop_of_length_le (by rw [← ba_size]; omega), show stopL 32 9 [] = [] from rfl, List.append_nil]
        exact List.take_of_length_le (by rw [← ba_size]; omega)))
      go_wp2_with fail
      go_ret
      exact ⟨ret_string HE.out.symm, hbw⟩
end Go.Proofs.YtpabackkapgkpaaGreatDoor
