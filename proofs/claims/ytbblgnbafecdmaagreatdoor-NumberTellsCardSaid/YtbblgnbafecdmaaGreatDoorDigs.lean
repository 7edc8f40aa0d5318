/- number.digits: the walk. -/
import Derived.Test.YtbblgnbafecdmaaGreatDoorNumPlain
import Derived.Test.YtbblgnbafecdmaaGreatDoorSlugPlain
import Derived.Test.YtbblgnbafecdmaaGreatDoorNext
namespace Go.Proofs.YtbblgnbafecdmaaGreatDoor
open Go.Lib

/-- how many counts are some -/
def partsL (c : List Nat) : Nat := (c.filter (fun n => decide (0 < n))).length
def dots (l : List UInt8) : Nat := (l.filter (fun b => b == 46)).length
def dotsT (ts : List (Nat × List UInt8)) : Nat := (ts.filter (fun x => x.1 == 46)).length
theorem dots_app (a b : List UInt8) : dots (a ++ b) = dots a + dots b := by simp [dots]
theorem itoa_byte (n : Nat) : ∀ b ∈ Lib.itoa (n : Int), 48 ≤ b.toNat ∧ b.toNat ≤ 57 := by
  intro b hb
  rw [itoa_nonneg] at hb
  exact (valD_dec n).2 b hb
theorem itoa_ne (n : Nat) : Lib.itoa (n : Int) ≠ [] := by
  rw [itoa_nonneg, decDigits]
  split <;> simp
theorem dots_itoa (n : Nat) : dots (Lib.itoa (n : Int)) = 0 := by
  unfold dots
  rw [List.length_eq_zero_iff, List.filter_eq_nil_iff]
  intro b hb
  have := itoa_byte n b hb
  intro e
  have e2 : b = 46 := by simpa using e
  rw [e2] at this; revert this; decide
theorem digs_ne (a : List UInt8) (n : Nat) : digs a n ≠ [] := by
  unfold digs
  split
  · exact itoa_ne n
  · simp
theorem digs_dots (a : List UInt8) (n : Nat) : dots (digs a n) = if a = [] then 0 else dots a + 1 := by
  unfold digs
  split
  · exact dots_itoa n
  · rw [dots_app]
    have : dots (46 :: Lib.itoa (n : Int)) = dots (Lib.itoa (n : Int)) + 1 := by simp [dots]
    rw [this, dots_itoa]
theorem parts_cons (n : Nat) (c : List Nat) : partsL (n :: c) = (if 0 < n then 1 else 0) + partsL c := by
  unfold partsL
  rw [List.filter_cons]
  split
  · next h => simp at h; rw [if_pos h]; simp; omega
  · next h => simp at h; rw [if_neg (by omega)]; simp
theorem parts_app (c d : List Nat) : partsL (c ++ d) = partsL c + partsL d := by simp [partsL]
theorem numF_dots (c : List Nat) : ∀ a : List UInt8, (a ≠ [] → numF a c ≠ [] ∧ dots (numF a c) = dots a + partsL c) ∧ (0 < partsL c → dots (numF [] c) + 1 = partsL c) := by
  induction c with
  | nil =>
    intro a
    refine ⟨fun h => ⟨h, rfl⟩, fun h => by simp [partsL] at h⟩
  | cons n c ih =>
    intro a
    have e : ∀ a, numF a (n :: c) = numF (if 0 < n then digs a n else a) c := fun a => rfl
    refine ⟨fun h => ?_, fun h => ?_⟩
    · rw [e, parts_cons]
      by_cases hn : 0 < n
      · rw [if_pos hn, if_pos hn]
        have h1 := (ih (digs a n)).1 (digs_ne a n)
        rw [digs_dots, if_neg h] at h1
        exact ⟨h1.1, by omega⟩
      · rw [if_neg hn, if_neg hn]
        have h1 := (ih a).1 h
        exact ⟨h1.1, by omega⟩
    · rw [e, parts_cons]
      rw [parts_cons] at h
      by_cases hn : 0 < n
      · rw [if_pos hn, if_pos hn]
        have h1 := (ih (digs [] n)).1 (digs_ne [] n)
        rw [digs_dots, if_pos rfl] at h1
        omega
      · rw [if_neg hn, if_neg hn]
        rw [if_neg hn] at h
        have h1 := (ih a).2 (by omega)
        omega
theorem bump_parts {c : List Nat} {k : Nat} (h : c.length = 6) (h1 : 1 ≤ k) (h6 : k ≤ 6) : 0 < partsL (bump c k) ∧ partsL ((bump c k).take k) = partsL (bump c k) := by
  have e0 : partsL (List.replicate (6 - k) 0) = 0 := by
    unfold partsL
    rw [List.length_eq_zero_iff, List.filter_eq_nil_iff]
    intro b hb
    rw [(List.mem_replicate.1 hb).2]; decide
  refine ⟨?_, ?_⟩
  · unfold bump
    rw [parts_app, parts_cons, if_pos (by omega)]; omega
  · rw [bump_take h h1 h6]
    unfold bump
    rw [parts_app, parts_app, parts_cons, parts_cons, e0]
    rfl
theorem numK_dots {c : List Nat} {k : Int} (h : c.length = 6) (hk : okLev k = true) : dots (numK c k) + 1 = partsL (nextC c k) := by
  have h2 := okLev_iff.1 hk
  have h3 := bump_parts (k := k.toNat) h (by omega) (by omega)
  unfold numK nextC
  rw [if_pos hk, if_pos hk]
  have h4 := (numF_dots ((bump c k.toNat).take k.toNat) []).2 (by omega)
  omega
theorem numF_bytes (c : List Nat) : ∀ a : List UInt8, (∀ b ∈ a, b.toNat < 128) → ∀ b ∈ numF a c, b.toNat < 128 := by
  induction c with
  | nil => intro a h; exact h
  | cons n c ih =>
    intro a h
    have e : numF a (n :: c) = numF (if 0 < n then digs a n else a) c := rfl
    rw [e]
    refine ih _ ?_
    have hi : ∀ b ∈ Lib.itoa (n : Int), b.toNat < 128 := fun b hb => by have := itoa_byte n b hb; omega
    split
    · unfold digs
      split
      · exact hi
      · intro b hb
        rcases List.mem_append.1 hb with hb | hb
        · exact h b hb
        · rcases List.mem_cons.1 hb with rfl | hb
          · decide
          · exact hi b hb
    · exact h
theorem numK_bytes (c : List Nat) (k : Int) : ∀ b ∈ numK c k, b.toNat < 128 := by
  unfold numK
  split
  · exact numF_bytes _ _ (by simp)
  · simp
theorem toks_ascii (l : List UInt8) (h : ∀ b ∈ l, b.toNat < 128) : dotsT (toks l) = dots l := by
  induction l with
  | nil => rfl
  | cons b l ih =>
    have hb := h b (List.mem_cons_self ..)
    have ih := ih (fun c hc => h c (List.mem_cons_of_mem _ hc))
    rw [toks_asc b l hb]
    unfold dotsT dots at *
    rw [List.filter_cons, List.filter_cons]
    have e : (b.toNat == 46) = (b == 46) := by
      rw [Bool.eq_iff_iff, beq_iff_eq, beq_iff_eq]
      exact ⟨fun h => UInt8.toNat_inj.1 h, fun h => by rw [h]; rfl⟩
    simp only [e]
    split
    · simp only [List.length_cons, ih]
    · exact ih
end Go.Proofs.YtbblgnbafecdmaaGreatDoor
namespace Go.Proofs.YtbblgnbafecdmaaGreatDoor
open Go.RowKit Go.Lib

set_option maxHeartbeats 1000000 in
theorem digits_any {w : World} (hT : Tabs w) (A : ByteArray) (n : Nat) (hA : A.size ≤ 100000) (hn : n ≤ 100000) :
    Calls Tryz.prog 17 #[.string A, .int .i64 n] w fun e w' => e = .returned (.string ⟨(digs A.data.toList n).toArray⟩) ∧ Below w.heap.size w w' := by
  have cIt := fun (w' : World) (h : Below w.heap.size w w') => itoa_from (w0 := w) hT h (n : Int) (by omega) (by omega)
  have hil := itoa_len21 n hn
  obtain ⟨Z, hZ⟩ : ∃ Z : ByteArray, (⟨(Lib.itoa (n : Int)).toArray⟩ : ByteArray) = Z := ⟨_, rfl⟩
  have hZl : Z.data.toList = Lib.itoa (n : Int) := by rw [← hZ]
  have hZs : Z.size ≤ 21 := by rw [ba_size, hZl]; exact hil
  rw [hZ] at cIt
  replace hZ := Lib.hid hZ
  replace hZl := Lib.hid hZl
  have HT := Lib.hid hT
  clear hT hil
  by_cases h0 : A.size = 0
  · have hA0 : A.data.toList = [] := List.eq_nil_of_length_eq_zero (by rw [← ba_size]; exact h0)
    have hd : digs A.data.toList n = Z.data.toList := by unfold digs; rw [if_pos hA0, hZl.out]
    replace hd := Lib.hid hd
    replace hA0 := Lib.hid hA0
    replace h0 := Lib.hid h0
    go_enter Tryz.func17, Tryz.ntmps17
    go_wp2_with fail
    go_loopw [] (fun wr => wr.heap[w.heap.size]? = some (.stringIter A 0) ∧ Below w.heap.size w wr) (fun wr => 0)
    case atStart => exact ⟨by have := World.iter_heap w A 0; simpa using this, (Below.refl _ _).alloc (Nat.le_refl _) _⟩
    case round =>
      obtain ⟨hit, hB⟩ := hrel
      have hit2 := iter_end hit (by rw [h0.out]; omega)
      go_wp2_with fail
      refine (cIt _ hB).mono ?_
      rintro e w2 ⟨rfl, hb2⟩
      go_wp2_with fail
      go_ret
      rw [hd.out]
      exact ⟨rfl, hB.trans (hb2.mono hB.size)⟩
  · have hA0 : A.data.toList ≠ [] := fun e => h0 (by rw [ba_size, e]; rfl)
    have hd : digs A.data.toList n = (A ++ ⟨#[46]⟩ ++ Z).data.toList := by
      unfold digs; rw [if_neg hA0, ba_append, ba_append, hZl.out]
      simp
    replace hd := Lib.hid hd
    replace hA0 := Lib.hid hA0
    go_enter Tryz.func17, Tryz.ntmps17
    go_wp2_with fail
    go_loopw [] (fun wr => wr.heap[w.heap.size]? = some (.stringIter A 0) ∧ Below w.heap.size w wr) (fun wr => 0)
    case atStart => exact ⟨by have := World.iter_heap w A 0; simpa using this, (Below.refl _ _).alloc (Nat.le_refl _) _⟩
    case round =>
      obtain ⟨hit, hB⟩ := hrel
      obtain ⟨r, m, hn1, hpn, hrl, hnx, HI, hbw2, hsz2, -⟩ := iter_step hit (show 0 < A.size by omega) hB (Nat.le_refl _)
      rw [Nat.zero_add] at hbw2
      go_wp2_with fail
      refine (cIt _ hbw2).mono ?_
      rintro e w2 ⟨rfl, hb2⟩
      go_wp2_with fail
      go_ret
      rw [hd.out]
      exact ⟨rfl, hbw2.trans (hb2.mono hbw2.size)⟩
end Go.Proofs.YtbblgnbafecdmaaGreatDoor
