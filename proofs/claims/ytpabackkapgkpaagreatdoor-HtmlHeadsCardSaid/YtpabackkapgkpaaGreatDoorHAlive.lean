/- The laws' first call (alive): the walk. -/
import Derived.Test.YtpabackkapgkpaaGreatDoorHPen
import Derived.Test.YtpabackkapgkpaaGreatDoorHTok
namespace Go.Proofs.YtpabackkapgkpaaGreatDoor
open Go.RowKit Go.Lib

theorem secs_nil (w : World) : SecsIn w w.heap.size (.slice none 0 0) [] := ⟨none, 0, rfl, Nat.le_refl _, by simp, fun _ => rfl, .inl rfl⟩
theorem texts_one {w : World} {Fn : Nat → Prop} {m : Nat} (hw : w.heap.size = m) {v : Value} {l : List Inl} (hv : InlsIn w Fn v l) (hF : ¬ Fn m) : TextsIn (w.alloc (.cells #[v] 25)) Fn (.slice (some ⟨m, 0, none⟩) 1 1) [l] := by
  subst hw
  refine ⟨_, 1, rfl, Nat.le_refl _, by decide, .inr ⟨w.heap.size, 0, rfl, by simp, hF, fun i hi => ⟨v, ?_, ?_⟩⟩⟩
  · obtain rfl : i = 0 := by simpa using hi
    rw [Lib.cell_of_heap (heap_alloc_new w _)]; rfl
  · obtain rfl : i = 0 := by simpa using hi
    exact hv.on ((Below.refl _ _).alloc (Nat.le_refl _) _)
def cfg0 : Cfg := ⟨false, false, false, false, 1, []⟩
theorem small_nil {n co no ra : Bool} {d : Int} : Cfg.Small ⟨n, co, no, ra, d, []⟩ := fun s hs => by cases hs
theorem anch_nil {n co no ra : Bool} {d : Int} : Anchored ⟨n, co, no, ra, d, []⟩ := fun s hs => by cases hs
theorem fits_nil {N : Nat} (hN : N ≤ 90000) : Fits N ⟨[], [], [], [], []⟩ := ⟨by simpa using hN, fun x hx => by (cases hx), rfl, fun c hc => by (cases hc), by simpa using hN⟩
def aliveL : List Inl := [⟨3, 0, ⟨#[]⟩, ⟨#[]⟩, ⟨#[]⟩⟩, ⟨1, 1, ⟨#[97, 60]⟩, ⟨#[]⟩, ⟨#[]⟩⟩]
def aliveB : List Blk := [⟨1, 0, 0, false, ⟨#[]⟩, ⟨#[]⟩⟩]
def aliveT : List Inl := [⟨1, 0, ⟨#[120]⟩, ⟨#[]⟩, ⟨#[]⟩⟩]
theorem alive_s : nodesS cfg0 aliveL ⟨[], [], [], [], []⟩ = ⟨[60, 101, 109, 62, 97, 38, 108, 116, 59, 60, 47, 101, 109, 62], [], [], [], []⟩ := by rfl
theorem alive_b : blocksF cfg0 [aliveT] aliveB 0 0 ⟨[], [], [], [], []⟩ = ⟨[60, 112, 62, 120, 60, 47, 112, 62, 10], [], [], [], []⟩ := by rfl
theorem alive_t : forestF [60, 112, 62, 97, 60, 47, 112, 62] [] [] = some [[60, 112, 62], [60, 47, 112, 62]] := by rfl

set_option maxHeartbeats 2000000 in
set_option maxRecDepth 100000 in
theorem alive_any {w0 w : World} (hB : Below w0.heap.size w0 w) (hT : Tabs w0) :
    Calls Tryz.prog 14 #[] w fun e w' => e = .returned (.bool true) ∧ Below w0.heap.size w0 w' := by
  have P0 := Pen.fresh hB false false false false 1 [] (.slice none 0 0) (secs_nil w)
  have b1 := (Below.refl _ ((w.alloc (.cells #[.slice none 0 0, .slice none 0 0] 35)).alloc (.cells #[.bool false, .bool false, .bool false, .bool false, .int .i64 1, .slice none 0 0, .pointer (some ⟨w.heap.size, 0, none⟩)] 37))).alloc (Nat.le_refl _) (.cells #[.int .i64 3, .int .i64 0, .string ⟨#[]⟩, .string ⟨#[]⟩, .string ⟨#[]⟩, .int .i64 1, .int .i64 1, .string ⟨#[97, 60]⟩, .string ⟨#[]⟩, .string ⟨#[]⟩] 45)
  have P1 := Lib.hid (P0.on b1)
  have V1 := inls_lit (w := ((w.alloc (.cells #[.slice none 0 0, .slice none 0 0] 35)).alloc (.cells #[.bool false, .bool false, .bool false, .bool false, .int .i64 1, .slice none 0 0, .pointer (some ⟨w.heap.size, 0, none⟩)] 37))) (Fn := (· = w.heap.size)) (m := w.heap.size + 2) (by simp) aliveL (cs := #[.int .i64 3, .int .i64 0, .string ⟨#[]⟩, .string ⟨#[]⟩, .string ⟨#[]⟩, .int .i64 1, .int .i64 1, .string ⟨#[97, 60]⟩, .string ⟨#[]⟩, .string ⟨#[]⟩]) rfl (by decide) (by show ¬ w.heap.size + 2 = w.heap.size; omega)
  have cI := inline_pen (X := ⟨#[60, 101, 109, 62, 97, 38, 108, 116, 59, 60, 47, 101, 109, 62]⟩) P1.out hT small_nil V1 (by intro x hx; simp [aliveL] at hx; rcases hx with rfl | rfl <;> exact ⟨by decide, by decide, by decide⟩) (fits_nil (by decide)) (by decide) alive_s rfl
  have hz1 : (((w.alloc (.cells #[.slice none 0 0, .slice none 0 0] 35)).alloc (.cells #[.bool false, .bool false, .bool false, .bool false, .int .i64 1, .slice none 0 0, .pointer (some ⟨w.heap.size, 0, none⟩)] 37)).alloc (.cells #[.int .i64 3, .int .i64 0, .string ⟨#[]⟩, .string ⟨#[]⟩, .string ⟨#[]⟩, .int .i64 1, .int .i64 1, .string ⟨#[97, 60]⟩, .string ⟨#[]⟩, .string ⟨#[]⟩] 45)).heap.size = w.heap.size + 3 := by simp
  clear P0 b1 V1
  go_enter Tryz.func14, Tryz.ntmps14
  go_wp2_with fail
  refine cI.mono ?_
  rintro e w2 ⟨a2, c2, F2, rfl, P2, hf2, hF2⟩
  have hs2 := hf2.size
  rw [hz1] at hs2
  have hFk : ∀ k, w2.heap.size ≤ k → ¬ F2 k := fun k hk hf => by have := (P2.notes.lt k hf).2; omega
  have b3 := (Below.refl _ w2).alloc (Nat.le_refl _) (.cells #[.int .i64 1, .int .i64 0, .int .i64 0, .bool false, .string ⟨#[]⟩, .string ⟨#[]⟩] 50)
  have V3 := blks_lit (w := w2) (Fn := F2) rfl aliveB (cs := #[.int .i64 1, .int .i64 0, .int .i64 0, .bool false, .string ⟨#[]⟩, .string ⟨#[]⟩]) rfl (by decide) (hFk _ (Nat.le_refl _))
  obtain ⟨w3, hw3⟩ : ∃ w3, w3 = w2.alloc (.cells #[.int .i64 1, .int .i64 0, .int .i64 0, .bool false, .string ⟨#[]⟩, .string ⟨#[]⟩] 50) := ⟨_, rfl⟩
  have hz3 : w3.heap.size = w2.heap.size + 1 := by rw [hw3]; simp
  rw [← hw3] at b3 V3
  have b4 := b3.alloc b3.size (.cells #[.int .i64 1, .int .i64 0, .string ⟨#[120]⟩, .string ⟨#[]⟩, .string ⟨#[]⟩] 45)
  have b34 := (Below.refl _ w3).alloc (Nat.le_refl _) (.cells #[.int .i64 1, .int .i64 0, .string ⟨#[120]⟩, .string ⟨#[]⟩, .string ⟨#[]⟩] 45)
  have V4 := inls_lit (w := w3) (Fn := F2) hz3 aliveT (cs := #[.int .i64 1, .int .i64 0, .string ⟨#[120]⟩, .string ⟨#[]⟩, .string ⟨#[]⟩]) rfl (by decide) (hFk _ (by omega))
  obtain ⟨w4, hw4⟩ : ∃ w4, w4 = w3.alloc (.cells #[.int .i64 1, .int .i64 0, .string ⟨#[120]⟩, .string ⟨#[]⟩, .string ⟨#[]⟩] 45) := ⟨_, rfl⟩
  have hz4 : w4.heap.size = w2.heap.size + 2 := by rw [hw4]; simp; omega
  rw [← hw4] at b4 b34 V4
  have b5 := b4.alloc b4.size (.cells #[.slice (some ⟨w2.heap.size + 1, 0, none⟩) 1 1] 25)
  have b45 := (Below.refl _ w4).alloc (Nat.le_refl _) (.cells #[.slice (some ⟨w2.heap.size + 1, 0, none⟩) 1 1] 25)
  have V5 := texts_one (w := w4) hz4 V4 (hFk _ (by omega))
  have V3' := (V3.on b34).on b45
  have cB := blocks_pen (X := ⟨#[60, 112, 62, 120, 60, 47, 112, 62, 10]⟩) (P2.on b5) hT small_nil anch_nil V3' V5 (by intro x hx; simp [aliveB] at hx; subst hx; exact ⟨by decide, by decide, by decide, by decide, fun h => by cases h⟩) (by intro l hl; simp at hl; subst hl; exact ⟨by decide, fun x hx => by simp [aliveT] at hx; subst hx; exact ⟨by decide, by decide, by decide⟩⟩) (fits_nil (by decide)) (by decide) (by intro x hx; simp [aliveB] at hx; subst hx; decide) (by intro x hx h; simp [aliveB] at hx; subst hx; cases h) (by intro x hx h; simp [aliveB] at hx; subst hx; cases h) alive_b rfl
  subst hw4
  subst hw3
  have hs5 := b5.size
  have HT := Lib.hid (fun w' (hb : Below w0.heap.size w0 w') => hT.on hb)
  have hbw := hB.size
  clear V3 V4 V5 V3' b3 b4 b34 b45 hf2 hF2 hz1 hz3 hz4 cI
  go_wp2_with fail
  refine cB.mono ?_
  rintro e w6 ⟨a6, c6, F6, rfl, P6, hf6, -⟩
  have cT := tokens_any (w := w6) ⟨#[60, 112, 62, 97, 60, 47, 112, 62]⟩ (HT.out _ P6.below) (by decide)
  have B6 := Lib.hid P6.below
  clear P6 hf6 cB P2 b5 hFk
  go_wp2_with fail
  refine cT.mono ?_
  rintro e w7 ⟨vt, l, rfl, hl, hb7, ho⟩
  have hlen : l.length = 2 := by
    have := congrArg List.length hl
    rw [show forestF (ByteArray.mk #[60, 112, 62, 97, 60, 47, 112, 62]).data.toList [] [] = some [[60, 112, 62], [60, 47, 112, 62]] from alive_t] at this
    simpa using this
  have hsome : (forestF (ByteArray.mk #[60, 112, 62, 97, 60, 47, 112, 62]).data.toList [] []).isSome = true := by
    rw [show forestF (ByteArray.mk #[60, 112, 62, 97, 60, 47, 112, 62]).data.toList [] [] = some [[60, 112, 62], [60, 47, 112, 62]] from alive_t]; rfl
  obtain ⟨a7, c7, rfl⟩ := row_slice ho
  rw [hlen, hsome]
  have B7 := Lib.hid (B6.out.trans (hb7.mono B6.out.size))
  clear hl hlen hsome ho hb7 cT
  go_wp2_with fail
  go_ret
  exact ⟨rfl, B7.out⟩
end Go.Proofs.YtpabackkapgkpaaGreatDoor
