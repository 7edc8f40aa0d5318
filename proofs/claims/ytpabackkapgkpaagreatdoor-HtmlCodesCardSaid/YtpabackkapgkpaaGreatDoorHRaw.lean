/- (*html.paper).raw: the walk. -/
import Derived.Test.YtpabackkapgkpaaGreatDoorHPen
namespace Go.Proofs.YtpabackkapgkpaaGreatDoor
open Go.RowKit Go.Lib

set_option maxHeartbeats 2000000 in
set_option maxRecDepth 100000 in
theorem raw_ok {w0 : World} {Fn : Nat → Prop} {c : Cfg} {wb nb : Nat} {x : Blk} (hx : x.Small) : PutOk 41 w0 Fn c wb nb x (rawL c x) := by
  intro w1 v9 b s w hw h hl
  have hxt := hx.text
  obtain ⟨kd, dp, nn, ti, tx, inf⟩ := x
  simp only at hxt
  unfold Blk.val
  simp only
  have H := Lib.hid (h.on ((Below.refl w.heap.size w).alloc (Nat.le_refl _) (.cells #[.int .i64 kd, .int .i64 dp, .int .i64 nn, .bool ti, .string tx, .string inf] 50)))
  obtain ⟨vS, hcw, -⟩ := H.out.writer hw
  obtain ⟨dg, hp, -⟩ := H.out.paper
  have c0 := hp.cell0
  obtain ⟨-, -, k3, -, -⟩ := writer_cells hcw
  have q4 : (w.alloc (.cells #[.int .i64 kd, .int .i64 dp, .int .i64 nn, .bool ti, .string tx, .string inf] 50)).cell? ⟨w.heap.size, 4, none⟩ = some (.string tx) := by rw [Lib.cell_of_heap (heap_alloc_new w _)]; rfl
  obtain ⟨S, hS⟩ : ∃ S : ByteArray, (⟨(Lib.trimRightB tx.data.toList 10).toArray⟩ : ByteArray) = S := ⟨_, rfl⟩
  have hSl : S.data.toList = trimR tx.data.toList := by rw [← hS, ba_mk]; rfl
  have hSs : S.size ≤ 100000 := by
    have := trimR_length tx.data.toList
    rw [← hSl, ← ba_size, ← ba_size] at this; omega
  have cT := fun w => Tryz.strings_TrimRight_one tx 10 (by decide) w (by omega)
  rw [hS] at cT
  have HL := Lib.hid hl
  have HSL := Lib.hid hSl
  clear h hcw hp hl hS hSl hx
  obtain ⟨E, hE⟩ : ∃ E : ByteArray, E.data.toList = escL S.data.toList := ⟨_, ba_mk _⟩
  have hEs : E.size ≤ 6 * S.size := by rw [ba_size, hE, ba_size]; exact escL_length _
  have HE := Lib.hid hE
  clear hE
  cases hr : c.raw with
  | true =>
    rw [hr] at k3
    have hX : (S ++ ⟨#[10]⟩ : ByteArray).data.toList = rawL c ⟨kd, dp, nn, ti, tx, inf⟩ := by
      unfold rawL; rw [hr, if_pos rfl, ba_append, HSL.out]
    have cP := put_any H.out hX HL.out
    clear hX
    go_enter Tryz.func41, Tryz.ntmps41
    go_wp2_with (go_at_call 57; refine (cT _).mono ?_; rintro e w2 ⟨rfl, rfl⟩)
    refine cP.mono ?_
    rintro e w3 ⟨rfl, h3⟩
    go_wp2_with fail
    go_end0
    exact ⟨rfl, h3⟩
  | false =>
    rw [hr] at k3
    have hX : ((⟨#[60, 112, 114, 101, 62]⟩ ++ E ++ ⟨#[60, 47, 112, 114, 101, 62]⟩ : ByteArray) ++ ⟨#[10]⟩ : ByteArray).data.toList = rawL c ⟨kd, dp, nn, ti, tx, inf⟩ := by
      unfold rawL; rw [hr, if_neg (by decide)]; simp only [ba_append, HE.out, HSL.out]
    have HXX := Lib.hid hX
    clear hX
    go_enter Tryz.func41, Tryz.ntmps41
    go_wp2_with (first
      | (go_at_call 57; refine (cT _).mono ?_; rintro e w2 ⟨rfl, rfl⟩)
      | (go_at_call 18; refine (Esc_lit (w0 := (w.alloc (.cells #[.int .i64 kd, .int .i64 dp, .int .i64 nn, .bool ti, .string tx, .string inf] 50))) (X := S) (Y := E) HE.out.symm (by omega) (Below.refl _ _)).mono ?_; rintro e w3 ⟨rfl, hb3⟩; have H3 := Lib.hid (H.out.on hb3); clear hb3))
    refine (put_any H3.out HXX.out HL.out).mono ?_
    rintro e w4 ⟨rfl, h4⟩
    go_wp2_with fail
    go_end0
    exact ⟨rfl, h4⟩
end Go.Proofs.YtpabackkapgkpaaGreatDoor
