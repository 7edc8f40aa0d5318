/- HtmlWords: the walk. -/
import Derived.Test.YtpabackkapgkpaaGreatDoorHLaw
import Derived.Test.YtpabackkapgkpaaGreatDoorHOpen
namespace Go.Proofs.YtpabackkapgkpaaGreatDoor
open Go.RowKit Go.Lib

set_option maxHeartbeats 2000000 in
set_option maxRecDepth 100000 in
theorem htmlWords_walk (a b : ByteArray) (v : Value) (W : World) (hT : Tabs W) (_ : a.size ≤ 9223372036854775807) (_ : b.size ≤ 9223372036854775807) (hv : ∃ (n co no ra : Bool) (de : Int), v = optsVal n co no ra de) :
    Calls Tryz.prog 4 #[.string a, .string b, v] W fun e w' => e = .returned (.bool true) ∧ Below W.heap.size W w' := by
  obtain ⟨n, co, no, ra, de, rfl⟩ := hv
  unfold optsVal
  have h0 := (Below.refl W.heap.size W).alloc (Nat.le_refl _) (.cells #[.bool n, .bool co, .bool no, .bool ra, .int .i64 de] 23)
  obtain ⟨W0, hW0⟩ : ∃ W0, W0 = W.alloc (.cells #[.bool n, .bool co, .bool no, .bool ra, .int .i64 de] 23) := ⟨_, rfl⟩
  have hq := heap_alloc_new W (.cells #[.bool n, .bool co, .bool no, .bool ra, .int .i64 de] 23)
  have hz0 : W.heap.size < W0.heap.size := by rw [hW0]; simp
  have hk : Hid (∀ w', Below W0.heap.size W0 w' → Below W.heap.size W w') := fun w' hb => by rw [← hW0] at h0; exact h0.trans (hb.mono h0.size)
  rw [← hW0] at h0 hq
  have T0 := hT.on h0
  have HQ := Lib.hid hq
  by_cases ha : a.size ≤ 100
  · by_cases hb : b.size ≤ 100
    · obtain ⟨E, hE⟩ := ex_escE a
      obtain ⟨G, hG⟩ := ex_escE b
      have hEs := esc_size hE
      have hGs := esc_size hG
      have s1 : nodesS ⟨n, co, no, ra, de, []⟩ [⟨1, 0, a, ⟨#[]⟩, ⟨#[]⟩⟩, ⟨1, 0, b, ⟨#[]⟩, ⟨#[]⟩⟩] ⟨[], [], [], [], []⟩ = ⟨(E ++ G).data.toList, [], [], [], []⟩ := by
        rw [ba_append, hE, hG]; simp [nodesS_cons, nodesS_nil, inside, nodeS, nodeL, HSt.put]
      have s2 : nodesS ⟨n, co, no, ra, de, []⟩ [⟨4, 0, ⟨#[]⟩, ⟨#[]⟩, ⟨#[]⟩⟩, ⟨1, 1, a, ⟨#[]⟩, ⟨#[]⟩⟩, ⟨2, 0, b, ⟨#[]⟩, ⟨#[]⟩⟩] ⟨[], [], [], [], []⟩ = ⟨((((⟨#[60, 115, 116, 114, 111, 110, 103, 62]⟩ : ByteArray) ++ E ++ ⟨#[60, 47, 115, 116, 114, 111, 110, 103, 62, 60, 99, 111, 100, 101, 62]⟩ : ByteArray) ++ G : ByteArray) ++ ⟨#[60, 47, 99, 111, 100, 101, 62]⟩).data.toList, [], [], [], []⟩ := by
        simp only [ba_append, hE, hG]; simp [nodesS_cons, nodesS_nil, inside, nodeS, nodeL, HSt.put]
      have HE := Lib.hid hE
      have HG := Lib.hid hG
      have S1 := Lib.hid s1
      have S2 := Lib.hid s2
      clear hE hG s1 s2
      go_enter Tryz.func4, Tryz.ntmps4
      go_wp2_with fail
      rw [← hW0]
      replace hW0 := Lib.hid hW0
      refine (alive_any (Below.refl _ W0) T0).mono ?_
      rintro e w1 ⟨rfl, hb1⟩
      have hq1 := (hb1.block W.heap.size hz0).trans HQ.out
      have q0 : w1.cell? ⟨W.heap.size, 0, none⟩ = some (.bool n) := by rw [Lib.cell_of_heap hq1]; rfl
      have q1 : w1.cell? ⟨W.heap.size, 1, none⟩ = some (.bool co) := by rw [Lib.cell_of_heap hq1]; rfl
      have q2 : w1.cell? ⟨W.heap.size, 2, none⟩ = some (.bool no) := by rw [Lib.cell_of_heap hq1]; rfl
      have q3 : w1.cell? ⟨W.heap.size, 3, none⟩ = some (.bool ra) := by rw [Lib.cell_of_heap hq1]; rfl
      have q4 : w1.cell? ⟨W.heap.size, 4, none⟩ = some (.int .i64 de) := by rw [Lib.cell_of_heap hq1]; rfl
      have cI := first_inline hb1 T0 n co no ra de (secs_nil w1) small_nil [⟨1, 0, a, ⟨#[]⟩, ⟨#[]⟩⟩, ⟨1, 0, b, ⟨#[]⟩, ⟨#[]⟩⟩] (cs := #[.int .i64 1, .int .i64 0, .string a, .string ⟨#[]⟩, .string ⟨#[]⟩, .int .i64 1, .int .i64 0, .string b, .string ⟨#[]⟩, .string ⟨#[]⟩]) rfl (by simp) (by intro x hx; simp at hx; rcases hx with rfl | rfl <;> exact small_node (by omega) (by decide) (by decide)) S1.out rfl
      clear hq1 hb1
      go_wp2_with fail
      refine cI.mono ?_
      rintro e w2 ⟨a2, c2, F2, rfl, P2, hs2⟩
      have cJ := next_inline P2 T0 small_nil [⟨4, 0, ⟨#[]⟩, ⟨#[]⟩, ⟨#[]⟩⟩, ⟨1, 1, a, ⟨#[]⟩, ⟨#[]⟩⟩, ⟨2, 0, b, ⟨#[]⟩, ⟨#[]⟩⟩] (cs := #[.int .i64 4, .int .i64 0, .string ⟨#[]⟩, .string ⟨#[]⟩, .string ⟨#[]⟩, .int .i64 1, .int .i64 1, .string a, .string ⟨#[]⟩, .string ⟨#[]⟩, .int .i64 2, .int .i64 0, .string b, .string ⟨#[]⟩, .string ⟨#[]⟩]) rfl (by simp) (by intro x hx; simp at hx; rcases hx with rfl | rfl | rfl <;> exact small_node (by first | decide | omega) (by decide) (by decide)) (fits_nil (by simp)) S2.out rfl
      clear P2 cI q0 q1 q2 q3 q4
      go_wp2_with fail
      refine cJ.mono ?_
      rintro e w3 ⟨a3, c3, F3, rfl, P3⟩
      have hb3 := P3.below
      clear P3 cJ
      go_wp2_with (first
        | (go_at_call_of 18 a; refine (Esc_lit (w0 := W0) (X := a) (Y := E) HE.out.symm (by omega) (by assumption)).mono ?_; rintro e w4 ⟨rfl, hb4⟩)
        | (go_at_call_of 18 b; refine (Esc_lit (w0 := W0) (X := b) (Y := G) HG.out.symm (by omega) (by assumption)).mono ?_; rintro e w4 ⟨rfl, hb4⟩))
      go_ret
      exact ⟨by first | rfl | exact ret_bool (by simp), hk.out _ (by assumption)⟩
    · go_enter Tryz.func4, Tryz.ntmps4
      go_wp2_with (go_at_call 14; rw [← hW0]; refine (alive_any (Below.refl _ W0) T0).mono ?_; rintro e w1 ⟨rfl, hb1⟩)
      go_ret
      exact ⟨rfl, hk.out _ hb1⟩
  · go_enter Tryz.func4, Tryz.ntmps4
    go_wp2_with (go_at_call 14; rw [← hW0]; refine (alive_any (Below.refl _ W0) T0).mono ?_; rintro e w1 ⟨rfl, hb1⟩)
    go_ret
    exact ⟨rfl, hk.out _ hb1⟩
end Go.Proofs.YtpabackkapgkpaaGreatDoor
