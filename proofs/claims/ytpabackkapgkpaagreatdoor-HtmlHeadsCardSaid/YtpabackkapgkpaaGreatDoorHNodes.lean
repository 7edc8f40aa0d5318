/- (*html.paper).node, nodes: the walks. -/
import Derived.Test.YtpabackkapgkpaaGreatDoorHCross
namespace Go.Proofs.YtpabackkapgkpaaGreatDoor
open Go.RowKit Go.Lib

/-- behind node: what the node begins and ends with -/
def NodePost (w0 w1 : World) (Fn : Nat → Prop) (v9 : Held) (b wb nb : Nat) (p : List UInt8 × List UInt8 × HSt) (e : Ending) (w' : World) : Prop :=
  ∃ A B : ByteArray, e = .returned (.tuple #[.string A, .string B]) ∧ A.data.toList = p.1 ∧ B.data.toList = p.2.1 ∧ PSt w0 w1 Fn v9 b (.pointer (some ⟨wb, 0, none⟩)) nb p.2.2 w'

theorem ex_esc (l : List UInt8) : ∃ Y : ByteArray, Y.data.toList = escL l ∧ Y.size = (escL l).length := ⟨_, ba_mk _, by rw [ba_size, ba_mk]⟩
theorem ex_href (l : List UInt8) : ∃ Y : ByteArray, Y.data.toList = hrefL l ∧ Y.size = (hrefL l).length := ⟨_, ba_mk _, by rw [ba_size, ba_mk]⟩
theorem ex_attr (n l : List UInt8) : ∃ Y : ByteArray, Y.data.toList = attrL n l ∧ Y.size = (attrL n l).length := ⟨_, ba_mk _, by rw [ba_size, ba_mk]⟩

set_option maxHeartbeats 2000000 in
set_option maxRecDepth 100000 in
theorem node_any {w0 w1 : World} {Fn : Nat → Prop} {v9 : Held} {b wb nb N : Nat} {c : Cfg} {s : HSt} {w : World} {x : Inl} (h : PSt w0 w1 Fn v9 b (.pointer (some ⟨wb, 0, none⟩)) nb s w) (hw : WriterAt w1 Fn c wb nb) (hT : Tabs w0) (hf : Fits (N + 1) s) (hc : c.Small) (hx : x.Small) :
    Calls Tryz.prog 47 #[.pointer (some ⟨b, 0, none⟩), x.val] w (NodePost w0 w1 Fn v9 b wb nb (nodeS c x s)) := by
  have H := Lib.hid h
  obtain ⟨s1, s2, s3⟩ := hx
  obtain ⟨kd, dp, tx, ur, ti⟩ := x
  simp only at s1 s2 s3
  have a1 := escL_length tx.data.toList
  have a2 := hrefL_length ur.data.toList
  have a3 := attrL_length [116, 105, 116, 108, 101] ti.data.toList
  have a4 := attrL_length [99, 108, 97, 115, 115] tx.data.toList
  have t1 := s1
  have t2 := s2
  have t3 := s3
  rw [ba_size] at t1 t2 t3
  simp only [List.length_cons, List.length_nil] at a3 a4
  have hA := (Below.refl w.heap.size w).alloc (Nat.le_refl _) (.cells #[.int .i64 kd, .int .i64 dp, .string tx, .string ur, .string ti] 45)
  have HA := Lib.hid (h.on hA)
  have q3 : (w.alloc (.cells #[.int .i64 kd, .int .i64 dp, .string tx, .string ur, .string ti] 45)).cell? ⟨w.heap.size, 3, none⟩ = some (.string ur) := by rw [Lib.cell_of_heap (heap_alloc_new w _)]; rfl
  have q2 : (w.alloc (.cells #[.int .i64 kd, .int .i64 dp, .string tx, .string ur, .string ti] 45)).cell? ⟨w.heap.size, 2, none⟩ = some (.string tx) := by rw [Lib.cell_of_heap (heap_alloc_new w _)]; rfl
  have q4 : (w.alloc (.cells #[.int .i64 kd, .int .i64 dp, .string tx, .string ur, .string ti] 45)).cell? ⟨w.heap.size, 4, none⟩ = some (.string ti) := by rw [Lib.cell_of_heap (heap_alloc_new w _)]; rfl
  unfold Inl.val
  simp only
  by_cases k1 : kd = 1
  · subst k1
    obtain ⟨Y, hY, hYs⟩ := ex_esc tx.data.toList
    have HY := Lib.hid hY
    clear h hf hY
    go_enter Tryz.func47, Tryz.ntmps47
    go_wp2_with (go_at_call 18; refine (Esc_lit (w0 := w) (X := tx) (Y := Y) HY.out.symm (by omega) (by assumption)).mono ?_; rintro e w2 ⟨rfl, hb2⟩)
    go_ret2
    exact ⟨_, _, rfl, by simpa [nodeS, nodeL] using HY.out, by simp [nodeS, nodeL], by simpa [nodeS, nodeL] using H.out.on (by assumption)⟩
  by_cases k2 : kd = 2
  · subst k2
    obtain ⟨Y, hY, hYs⟩ := ex_esc tx.data.toList
    have HY := Lib.hid hY
    clear h hf hY
    go_enter Tryz.func47, Tryz.ntmps47
    go_wp2_with (go_at_call 18; refine (Esc_lit (w0 := w) (X := tx) (Y := Y) HY.out.symm (by omega) (by assumption)).mono ?_; rintro e w2 ⟨rfl, hb2⟩)
    go_ret2
    exact ⟨_, _, rfl, by simp [nodeS, nodeL, HY.out], by simp [nodeS, nodeL], by simpa [nodeS, nodeL] using H.out.on (by assumption)⟩
  by_cases k3 : kd = 3
  · subst k3
    clear h hf
    go_enter Tryz.func47, Tryz.ntmps47
    go_wp2_with fail
    go_ret2
    exact ⟨_, _, rfl, by simp [nodeS, nodeL], by simp [nodeS, nodeL], by simpa [nodeS, nodeL] using HA.out⟩
  by_cases k4 : kd = 4
  · subst k4
    clear h hf
    go_enter Tryz.func47, Tryz.ntmps47
    go_wp2_with fail
    go_ret2
    exact ⟨_, _, rfl, by simp [nodeS, nodeL], by simp [nodeS, nodeL], by simpa [nodeS, nodeL] using HA.out⟩
  by_cases k5 : kd = 5
  · subst k5
    obtain ⟨Y, hY, hYs⟩ := ex_href ur.data.toList
    obtain ⟨Z, hZ, hZs⟩ := ex_attr [116, 105, 116, 108, 101] ti.data.toList
    have HY := Lib.hid hY
    have HZ := Lib.hid hZ
    clear h hf hY hZ
    go_enter Tryz.func47, Tryz.ntmps47
    go_upto_region 11 with fail
    obtain ⟨wA, hwA⟩ : ∃ wA, wA = (w.alloc (.cells #[.int .i64 5, .int .i64 dp, .string tx, .string ur, .string ti] 45)) := ⟨_, rfl⟩
    rw [← hwA] at hA HA q2 q3 q4 ⊢
    replace hwA := Lib.hid hwA
    replace q2 := cells_on q2
    replace q3 := cells_on q3
    replace q4 := cells_on q4
    have cc1 : ∀ d os, Calls Tryz.prog 24 #[.string ur] (Sort.grow (redrawn wA d) os) fun e w'' => e = .returned (.string Y) ∧ ∃ p : Regrown, w'' = Sort.grow (redrawn wA p.d) p.os := fun d os => Calls.regrown_of (Href_lit (w0 := Sort.grow (redrawn wA d) os) HY.out.symm (by omega) (Below.refl _ _))
    have cc2 : ∀ d os, Calls Tryz.prog 22 #[.string ⟨#[116, 105, 116, 108, 101]⟩, .string ti] (Sort.grow (redrawn wA d) os) fun e w'' => e = .returned (.string Z) ∧ ∃ p : Regrown, w'' = Sort.grow (redrawn wA p.d) p.os := fun d os => Calls.regrown_of (Attr_lit (w0 := Sort.grow (redrawn wA d) os) HZ.out.symm (by decide) (by omega) (Below.refl _ _))
    refine wp_region_quiet_below (by kernel_rfl) (by kernel_rfl) ?_
    repeat (first | quiet_step (first | exact cc1 _ _ | exact cc2 _ _) | (refine wpQuiet_step (fun K hK => ?_); go_simp; apply Exists.intro; refine ⟨fun _ => ?_, hK _ ?_⟩; (rw [if_neg (by omega)]; exact ⟨rfl, rfl⟩); clear hK K))
    refine wpQuiet_nil ?_
    intro _ hw'
    obtain ⟨⟨dq, osq⟩, hw''⟩ := hw'
    subst hw''
    have HBq := Lib.hid (below_regrown wA dq osq)
    go_wp2_with fail
    go_ret2
    exact ⟨_, _, rfl, by simp [nodeS, nodeL, HY.out, HZ.out], by simp [nodeS, nodeL], by simpa [nodeS, nodeL] using HA.out.on HBq.out⟩
  by_cases k6 : kd = 6
  · subst k6
    obtain ⟨Y, hY, hYs⟩ := ex_href ur.data.toList
    obtain ⟨Z, hZ, hZs⟩ := ex_attr [116, 105, 116, 108, 101] ti.data.toList
    obtain ⟨X, hX, hXs⟩ := ex_esc tx.data.toList
    have HY := Lib.hid hY
    have HZ := Lib.hid hZ
    have HX := Lib.hid hX
    clear h hf hY hZ hX
    go_enter Tryz.func47, Tryz.ntmps47
    go_upto_region 13 with fail
    obtain ⟨wA, hwA⟩ : ∃ wA, wA = (w.alloc (.cells #[.int .i64 6, .int .i64 dp, .string tx, .string ur, .string ti] 45)) := ⟨_, rfl⟩
    rw [← hwA] at hA HA q2 q3 q4 ⊢
    replace hwA := Lib.hid hwA
    replace q2 := cells_on q2
    replace q3 := cells_on q3
    replace q4 := cells_on q4
    have cc1 : ∀ d os, Calls Tryz.prog 24 #[.string ur] (Sort.grow (redrawn wA d) os) fun e w'' => e = .returned (.string Y) ∧ ∃ p : Regrown, w'' = Sort.grow (redrawn wA p.d) p.os := fun d os => Calls.regrown_of (Href_lit (w0 := Sort.grow (redrawn wA d) os) HY.out.symm (by omega) (Below.refl _ _))
    have cc2 : ∀ d os, Calls Tryz.prog 22 #[.string ⟨#[116, 105, 116, 108, 101]⟩, .string ti] (Sort.grow (redrawn wA d) os) fun e w'' => e = .returned (.string Z) ∧ ∃ p : Regrown, w'' = Sort.grow (redrawn wA p.d) p.os := fun d os => Calls.regrown_of (Attr_lit (w0 := Sort.grow (redrawn wA d) os) HZ.out.symm (by decide) (by omega) (Below.refl _ _))
    have cc3 : ∀ d os, Calls Tryz.prog 18 #[.string tx] (Sort.grow (redrawn wA d) os) fun e w'' => e = .returned (.string X) ∧ ∃ p : Regrown, w'' = Sort.grow (redrawn wA p.d) p.os := fun d os => Calls.regrown_of (Esc_lit (w0 := Sort.grow (redrawn wA d) os) HX.out.symm (by omega) (Below.refl _ _))
    refine wp_region_quiet_below (by kernel_rfl) (by kernel_rfl) ?_
    repeat (first | quiet_step (first | exact cc1 _ _ | exact cc2 _ _ | exact cc3 _ _) | (refine wpQuiet_step (fun K hK => ?_); go_simp; apply Exists.intro; refine ⟨fun _ => ?_, hK _ ?_⟩; (rw [if_neg (by omega)]; exact ⟨rfl, rfl⟩); clear hK K))
    refine wpQuiet_nil ?_
    intro _ hw'
    obtain ⟨⟨dq, osq⟩, hw''⟩ := hw'
    subst hw''
    have HBq := Lib.hid (below_regrown wA dq osq)
    go_wp2_with fail
    go_ret2
    exact ⟨_, _, rfl, by simp [nodeS, nodeL, HY.out, HZ.out, HX.out], by simp [nodeS, nodeL], by simpa [nodeS, nodeL] using HA.out.on HBq.out⟩
  by_cases k7 : kd = 7
  · subst k7
    clear h hf
    go_enter Tryz.func47, Tryz.ntmps47
    go_wp2_with fail
    go_ret2
    exact ⟨_, _, rfl, by simp [nodeS, nodeL], by simp [nodeS, nodeL], by simpa [nodeS, nodeL] using HA.out⟩
  by_cases k8 : kd = 8
  · subst k8
    clear h hf
    go_enter Tryz.func47, Tryz.ntmps47
    go_wp2_with fail
    go_ret2
    exact ⟨_, _, rfl, by simp [nodeS, nodeL], by simp [nodeS, nodeL], by simpa [nodeS, nodeL] using HA.out⟩
  by_cases k9 : kd = 9
  · subst k9
    obtain ⟨Y, hY, hYs⟩ := ex_esc tx.data.toList
    obtain ⟨vS, hcw, -⟩ := HA.out.writer hw
    obtain ⟨dg, hp, -⟩ := HA.out.paper
    have c0 := hp.cell0
    obtain ⟨-, -, q3, -, -⟩ := writer_cells hcw
    have HY := Lib.hid hY
    clear h hf hY hp hcw
    cases hr : c.raw with
    | true =>
      rw [hr] at q3
      go_enter Tryz.func47, Tryz.ntmps47
      go_wp2_with fail
      go_ret2
      exact ⟨_, _, rfl, by simp [nodeS, nodeL, hr], by simp [nodeS, nodeL], by simpa [nodeS, nodeL] using HA.out⟩
    | false =>
      rw [hr] at q3
      go_enter Tryz.func47, Tryz.ntmps47
      go_wp2_with (go_at_call 18; refine (Esc_lit (w0 := w) (X := tx) (Y := Y) HY.out.symm (by omega) (by assumption)).mono ?_; rintro e w2 ⟨rfl, hb2⟩)
      go_ret2
      exact ⟨_, _, rfl, by simp [nodeS, nodeL, hr, HY.out], by simp [nodeS, nodeL], by simpa [nodeS, nodeL] using H.out.on (by assumption)⟩
  by_cases k10 : kd = 10
  · subst k10
    obtain ⟨Y, hY⟩ : ∃ Y : ByteArray, Y.data.toList = if c.notes then noteL (refS tx s).1 (refS tx s).2.1 else escL ([91, 94] ++ tx.data.toList ++ [93]) := ⟨_, ba_mk _⟩
    have cN := note_any HA.out hw hT hf s1 hY
    have HY := Lib.hid hY
    clear h hf hY
    go_enter Tryz.func47, Tryz.ntmps47
    go_wp2_with fail
    refine cN.mono ?_
    rintro e w2 ⟨rfl, h2⟩
    have H2 := Lib.hid h2
    clear h2 cN
    go_wp2_with fail
    go_ret2
    refine ⟨_, _, rfl, ?_, ?_, ?_⟩
    · rw [HY.out]; cases hno : c.notes <;> simp [nodeS, hno]
    · cases hno : c.notes <;> simp [nodeS, hno]
    · have := H2.out
      cases hno : c.notes <;> simpa [nodeS, hno] using this
  by_cases k11 : kd = 11
  · subst k11
    obtain ⟨Y, hY⟩ : ∃ Y : ByteArray, Y.data.toList = crossL c tx := ⟨_, ba_mk _⟩
    have cN := cross_any HA.out hw hf hc s1 hY
    have HY := Lib.hid hY
    clear h hf hY
    go_enter Tryz.func47, Tryz.ntmps47
    go_wp2_with fail
    refine cN.mono ?_
    rintro e w2 ⟨rfl, h2⟩
    have H2 := Lib.hid h2
    clear h2 cN
    go_wp2_with fail
    go_ret2
    exact ⟨_, _, rfl, by rw [HY.out]; simp [nodeS], by simp [nodeS], by simpa [nodeS] using H2.out⟩
  by_cases k12 : kd = 12
  · subst k12
    obtain ⟨Z, hZ, hZs⟩ := ex_attr [99, 108, 97, 115, 115] tx.data.toList
    have HZ := Lib.hid hZ
    clear h hf hZ
    go_enter Tryz.func47, Tryz.ntmps47
    go_wp2_with (go_at_call 22; refine (Attr_lit (w0 := w) (N := ⟨#[99, 108, 97, 115, 115]⟩) (X := tx) (Y := Z) HZ.out.symm (by decide) (by omega) (by assumption)).mono ?_; rintro e w3 ⟨rfl, hb3⟩)
    go_ret2
    exact ⟨_, _, rfl, by simp [nodeS, nodeL, HZ.out], by simp [nodeS, nodeL], by simpa [nodeS, nodeL] using H.out.on (by assumption)⟩
  · clear h hf
    have e1 : nodeS c ⟨kd, dp, tx, ur, ti⟩ s = ([], [], s) := by simp [nodeS, nodeL, k1, k2, k3, k4, k5, k6, k7, k8, k9, k10, k11, k12]
    rw [e1]
    go_enter Tryz.func47, Tryz.ntmps47
    go_wp2_with fail
    go_ret2
    exact ⟨_, _, rfl, rfl, rfl, HA.out⟩

/-- a part of a row of nodes -/
theorem InlsIn.part {w : World} {G : Nat → Prop} {b o len cap : Nat} {l : List Inl} (h : InlsIn w G (.slice (some ⟨b, o, none⟩) len cap) l) (h0 : l ≠ []) {i n cap' : Nat} {a' : Option Addr} (hi : i + n ≤ l.length) (hc1 : n ≤ cap') (hc2 : cap' ≤ 9223372036854775807) (ha : n ≠ 0 → a' = some ⟨b, o + i * 5, none⟩) :
    InlsIn w G (.slice a' n cap') ((l.drop i).take n) := by
  obtain ⟨a, cp, he, hc, hm, hl⟩ := h
  cases he
  have hln : ((l.drop i).take n).length = n := by rw [List.length_take, List.length_drop]; omega
  refine ⟨a', cap', by rw [hln], by rw [hln]; exact hc1, hc2, ?_⟩
  by_cases hn : n = 0
  · subst hn; exact .inl (by simp)
  · rcases hl with hl | ⟨b', o', hab, hlt, hG, hat⟩
    · exact absurd hl h0
    · cases hab
      refine .inr ⟨b, o + i * 5, ha hn, hlt, hG, fun j hj => ?_⟩
      have h9 := hat (i + j) (by rw [hln] at hj; omega)
      rw [show o + (i + j) * 5 = o + i * 5 + j * 5 by omega] at h9
      have e : ((l.drop i).take n)[j] = l[i + j]'(by rw [hln] at hj; omega) := by simp
      rw [e]
      exact h9
/-- nodes that lay there when the paper was laid lie there still -/
theorem PSt.inls {w0 w1 : World} {Fn : Nat → Prop} {v9 : Held} {b : Nat} {wr : Value} {nb : Nat} {s : HSt} {w : World} (h : PSt w0 w1 Fn v9 b wr nb s w) {v : Value} {l : List Inl} (hl : InlsIn w1 Fn v l) : InlsIn w Fn v l := by
  obtain ⟨a, cap, he, hc, hm, hl⟩ := hl
  refine ⟨a, cap, he, hc, hm, ?_⟩
  rcases hl with hl | ⟨g, o, ha, hlt, hG, hat⟩
  · exact .inl hl
  · have hk : ∀ j, w.cell? ⟨g, j, none⟩ = w1.cell? ⟨g, j, none⟩ := fun j => by simp [World.cell?, h.frame.block g hlt hG]
    exact .inr ⟨g, o, ha, Nat.lt_of_lt_of_le hlt h.frame.size, hG, fun i hi => ⟨(hk _).trans (hat i hi).c0, (hk _).trans (hat i hi).c1, (hk _).trans (hat i hi).c2, (hk _).trans (hat i hi).c3, (hk _).trans (hat i hi).c4⟩⟩
end Go.Proofs.YtpabackkapgkpaaGreatDoor
