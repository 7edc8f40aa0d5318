/- bowdlerlaw22.Shaped: the walk, over nodes whose texts are of bulk at most 1048576. -/
import Derived.Test.YtpabackkapgkpaaGreatDoorLForestOpen
import Derived.Test.YtpabackkapgkpaaGreatDoorHLaw
import Derived.Deep.QuietTactic
import Derived.BigQuiet
namespace Go.Proofs.YtpabackkapgkpaaGreatDoor
open Go.RowKit Go.Lib

/-- what Shaped tells: a yes bounds all -/
def ShapedPost (w : World) (l : List Inl) (e : Ending) (w' : World) : Prop :=
  (∃ n, w' = w.drewN n) ∧ ((e = .returned (.bool true) ∧ l.length ≤ 60 ∧ ∀ x ∈ l, x.Small) ∨ e = .returned (.bool false))
theorem ShapedPost.no {w : World} {l : List Inl} {n : Nat} : ShapedPost w l (.returned (.bool false)) (w.drewN n) := ⟨⟨n, rfl⟩, .inr rfl⟩
theorem InlsIn.later {W w : World} {v : Value} {l : List Inl} {G : Nat → Prop} (h : InlsIn W (fun _ => False) v l) (hb : Below W.heap.size W w) (hG : ∀ b, b < W.heap.size → ¬ G b) : InlsIn w G v l := by
  obtain ⟨a, cap, he, hc, hm, hl⟩ := h
  refine ⟨a, cap, he, hc, hm, ?_⟩
  rcases hl with hl | ⟨g, o, ha, hlt, -, hat⟩
  · exact .inl hl
  · exact .inr ⟨g, o, ha, Nat.lt_of_lt_of_le hlt hb.size, hG g hlt, fun i hi => ⟨(hb.cell (p := ⟨g, _, none⟩) hlt).trans (hat i hi).c0, (hb.cell (p := ⟨g, _, none⟩) hlt).trans (hat i hi).c1, (hb.cell (p := ⟨g, _, none⟩) hlt).trans (hat i hi).c2, (hb.cell (p := ⟨g, _, none⟩) hlt).trans (hat i hi).c3, (hb.cell (p := ⟨g, _, none⟩) hlt).trans (hat i hi).c4⟩⟩

set_option maxHeartbeats 4000000 in
set_option maxRecDepth 100000 in
theorem shaped_any {w : World} {v : Value} {l : List Inl} (hv : InlsIn w (fun _ => False) v l) (hB : ∀ x ∈ l, x.Le 1048576) (hl : l.length ≤ 9223372036854775807) :
    Calls Tryz.prog 13 #[v] w (ShapedPost w l) := by
  obtain ⟨a, cap, rfl, hc, hm, hat⟩ := hv
  have HAT := Lib.hid hat
  have HB := Lib.hid hB
  clear hat hB
  go_enter Tryz.func13, Tryz.ntmps13
  go_wp2_with fail
  go_loopw [6] (fun vi wr => ∃ i : Nat, i ≤ l.length ∧ vi = .int .i64 i ∧ Hid (∃ n, wr = w.drewN n) ∧ Hid (∀ j (h : j < l.length), j < i → 0 ≤ (l[j]).depth ∧ (l[j]).depth ≤ j ∧ (l[j]).text.size + (l[j]).url.size + (l[j]).title.size ≤ 150)) (fun vi _ => l.length - (RowKit.intOf vi).toNat)
  case atStart => exact ⟨0, Nat.zero_le _, rfl, ⟨0, rfl⟩, fun j h h9 => absurd h9 (Nat.not_lt_zero _)⟩
  case round =>
    obtain ⟨i, hi, rfl, HW, HJ⟩ := hrel
    obtain ⟨n, hn⟩ := HW.out
    subst hn
    by_cases hlt : i < l.length
    · rcases HAT.out with h9 | ⟨g, o, rfl, hg, -, hat⟩
      · exfalso; rw [h9] at hlt; simp at hlt
      have hx := hat i hlt
      have hxB := HB.out l[i] (List.getElem_mem hlt)
      have k1 : w.cell? ⟨g, o + i * 5 + 1, none⟩ = some (.int .i64 (l[i]).depth) := hx.c1
      have k2 : w.cell? ⟨g, o + i * 5 + 2, none⟩ = some (.string (l[i]).text) := hx.c2
      have k3 : w.cell? ⟨g, o + i * 5 + 3, none⟩ = some (.string (l[i]).url) := hx.c3
      have k4 : w.cell? ⟨g, o + i * 5 + 4, none⟩ = some (.string (l[i]).title) := hx.c4
      have hJ2 : ∀ x : Inl, l[i] = x → 0 ≤ x.depth ∧ x.depth ≤ i ∧ x.text.size + x.url.size + x.title.size ≤ 150 → Hid (∀ j (h : j < l.length), j < i + 1 → 0 ≤ (l[j]).depth ∧ (l[j]).depth ≤ j ∧ (l[j]).text.size + (l[j]).url.size + (l[j]).title.size ≤ 150) := fun x hx h j hj h9 => by
        by_cases e : j = i
        · subst e; rw [hx]; exact h
        · exact HJ.out j hj (by omega)
      have HJ2 := Lib.hid hJ2
      obtain ⟨hb1, hb2, hb3⟩ := hxB
      have hpv : ∀ h : 0 < i, 0 ≤ (l[i - 1]'(by omega)).depth ∧ (l[i - 1]'(by omega)).depth ≤ (i - 1 : Nat) := fun h => by
        obtain ⟨a, b, -⟩ := HJ.out (i - 1) (by omega) (by omega)
        exact ⟨a, b⟩
      have hc1 : ∀ h : 0 < i, w.cell? ⟨g, o + (i - 1) * 5 + 1, none⟩ = some (.int .i64 (l[i - 1]'(by omega)).depth) := fun h => (hat (i - 1) (by omega)).c1
      obtain ⟨pd, hpd⟩ : ∃ pd : Int, ∀ h : 0 < i, (l[i - 1]'(by omega)).depth = pd := by
        exact ⟨if h : 0 < i then (l[i - 1]'(by omega)).depth else 0, fun h => by rw [dif_pos h]⟩
      have hpv2 : 0 < i → 0 ≤ pd ∧ pd ≤ (i - 1 : Nat) := fun h => by rw [← hpd h]; exact hpv h
      have hc2 : 0 < i → w.cell? ⟨g, o + (i - 1) * 5 + 1, none⟩ = some (.int .i64 pd) := fun h => by rw [← hpd h]; exact hc1 h
      clear hx hat hJ2 hpv hc1 hpd
      have HX := Lib.hid (HJ2.out (l[i]) rfl)
      clear HJ2
      generalize l[i] = x9 at *
      obtain ⟨kd, dp, tx, ur, ti⟩ := x9
      simp only at k1 k2 k3 k4 hb1 hb2 hb3 HX
      have hil : (i : Int) < l.length := by omega
      have hi0 : (0 : Int) ≤ (i : Int) := by omega
      have s1 : IntKind.i64.wrap ((tx.size : Int) + ur.size) = (tx.size : Int) + ur.size := IntWalk.i64_in _ (by omega)
      have s2 : IntKind.i64.wrap ((tx.size : Int) + ur.size + ti.size) = (tx.size : Int) + ur.size + ti.size := IntWalk.i64_in _ (by omega)
      have HNEXT : Hid (∀ m, ∃ n', (w.drewN n).drewN m = w.drewN n') := fun m => ⟨n + m, by simp [World.drewN_drewN]⟩
      have HJN : Hid (0 ≤ dp → dp ≤ i → tx.size + ur.size + ti.size ≤ 150 → ∀ j (h : j < l.length), j < i + 1 → 0 ≤ (l[j]).depth ∧ (l[j]).depth ≤ j ∧ (l[j]).text.size + (l[j]).url.size + (l[j]).title.size ≤ 150) := fun a b c => (HX.out ⟨a, b, c⟩).out
      clear HX
      by_cases h1 : dp < 0
      · have d1 : decide (dp < 0) = true := by simpa using h1
        go_wp2_with fail
        go_quiet (fail)
        go_wp2_with fail
        go_ret
        exact (by rw [World.drewN_drewN]; exact ShapedPost.no)
      · have d1 : decide (dp < 0) = false := by simpa using h1
        by_cases hi0 : i = 0
        · have d2 : ((i : Int) == 0) = true := by rw [hi0]; rfl
          have d22 : decide (0 < i) = false := by simp; omega
          by_cases h2 : 0 < dp
          · have d3 : decide (0 < dp) = true := by simpa using h2
            replace hi0 := Lib.hid hi0
            go_wp2_with fail
            go_quiet (fail)
            go_wp2_with fail
            go_ret
            exact (by rw [World.drewN_drewN]; exact ShapedPost.no)
          · have d3 : decide (0 < dp) = false := by simpa using h2
            have hdi : dp ≤ i := by omega
            replace hi0 := Lib.hid hi0
            by_cases hsz : tx.size + ur.size + ti.size ≤ 150
            · have d9 : decide ((150 : Int) < (tx.size : Int) + ur.size + ti.size) = false := by simp; omega
              have d8 : decide (150 < tx.size + ur.size + ti.size) = false := by simp; omega
              have HJ' := Lib.hid (HJN.out (by omega) (by omega) hsz)
              go_wp2_with fail
              go_quiet (fail)
              go_wp2_with fail
              go_roundw
              case rel => exact ⟨i + 1, by omega, by go_num, ⟨n + nq, rfl⟩, HJ'.out⟩
              case measure => simp only [RowKit.intOf]; omega
            · have d9 : decide ((150 : Int) < (tx.size : Int) + ur.size + ti.size) = true := by simp; omega
              have d8 : decide (150 < tx.size + ur.size + ti.size) = true := by simp; omega
              go_wp2_with fail
              go_quiet (fail)
              go_wp2_with fail
              go_ret
              exact (by rw [World.drewN_drewN]; exact ShapedPost.no)
        · have d2 : ((i : Int) == 0) = false := by simp; omega
          have d22 : decide (0 < i) = true := by simp; omega
          obtain ⟨p0, p1⟩ := hpv2 (by omega)
          have pc := hc2 (by omega)
          have w1 : IntKind.i64.wrap ((i : Int) - 1) = (i : Int) - 1 := IntWalk.i64_in _ (by omega)
          have w2 : (0 : Int) ≤ (i : Int) - 1 := by omega
          have w3 : ((i : Int) - 1).toNat = i - 1 := by omega
          have w4 : (i : Int) - 1 < l.length := by omega
          have w5 : IntKind.i64.wrap (pd + 1) = pd + 1 := IntWalk.i64_in _ (by omega)
          by_cases h2 : pd + 1 < dp
          · have d3 : decide (pd + 1 < dp) = true := by simpa using h2
            go_wp2_with fail
            go_quiet (fail)
            go_wp2_with fail
            go_ret
            exact (by rw [World.drewN_drewN]; exact ShapedPost.no)
          · have d3 : decide (pd + 1 < dp) = false := by simpa using h2
            have hdi : dp ≤ i := by omega
            by_cases hsz : tx.size + ur.size + ti.size ≤ 150
            · have d9 : decide ((150 : Int) < (tx.size : Int) + ur.size + ti.size) = false := by simp; omega
              have d8 : decide (150 < tx.size + ur.size + ti.size) = false := by simp; omega
              have HJ' := Lib.hid (HJN.out (by omega) (by omega) hsz)
              go_wp2_with fail
              go_quiet (fail)
              go_wp2_with fail
              go_roundw
              case rel => exact ⟨i + 1, by omega, by go_num, ⟨n + nq, rfl⟩, HJ'.out⟩
              case measure => simp only [RowKit.intOf]; omega
            · have d9 : decide ((150 : Int) < (tx.size : Int) + ur.size + ti.size) = true := by simp; omega
              have d8 : decide (150 < tx.size + ur.size + ti.size) = true := by simp; omega
              go_wp2_with fail
              go_quiet (fail)
              go_wp2_with fail
              go_ret
              exact (by rw [World.drewN_drewN]; exact ShapedPost.no)
    · obtain rfl : i = l.length := by omega
      have hnn : ¬ ((l.length : Int) < l.length) := by omega
      by_cases h60 : l.length ≤ 60
      · go_wp2_with fail
        go_ret
        refine ⟨⟨n, rfl⟩, .inl ⟨by first | rfl | exact ret_bool (by simp; omega), h60, fun x hx => ?_⟩⟩
        obtain ⟨j, hj, rfl⟩ := List.getElem_of_mem hx
        obtain ⟨-, -, h9⟩ := HJ.out j hj hj
        exact ⟨by omega, by omega, by omega⟩
      · go_wp2_with fail
        go_ret
        exact ⟨⟨n, rfl⟩, .inr (by first | rfl | exact ret_bool (by simp; omega))⟩
end Go.Proofs.YtpabackkapgkpaaGreatDoor
