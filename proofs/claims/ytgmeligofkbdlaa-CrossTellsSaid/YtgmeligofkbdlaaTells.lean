/- The walk of CrossTells. -/
import Derived.Test.YtgmeligofkbdlaaLaws
import Derived.Deep.RegionHeld3
import Derived.Deep.DeepCutAuto
import Derived.Lib.QuietBelow
namespace Go.Proofs.Ytgmeligofkbdlaa
open Go.RowKit

theorem bcell {W w1 : World} (hb : Below W.heap.size W w1) : (∀ b o, b < W.heap.size → w1.cell? ⟨b, o, none⟩ = W.cell? ⟨b, o, none⟩) ∧ (∀ b o, b < W.heap.size → w1.frozen? ⟨b, o, none⟩ = W.frozen? ⟨b, o, none⟩) :=
  ⟨fun b o h => hb.cell (p := ⟨b, o, none⟩) h, fun b o h => hb.frozen (p := ⟨b, o, none⟩) h⟩

set_option maxHeartbeats 1000000 in
theorem tells_long (v : Value) (anchor : ByteArray) (numbers : Bool) (a : Option Addr) (len cap : Nat) (w : World) (hv : v = .slice a len cap) (hlen : 60 < len) (hm : len ≤ 9223372036854775807) :
    Calls Try.prog 3 #[v, .string anchor, .bool numbers] w fun e w' => e = .returned (.bool true) ∧ Below w.heap.size w w' := by
  subst hv
  go_enter Try.func3, Try.ntmps3
  go_wp2_with fail
  refine (alive_any _).mono ?_
  rintro e w1 ⟨rfl, hb⟩
  go_wp2_with fail
  go_ret
  exact ⟨rfl, hb⟩

set_option maxHeartbeats 1000000 in
theorem tells_name (v : Value) (anchor : ByteArray) (numbers : Bool) (a : Option Addr) (len cap : Nat) (w : World) (hv : v = .slice a len cap) (hlen : len ≤ 60) (ha : 60 < anchor.size) (hm : anchor.size ≤ 9223372036854775807) :
    Calls Try.prog 3 #[v, .string anchor, .bool numbers] w fun e w' => e = .returned (.bool true) ∧ Below w.heap.size w w' := by
  subst hv
  go_enter Try.func3, Try.ntmps3
  go_wp2_with fail
  refine (alive_any _).mono ?_
  rintro e w1 ⟨rfl, hb⟩
  go_wp2_with fail
  go_ret
  exact ⟨rfl, hb⟩

set_option maxHeartbeats 8000000 in
theorem tells_main (v : Value) (l : List Sec) (anchor : ByteArray) (numbers : Bool) (w : World) (h : SecsIn w w.heap.size v l) (hlen : l.length ≤ 60) (ha : anchor.size ≤ 60) :
    Calls Try.prog 3 #[v, .string anchor, .bool numbers] w fun e w' => e = .returned (.bool true) ∧ Below w.heap.size w w' := by
  have h0 := h
  obtain ⟨a, cap, rfl, hc, hm, hnil, h⟩ := h
  go_enter Try.func3, Try.ntmps3
  go_wp2_with fail
  refine (alive_any _).mono ?_
  rintro e w1 ⟨rfl, hb1⟩
  have h1 := h0.below hb1
  go_wp2_with fail
  refine (find_any anchor _ l _ (h1.mono hb1.size)).mono ?_
  rintro e w2 ⟨rfl, hb2⟩
  have h2 := h1.below (hb2.mono hb1.size)
  have hB2 := hb1.trans (hb2.mono hb1.size)
  clear hb2
  generalize hfs : findSec anchor l = fs
  obtain ⟨⟨f0, f1, f2, f3⟩, fk⟩ := fs
  have HF := Lib.hid hfs
  clear hfs
  simp only [Sec.val]
  go_wp2_with fail
  refine (ref_find anchor _ l _ ((h2.below ((Below.refl _ _).alloc hB2.size _)).mono (by have := hB2.size; simp; omega))).mono ?_
  rintro e w3 ⟨rfl, hb3⟩
  have hk3 := (hb3.block w2.heap.size (by simp)).trans (heap_alloc_new _ _)
  have hB3 : Below w.heap.size w w3 := (hB2.alloc hB2.size _).trans (hb3.mono (by have := hB2.size; simp; omega))
  have hz3 : w2.heap.size < w3.heap.size := by have := hb3.size; simp at this; omega
  have h3 := (h2.below ((Below.refl _ _).alloc hB2.size _)).below (hb3.mono (by have := hB2.size; simp; omega))
  obtain ⟨c0, c1, c2, c3, -, -, -, -, -⟩ := block4 hk3
  rw [HF.out]
  simp only [Sec.val]
  clear hb3 hk3
  go_wp2_with fail
  go_loopw [50] (fun i wr => ∃ k : Nat, k ≤ l.length ∧ i = .int .i64 k ∧ Below w.heap.size w wr) (fun i _ => l.length - (intOf i).toNat)
  case atStart => exact ⟨0, Nat.zero_le _, rfl, hB3.alloc hB3.size _⟩
  case round =>
    obtain ⟨k, hk, rfl, hB⟩ := hrel
    clear c0 c1 c2 c3 hB3 hz3 h3 hB2 h2 h1 hb1
    by_cases hlt : k < l.length
    · obtain ⟨b, o, rfl, hbl, hs⟩ := h.resolve_left (by intro h; simp [h] at hlt)
      have hs' := (hs k hlt).below hB hbl
      have s0 := hs'.c0
      have s1 := hs'.c1
      have s2 := hs'.c2
      have s3 := hs'.c3
      clear hs'
      go_wp2_with fail
      refine (call_any l[k] numbers _).mono ?_
      rintro e w4 ⟨rfl, hb4⟩
      have hB4 := hB.trans (hb4.mono hB.size)
      have hs' := (hs k hlt).below hB4 hbl
      have s0 := hs'.c0
      have s1 := hs'.c1
      have s2 := hs'.c2
      have s3 := hs'.c3
      clear hs' hb4
      have hsum : IntKind.i64.wrap ((k : Int) + 1) = k + 1 := IntWalk.i64_in _ (by omega)
      have hge : (0 : Int) ≤ (k : Int) + 1 := by omega
      have hkc : k + 1 ≤ cap := by omega
      have hkc' : (k : Int) + 1 ≤ cap := by omega
      have hto : ((k : Int) + 1).toNat = k + 1 := by omega
      have hpre : SecsIn w w.heap.size (.slice (some ⟨b, o, none⟩) (k + 1) cap) (l.take (k + 1)) :=
        ⟨_, cap, by simp; omega, by simp; omega, by simp; omega, fun h => by simp at h, Or.inr ⟨b, o, rfl, hbl, fun i hi => by
          have hi' : i < l.length := by simp at hi; omega
          have := hs i hi'
          simpa using this⟩⟩
      have HP := Lib.hid hpre
      have HS := Lib.hid hs
      have HF' := Lib.hid (find_prefix l k hlt)
      clear hpre hs
      generalize hfs : findSec l[k].anchor (l.take (k + 1)) = fs at HF'
      obtain ⟨⟨g0, g1, g2, g3⟩, gk⟩ := fs
      have HG := Lib.hid hfs
      clear hfs
      have e1 : gk = true := HF'.out.1
      have e2 : (g2.toList == l[k].anchor.toList) = true := HF'.out.2
      subst e1
      have E2 := Lib.hid e2
      clear e2
      go_upto_region 11 with (fail)
      clear h0 h HF s0 s1 s3
      have hne : ¬ b = w4.heap.size := by have := hB4.size; omega
      have hne' : ¬ w4.heap.size = b := fun e => hne e.symm
      go_cut [13, 14] (fun s13 s14 wx => ∃ g, s13 = .pointer (some ⟨g, 0, none⟩) ∧ s14 = .bool true ∧ wx.cell? ⟨g, 2, none⟩ = some (.string g2) ∧ Below w.heap.size w wx)
      case first =>
        go_region_held3 (fun wx => wx.cell? ⟨b, o + k * 4 + 2, none⟩ = some (.string l[k].anchor)) (first | exact s5 | exact s2 | go_keep)
          (first | (go_at_call 6; refine (find_any l[k].anchor _ (l.take (k + 1)) _ ?_).mono ?_; (first | exact (HP.out.below hB4.drew).mono hB4.size | exact (HP.out.below (hB4.alloc hB4.size _).drew).mono (by have := hB4.size; simp; omega)); rw [HG.out]; simp only [Sec.val]; rintro e w5 ⟨rfl, hb5⟩; have hz5 : w4.heap.size < w5.heap.size + 1 := (by have := hb5.size; simp at this; omega); have hB5 : Below w.heap.size w w5 := (by first | exact hB4.drew.trans (hb5.mono hB4.size) | exact ((hB4.alloc hB4.size _).drew).trans (hb5.mono (by have := hB4.size; simp; omega))); have hn5 : ¬ b = w5.heap.size := (by have := hB5.size; omega); have s5 := ((HS.out k hlt).below hB5 hbl).c2; obtain ⟨hc5, hf5⟩ := bcell hb5))
        all_goals (go_wp2_with fail; go_meet)
        · exact ⟨_, rfl, rfl, (block4 (heap_alloc_new _ _)).2.2.1, Below.alloc (by assumption) (Below.size (by assumption)) _⟩
        · exact ⟨w4.heap.size, rfl, rfl, by go_simp, Below.setCell (Below.setCell (Below.setCell (Below.setCell (by assumption) hB4.size _) hB4.size _) hB4.size _) hB4.size _⟩
      case rest =>
        obtain ⟨g, rfl, rfl, hg, hBc⟩ := hcut
        clear hne hne' s2 hB4
        have hs' := (HS.out k hlt).below hBc hbl
        have s0 := cell_regrown hs'.c0
        have s1 := cell_regrown hs'.c1
        have s2 := cell_regrown hs'.c2
        have s3 := cell_regrown hs'.c3
        have s4 := cell_regrown hg
        clear hs'
        go_upto_region 12 with (fail)
        have e2 := E2.out
        have e3 : (callSec l[k] numbers).toList.isEmpty = false := callSec_ne _ _
        have cc : ∀ d os, Calls Try.prog 9 #[l[k].val, .bool numbers] (Sort.grow (redrawn wc d) os) fun e w'' => e = .returned (.string (callSec l[k] numbers)) ∧ ∃ p : Regrown, w'' = Sort.grow (redrawn wc p.d) p.os := fun d os => Calls.regrown_of (ref_call _ _ _)
        simp only [Sec.val] at cc
        refine wp_region_quiet_below (by kernel_rfl) (by kernel_rfl) ?_
        repeat (quiet_step (exact cc _ _))
        refine wpQuiet_nil ?_
        intro _ hw'
        obtain ⟨⟨dq, osq⟩, hw''⟩ := hw'
        subst hw''
        have hBq := (hBc.trans ((below_regrown wc dq osq).mono hBc.size))
        go_wp2_with fail
        go_roundw
        case rel => exact ⟨k + 1, by omega, by go_num, hBq⟩
        case measure => simp [intOf]; omega
    · go_wp2_with fail
      go_ret
      exact ⟨rfl, hB⟩
end Go.Proofs.Ytgmeligofkbdlaa
