/- HtmlForest: the walk, where all that comes in is of bulk at most 1048576. -/
import Derived.Test.YtpabackkapgkpaaGreatDoorLShaped
import Derived.Test.YtpabackkapgkpaaGreatDoorForestNode
import Derived.Test.YtpabackkapgkpaaGreatDoorRForest
import Derived.Test.YtpabackkapgkpaaGreatDoorHLaw
import Derived.Test.YtpabackkapgkpaaGreatDoorHOpen
namespace Go.Proofs.YtpabackkapgkpaaGreatDoor
open Go.RowKit Go.Lib

/-- an anchor of letters alone -/
def LowA (s : Sec) : Prop := ∀ b ∈ s.anchor.data.toList, 97 ≤ b.toNat ∧ b.toNat ≤ 122

set_option maxHeartbeats 4000000 in
set_option maxRecDepth 100000 in
theorem htmlForest_walk (v vS vl : Value) (W : World) (hT : Tabs W) (hv : ∃ (n co no ra : Bool) (de : Int), v = optsVal n co no ra de)
    (hs : ∃ a len cap, vS = .slice a len cap ∧ len ≤ 9223372036854775807 ∧ (len ≤ 100000 → ∃ l : List Sec, l.length = len ∧ SecsIn W W.heap.size vS l ∧ ∀ s ∈ l, s.Le 1048576))
    (hn : ∃ l : List Inl, InlsIn W (fun _ => False) vl l ∧ (∀ s ∈ l, s.Le 1048576) ∧ l.length ≤ 9223372036854775807) :
    Calls Tryz.prog 3 #[v, vS, vl] W fun e w' => e = .returned (.bool true) ∧ Below W.heap.size W w' := by
  obtain ⟨n, co, no, ra, de, rfl⟩ := hv
  unfold optsVal
  obtain ⟨sa, slen, scap, rfl, hslen, hsec⟩ := hs
  obtain ⟨l, hl, hlB, hll⟩ := hn
  have h0 := (Below.refl W.heap.size W).alloc (Nat.le_refl _) (.cells #[.bool n, .bool co, .bool no, .bool ra, .int .i64 de] 23)
  obtain ⟨W0, hW0⟩ : ∃ W0, W0 = W.alloc (.cells #[.bool n, .bool co, .bool no, .bool ra, .int .i64 de] 23) := ⟨_, rfl⟩
  have hq := heap_alloc_new W (.cells #[.bool n, .bool co, .bool no, .bool ra, .int .i64 de] 23)
  have hz0 : W.heap.size < W0.heap.size := by rw [hW0]; simp
  rw [← hW0] at h0 hq
  have T0 := hT.on h0
  have HQ := Lib.hid hq
  have hl0 : InlsIn W0 (fun _ => False) vl l := hl.later h0 (fun _ _ h => h)
  have HL := Lib.hid hl
  have HLB := Lib.hid hlB
  have H0 := Lib.hid h0
  clear hq hl hlB h0
  go_enter Tryz.func3, Tryz.ntmps3
  go_wp2_with fail
  rw [← hW0]
  replace hW0 := Lib.hid hW0
  refine (shaped_any hl0 HLB.out hll).mono ?_
  rintro e w1 ⟨⟨dn, hdn⟩, hp⟩
  have B1 := Lib.hid (show Below W.heap.size W w1 by rw [hdn]; exact bel_drewN H0.out _)
  have T1 : Tabs w1 := hT.on B1.out
  have Q1 : Hid (w1.heap[W.heap.size]? = some (.cells #[.bool n, .bool co, .bool no, .bool ra, .int .i64 de] 23)) := by rw [hdn]; exact HQ.out
  clear hl0 hdn
  rcases hp with ⟨rfl, h60, hsm⟩ | rfl
  · by_cases hs20 : slen ≤ 20
    · obtain ⟨secs, rfl, hS, hSB⟩ := hsec (by omega)
      have HSEC := Lib.hid hS
      have HSB := Lib.hid hSB
      have HSM := Lib.hid hsm
      clear hsec hS hSB hsm
      go_wp2_with fail
      refine (alive_any (Below.refl _ w1) T1).mono ?_
      rintro e w2 ⟨rfl, hb2⟩
      have hz1 : W.heap.size < w1.heap.size := (Array.getElem?_eq_some_iff.1 Q1.out).1
      have B2 := Lib.hid (B1.out.trans (hb2.mono B1.out.size))
      have Q2 := Lib.hid ((hb2.block W.heap.size hz1).trans Q1.out)
      have T2 := hT.on B2.out
      clear hb2 hz1 Q1 T1
      go_wp2_with fail
      go_loop [32] (fun vi => ∃ i : Nat, i ≤ secs.length ∧ vi = .int .i64 i ∧ Hid (∀ j (h : j < secs.length), j < i → LowA secs[j])) (fun vi => secs.length - (RowKit.intOf vi).toNat)
      case atStart => exact ⟨0, Nat.zero_le _, rfl, Lib.hid (fun j h h9 => absurd h9 (Nat.not_lt_zero _))⟩
      case round =>
        obtain ⟨i, hi, rfl, HJ⟩ := hrel
        by_cases hlt : i < secs.length
        · obtain ⟨a9, c9, hv9, -, -, -, hsat⟩ := HSEC.out
          simp only [Value.slice.injEq] at hv9
          obtain ⟨rfl, -, rfl⟩ := hv9
          rcases hsat with h9 | ⟨g2, o2, rfl, hg2, hsat⟩
          · rw [h9] at hlt; simp at hlt
          have c2 : w2.cell? ⟨g2, o2 + i * 4 + 2, none⟩ = some (.string (secs[i]).anchor) := (B2.out.cell (p := ⟨g2, _, none⟩) hg2).trans (hsat i hlt).c2
          have han := (HSB.out secs[i] (List.getElem_mem hlt)).2.1
          have HJN : Hid (LowA secs[i] → ∀ j (h : j < secs.length), j < i + 1 → LowA secs[j]) := fun hx j hj h9 => by
            by_cases e : j = i
            · subst e; exact hx
            · exact HJ.out j hj (by omega)
          clear hsat
          unfold LowA at HJN
          generalize secs[i] = sec at *
          obtain ⟨lv, no9, an, tx9⟩ := sec
          simp only at c2 han HJN
          have hil : (i : Int) < secs.length := by omega
          have hi0 : (0 : Int) ≤ (i : Int) := by omega
          go_wp2_with fail
          go_loop [8] (fun vk => ∃ k : Nat, k ≤ an.size ∧ vk = .int .i64 k ∧ Hid (∀ b ∈ an.data.toList.take k, 97 ≤ b.toNat ∧ b.toNat ≤ 122)) (fun vk => an.size - (RowKit.intOf vk).toNat)
          case atStart => exact ⟨0, Nat.zero_le _, rfl, Lib.hid (fun x hx => by simp at hx)⟩
          case round =>
            obtain ⟨k, hk, rfl, HK⟩ := hrel
            by_cases hkl : k < an.size
            · by_cases h1 : (an[k].toNat : Int) < 97
              · go_wp2_with fail
                go_ret
                exact ⟨rfl, B2.out⟩
              · by_cases h2 : (122 : Int) < (an[k].toNat : Int)
                · go_wp2_with fail
                  go_ret
                  exact ⟨rfl, B2.out⟩
                · have HK2 : Hid (∀ b ∈ an.data.toList.take (k + 1), 97 ≤ b.toNat ∧ b.toNat ≤ 122) := by
                    have hk' : k < an.data.toList.length := by rw [← ba_size]; exact hkl
                    intro x hx
                    rw [List.take_succ_eq_append_getElem hk'] at hx
                    rcases List.mem_append.1 hx with hx | hx
                    · exact HK.out x hx
                    · have e : an.data.toList[k] = an[k] := by simp [ByteArray.getElem_eq_getElem_data]
                      rw [e] at hx
                      rw [List.mem_singleton.1 hx]
                      omega
                  go_wp2_with fail
                  go_round
                  case rel => exact ⟨k + 1, by omega, by go_num, HK2⟩
                  case measure => simp only [RowKit.intOf]; omega
            · obtain rfl : k = an.size := by omega
              have hnn : ¬ ((an.size : Int) < an.size) := by omega
              have HJ2 := Lib.hid (HJN.out (by
                have h9 := HK.out
                rwa [List.take_of_length_le (by rw [← ba_size]; exact Nat.le_refl _)] at h9))
              go_wp2_with fail
              go_round
              case rel => exact ⟨i + 1, by omega, by go_num, HJ2⟩
              case measure => simp only [RowKit.intOf]; omega
        · obtain rfl : i = secs.length := by omega
          have hnn : ¬ ((secs.length : Int) < secs.length) := by omega
          have q0 : w2.cell? ⟨W.heap.size, 0, none⟩ = some (.bool n) := by rw [Lib.cell_of_heap Q2.out]; rfl
          have q1 : w2.cell? ⟨W.heap.size, 1, none⟩ = some (.bool co) := by rw [Lib.cell_of_heap Q2.out]; rfl
          have q2 : w2.cell? ⟨W.heap.size, 2, none⟩ = some (.bool no) := by rw [Lib.cell_of_heap Q2.out]; rfl
          have q3 : w2.cell? ⟨W.heap.size, 3, none⟩ = some (.bool ra) := by rw [Lib.cell_of_heap Q2.out]; rfl
          have q4 : w2.cell? ⟨W.heap.size, 4, none⟩ = some (.int .i64 de) := by rw [Lib.cell_of_heap Q2.out]; rfl
          have qf : w2.frozen? ⟨W.heap.size, 3, none⟩ = false := frozen_of_row w2 W.heap.size 3 _ _ Q2.out
          obtain ⟨w3, hw3⟩ : ∃ w3, w3 = w2.setCell ⟨W.heap.size, 3, none⟩ (.bool false) := ⟨_, rfl⟩
          have B3 : Below W.heap.size W w3 := by rw [hw3]; exact B2.out.setCell (p := ⟨W.heap.size, 3, none⟩) (Nat.le_refl _) _
          have hsc : Cfg.Small ⟨n, co, no, false, de, secs⟩ := fun s hs => by
            obtain ⟨a, -, c⟩ := HSB.out s hs
            exact ⟨by omega, by omega⟩
          have hcl : CleanCfg ⟨n, co, no, false, de, secs⟩ := ⟨rfl, fun s hs => by
            obtain ⟨j, hj, rfl⟩ := List.getElem_of_mem hs
            exact HJ.out j hj hj⟩
          have P0 := Pen.fresh B3 n co no false de secs _ ((HSEC.out.below B3).mono B3.size)
          have hb4 : Below W.heap.size W ((w3.alloc (.cells #[.slice none 0 0, .slice none 0 0] 35)).alloc (.cells #[.bool n, .bool co, .bool no, .bool false, .int .i64 de, .slice sa secs.length scap, .pointer (some ⟨w3.heap.size, 0, none⟩)] 37)) :=
            (B3.alloc B3.size _).alloc (by have := B3.size; simp; omega) _
          have V := HL.out.later (G := (· = w3.heap.size)) hb4 (fun b hb e => by have := B3.size; have e : b = w3.heap.size := e; omega)
          obtain ⟨s, hs⟩ : ∃ s, nodesS ⟨n, co, no, false, de, secs⟩ l ⟨[], [], [], [], []⟩ = s := ⟨_, rfl⟩
          obtain ⟨X, hX⟩ : ∃ X : ByteArray, X.data.toList = s.out := ⟨_, ba_mk _⟩
          obtain ⟨-, hlen⟩ := nodes_fits _ hsc l.length 0 l ⟨[], [], [], [], []⟩ (Nat.le_refl _) HSM.out (by rw [Nat.zero_add]; exact fits_nil (by omega))
          obtain ⟨toks, htk⟩ := nodes_forest hcl hsc HSM.out (L := []) (C := []) (fits_nil (by omega))
          rw [hs] at hlen htk
          have hXs : X.size ≤ 4000000000 := by rw [ba_size, hX]; simp only [List.length_nil] at hlen; omega
          have HF := Lib.hid (show (forestF X.data.toList [] []).isSome = true by rw [hX, htk]; rfl)
          have cI := inline_pen P0 hT hsc V HSM.out (fits_nil (by omega)) (by omega) hs hX
          have hz3 : w3.heap.size = w2.heap.size := by rw [hw3]; simp
          rw [hz3] at cI
          clear P0 hb4 V hsc hcl hlen htk hs hX B3 hz3
          go_wp2_with fail
          rw [← hw3]
          replace hw3 := Lib.hid hw3
          refine cI.mono ?_
          rintro e w5 ⟨a5, c5, F5, rfl, P5, -, -⟩
          have B5 := Lib.hid P5.below
          clear P5 cI
          go_wp2_with fail
          have cT := tokens_any X (hT.on B5.out) hXs
          refine cT.mono ?_
          clear cT
          rintro e w6 ⟨v6, l6, rfl, -, hb6, -⟩
          rw [HF.out]
          have B6 := Lib.hid (B5.out.trans (hb6.mono B5.out.size))
          clear hb6
          go_wp2_with fail
          have cR := forest_any (w := w6) X (by omega)
          refine cR.mono ?_
          clear cR
          rintro e w7 ⟨v7, rfl, hb7⟩
          rw [HF.out]
          have B7 := Lib.hid (B6.out.trans (hb7.mono B6.out.size))
          clear hb7
          go_wp2_with fail
          go_ret
          exact ⟨by first | rfl | exact ret_bool (by simp), B7.out⟩
    · clear hsec
      go_wp2_with (go_at_call 14; refine (alive_any B1.out hT).mono ?_; rintro e w2 ⟨rfl, hb2⟩)
      go_ret
      exact ⟨rfl, hb2⟩
  · clear hsec
    go_wp2_with (go_at_call 14; refine (alive_any B1.out hT).mono ?_; rintro e w2 ⟨rfl, hb2⟩)
    go_ret
    exact ⟨rfl, hb2⟩
end Go.Proofs.YtpabackkapgkpaaGreatDoor
