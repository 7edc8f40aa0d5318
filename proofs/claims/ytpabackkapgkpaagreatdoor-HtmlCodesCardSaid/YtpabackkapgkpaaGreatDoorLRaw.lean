/- HtmlRaw: the walk. -/
import Derived.Test.YtpabackkapgkpaaGreatDoorHLaw
import Derived.Test.YtpabackkapgkpaaGreatDoorHRaw
import Derived.Test.YtpabackkapgkpaaGreatDoorHOpen
namespace Go.Proofs.YtpabackkapgkpaaGreatDoor
open Go.RowKit Go.Lib

theorem next_blocks {w0 w : World} {c : Cfg} {wb nb : Nat} {L : List ByteArray} {C : List Int} {Fn : Nat → Prop} (hP : Pen w0 c wb nb L C Fn w) (hT : Tabs w0) (hc : c.Small) (ha : Anchored c) (bs : List Blk) {cs : Array Value} (hcs : cs = (bs.flatMap Blk.cells).toArray) (hl : bs.length ≤ 500) (hs : ∀ x ∈ bs, x.Small) (hf : Fits (100 * bs.length) ⟨[], L, C, [], []⟩) (h2 : ∀ x ∈ bs, x.kind ≠ 2)
    (hC : ∀ x ∈ bs, x.kind = 6 → PutOk 40 w0 Fn c wb nb x (codeL x)) {X : ByteArray} {s : HSt}
    (hS' : blocksF c [] bs 0 0 ⟨[], L, C, [], []⟩ = s) (hX : X.data.toList = s.out) :
    Calls Tryz.prog 19 #[.pointer (some ⟨wb, 0, none⟩), .slice (some ⟨w.heap.size, 0, none⟩) bs.length bs.length, .slice none 0 0] (w.alloc (.cells cs 50))
      fun e w' => ∃ a cap F', e = .returned (.tuple #[.string X, .slice a s.dg.length cap]) ∧ Pen w0 c wb nb s.L s.C F' w' := by
  have b1 := (Below.refl _ w).alloc (Nat.le_refl _) (.cells cs 50)
  have V1 := blks_lit (w := w) (Fn := Fn) rfl bs hcs (by omega) (fun h => by have := (hP.notes.lt _ h).2; omega)
  refine (blocks_pen (hP.on b1) hT hc ha V1 (texts_nil _ _) hs (fun l hl => by cases hl) hf hl h2 hC (fun x hx _ => raw_ok (hs x hx)) hS' hX).mono ?_
  rintro e w' ⟨a, cap, F', he, hP, -, -⟩
  exact ⟨a, cap, F', he, hP⟩

theorem trimR_snoc (l : List UInt8) : trimR (l ++ [10]) = trimR l := by simp [trimR]
theorem trimR_stop (l : List UInt8) (x : UInt8) (h : x ≠ 10) : trimR (l ++ [x]) = l ++ [x] := by simp [trimR, h]
theorem trimR_nil : trimR [] = [] := rfl
/-- the last byte -/
theorem last_byte (t : ByteArray) (h : t.size ≠ 0) : ∃ (m : Nat) (x : UInt8), t.size = m + 1 ∧ (∀ hm : m < t.size, t[m] = x) ∧ t.data.toList = (t.extract 0 m).data.toList ++ [x] := by
  have hne : t.data.toList ≠ [] := fun e => h (by rw [ba_size, e]; rfl)
  have e := List.dropLast_concat_getLast hne
  have hz : t.size = t.data.toList.dropLast.length + 1 := by
    have := congrArg List.length e
    rw [List.length_append, ← ba_size] at this
    simpa using this.symm
  refine ⟨t.data.toList.dropLast.length, t.data.toList.getLast hne, hz, fun hm => ?_, ?_⟩
  · have h1 : t.data.toList[t.data.toList.dropLast.length]? = some (t.data.toList.getLast hne) := by
      conv => lhs; rw [← e]
      simp
    have h2 : t[t.data.toList.dropLast.length] = t.data.toList[t.data.toList.dropLast.length]'(by rw [← ba_size]; exact hm) := by simp [ByteArray.getElem_eq_getElem_data]
    rw [h2]
    rw [List.getElem?_eq_getElem (by rw [← ba_size]; exact hm)] at h1
    exact Option.some.inj h1
  · rw [ba_extract, List.drop_zero]
    have e2 : t.data.toList.take t.data.toList.dropLast.length = t.data.toList.dropLast := by
      conv => lhs; rw [← e]
      rw [List.dropLast_concat]
      exact List.take_left' rfl
    rw [e2]
    exact e.symm

set_option maxHeartbeats 4000000 in
set_option maxRecDepth 100000 in
theorem htmlRaw_walk (str : ByteArray) (v : Value) (W : World) (hT : Tabs W) (_ : str.size ≤ 9223372036854775807) (hv : ∃ (n co no ra : Bool) (de : Int), v = optsVal n co no ra de) :
    Calls Tryz.prog 5 #[.string str, v] W fun e w' => e = .returned (.bool true) ∧ Below W.heap.size W w' := by
  obtain ⟨n, co, no, ra, de, rfl⟩ := hv
  unfold optsVal
  have h0 := (Below.refl W.heap.size W).alloc (Nat.le_refl _) (.cells #[.bool n, .bool co, .bool no, .bool ra, .int .i64 de] 23)
  obtain ⟨W0, hW0⟩ : ∃ W0, W0 = W.alloc (.cells #[.bool n, .bool co, .bool no, .bool ra, .int .i64 de] 23) := ⟨_, rfl⟩
  have hq := heap_alloc_new W (.cells #[.bool n, .bool co, .bool no, .bool ra, .int .i64 de] 23)
  have hz0 : W.heap.size < W0.heap.size := by rw [hW0]; simp
  have hk : Hid (∀ w', Below W0.heap.size W0 w' → Below W.heap.size W w') := fun w' hb => by rw [← hW0] at h0; exact h0.trans (hb.mono h0.size)
  rw [← hW0] at h0 hq
  have T0 := hT.on h0
  have HQ := Lib.hid hq
  by_cases ha : str.size ≤ 100
  · obtain ⟨E, hE⟩ := ex_escE str
    obtain ⟨T, hTT⟩ : ∃ T : ByteArray, T.data.toList = trimR str.data.toList := ⟨_, ba_mk _⟩
    obtain ⟨G, hG⟩ := ex_escE T
    have hEs := esc_size hE
    have hTs : T.size ≤ 100 := by
      have := trimR_length str.data.toList
      rw [← hTT, ← ba_size, ← ba_size] at this; omega
    have hGs := esc_size hG
    obtain ⟨XI, hXI⟩ : ∃ XI : ByteArray, XI = if ra then str else E := ⟨_, rfl⟩
    obtain ⟨XB, hXB⟩ : ∃ XB : ByteArray, XB = if ra then T ++ ⟨#[10]⟩ else (⟨#[60, 112, 114, 101, 62]⟩ ++ G ++ ⟨#[60, 47, 112, 114, 101, 62, 10]⟩ : ByteArray) := ⟨_, rfl⟩
    have s1 : nodesS ⟨n, co, no, ra, de, []⟩ [⟨9, 0, str, ⟨#[]⟩, ⟨#[]⟩⟩] ⟨[], [], [], [], []⟩ = ⟨XI.data.toList, [], [], [], []⟩ := by
      rw [hXI]
      cases ra
      · simp only [if_neg (by decide : ¬ (false = true)), hE]; simp [nodesS_cons, nodesS_nil, inside, nodeS, nodeL, HSt.put]
      · simp [nodesS_cons, nodesS_nil, inside, nodeS, nodeL, HSt.put]
    have s2 : blocksF ⟨n, co, no, ra, de, []⟩ [] [⟨8, 0, 0, false, str ++ ⟨#[10]⟩, ⟨#[]⟩⟩] 0 0 ⟨[], [], [], [], []⟩ = ⟨XB.data.toList, [], [], [], []⟩ := by
      rw [hXB]
      have e9 : trimR (str ++ ⟨#[10]⟩ : ByteArray).data.toList = T.data.toList := by rw [ba_append, hTT]; exact trimR_snoc _
      cases ra
      · simp only [if_neg (by decide : ¬ (false = true)), ba_append, hG]
        simp at e9
        simp [blocksF, blockS, pushS, bodyS, leaveS, leaveF, holderL, rawL, HSt.put, e9]
      · simp only [if_pos, ba_append]
        simp at e9
        simp [blocksF, blockS, pushS, bodyS, leaveS, leaveF, holderL, rawL, HSt.put, e9]
    have HE := Lib.hid hE
    have HG := Lib.hid hG
    have HTT := Lib.hid hTT
    have S1 := Lib.hid s1
    have S2 := Lib.hid s2
    have HXI := Lib.hid hXI
    have HXB := Lib.hid hXB
    clear hE hG s1 s2 hTT hXI hXB
    go_enter Tryz.func5, Tryz.ntmps5
    go_wp2_with fail
    rw [← hW0]
    replace hW0 := Lib.hid hW0
    refine (alive_any (Below.refl _ W0) T0).mono ?_
    rintro e w1 ⟨rfl, hb1⟩
    have hq1 := (hb1.block W.heap.size hz0).trans HQ.out
    have q0 : w1.cell? ⟨W.heap.size, 0, none⟩ = some (.bool n) := by rw [Lib.cell_of_heap hq1]; rfl
    have q1 : w1.cell? ⟨W.heap.size, 1, none⟩ = some (.bool co) := by rw [Lib.cell_of_heap hq1]; rfl
    have q2 : w1.cell? ⟨W.heap.size, 2, none⟩ = some (.bool no) := by rw [Lib.cell_of_heap hq1]; rfl
    have q3 : w1.cell? ⟨W.heap.size, 3, none⟩ = some (.bool ra) := by rw [Lib.cell_of_heap hq1]; rfl
    have q4 : w1.cell? ⟨W.heap.size, 4, none⟩ = some (.int .i64 de) := by rw [Lib.cell_of_heap hq1]; rfl
    have cI := first_inline hb1 T0 n co no ra de (secs_nil w1) small_nil [⟨9, 0, str, ⟨#[]⟩, ⟨#[]⟩⟩] (cs := #[.int .i64 9, .int .i64 0, .string str, .string ⟨#[]⟩, .string ⟨#[]⟩]) rfl (by simp) (by intro x hx; simp at hx; rcases hx with rfl; exact small_node (by omega) (by decide) (by decide)) S1.out rfl
    clear hq1 hb1
    go_wp2_with fail
    refine cI.mono ?_
    rintro e w2 ⟨a2, c2, F2, rfl, P2, hs2⟩
    have cJ := next_blocks P2 T0 small_nil anch_nil [⟨8, 0, 0, false, str ++ ⟨#[10]⟩, ⟨#[]⟩⟩] (cs := #[.int .i64 8, .int .i64 0, .int .i64 0, .bool false, .string (str ++ ⟨#[10]⟩), .string ⟨#[]⟩]) rfl (by simp) (by intro x hx; simp at hx; subst hx; exact ⟨by rw [ba_size, ba_append, List.length_append, ← ba_size]; show str.size + 1 ≤ 100000; omega, by show (0 : Nat) ≤ 100000; omega, by show (-4611686018427387904 : Int) ≤ 0 ∧ (0 : Int) ≤ 4611686018427387904; omega, by show (-9223372036854775808 : Int) ≤ 0 ∧ (0 : Int) ≤ 9223372036854775807; omega, fun h => by cases h⟩) (fits_nil (by simp)) (by intro x hx; simp at hx; subst hx; show (8 : Int) ≠ 2; decide) (by intro x hx h; simp at hx; subst hx; cases h) S2.out rfl
    clear P2 cI q0 q1 q2 q4 q3
    go_wp2_with fail
    refine cJ.mono ?_
    rintro e w3 ⟨a3, c3, F3, rfl, P3⟩
    have hb3 := Lib.hid P3.below
    clear P3 cJ
    go_wp2_with fail
    go_loopw [10] (fun vt wr => ∃ t : ByteArray, vt = .string t ∧ Hid (Below W0.heap.size W0 wr) ∧ Hid (trimR t.data.toList = T.data.toList) ∧ t.size ≤ 100) (fun vt _ => match vt with | .string x => x.size | _ => 0)
    case atStart => exact ⟨str, rfl, hb3, HTT.out.symm, ha⟩
    case round =>
      obtain ⟨t, rfl, HB, HTR, hts⟩ := hrel
      have hq3 := (HB.out.block W.heap.size hz0).trans HQ.out
      have q3 : wr.cell? ⟨W.heap.size, 3, none⟩ = some (.bool ra) := by rw [Lib.cell_of_heap hq3]; rfl
      clear hq3
      by_cases h9 : t.size = 0
      · have ht : t = ⟨#[]⟩ := ba_eq (List.eq_nil_of_length_eq_zero (by rw [← ba_size]; exact h9))
        obtain rfl : T = t := ba_eq (by rw [← HTR.out, ht]; rfl)
        have he : T.toList.isEmpty = true := by rw [ht, Lib.toList_data]; rfl
        clear ht
        cases ra with
        | true =>
          obtain rfl : XI = str := HXI.out
          obtain rfl : XB = T ++ ⟨#[10]⟩ := HXB.out
          go_wp2_with fail
          go_ret
          exact ⟨by first | rfl | exact ret_bool (by simp), hk.out _ HB.out⟩
        | false =>
          obtain rfl : XI = E := HXI.out
          obtain rfl : XB = (⟨#[60, 112, 114, 101, 62]⟩ ++ G ++ ⟨#[60, 47, 112, 114, 101, 62, 10]⟩ : ByteArray) := HXB.out
          go_wp2_with (first
            | (go_at_call_of 18 str; refine (Esc_lit (w0 := W0) (X := str) (Y := XI) HE.out.symm (by omega) HB.out).mono ?_; rintro e w4 ⟨rfl, hb4⟩; have HB4 := Lib.hid hb4; clear hb4)
            | (go_at_call_of 18 T; refine (Esc_lit (w0 := W0) (X := T) (Y := G) HG.out.symm (by omega) HB4.out).mono ?_; rintro e w5 ⟨rfl, hb5⟩; have HB5 := Lib.hid hb5; clear hb5))
          go_ret
          exact ⟨by first | rfl | exact ret_bool (by simp), hk.out _ HB5.out⟩
      · obtain ⟨m, x, hz, hx, hd⟩ := last_byte t h9
        have he : t.toList.isEmpty = false := by
          rw [Lib.toList_data, hd]; simp
        have hmt : m < t.size := by omega
        have hx9 := hx hmt
        have e1 : IntKind.i64.wrap (((m : Int) + 1) - 1) = (m : Int) := by rw [IntWalk.i64_in _ (by omega)]; omega
        by_cases hxx : x = 10
        · subst hxx
          have HTR2 := Lib.hid (show trimR (t.extract 0 m).data.toList = T.data.toList by rw [← HTR.out, hd]; exact (trimR_snoc _).symm)
          have hts2 : (t.extract 0 m).size ≤ 100 := by simp; omega
          have hzz : (t.extract 0 m).size = m := by simp; omega
          have HZZ := Lib.hid hzz
          clear hd hx hzz
          go_wp2_with fail
          go_roundw
          case rel => exact ⟨t.extract 0 m, rfl, HB, HTR2, hts2⟩
          case measure => dsimp only; rw [HZZ.out]; omega
        · obtain rfl : T = t := ba_eq (by rw [← HTR.out, hd]; exact trimR_stop _ _ hxx)
          have d1 : ((x.toNat : Int) == 10) = false := by
            have : x.toNat ≠ 10 := fun e => hxx (UInt8.toNat_inj.1 e)
            simp; omega
          clear hd hx
          cases ra with
          | true =>
            obtain rfl : XI = str := HXI.out
            obtain rfl : XB = T ++ ⟨#[10]⟩ := HXB.out
            go_wp2_with fail
            go_ret
            exact ⟨by first | rfl | exact ret_bool (by simp), hk.out _ HB.out⟩
          | false =>
            obtain rfl : XI = E := HXI.out
            obtain rfl : XB = (⟨#[60, 112, 114, 101, 62]⟩ ++ G ++ ⟨#[60, 47, 112, 114, 101, 62, 10]⟩ : ByteArray) := HXB.out
            go_wp2_with (first
              | (go_at_call_of 18 str; refine (Esc_lit (w0 := W0) (X := str) (Y := XI) HE.out.symm (by omega) HB.out).mono ?_; rintro e w4 ⟨rfl, hb4⟩; have HB4 := Lib.hid hb4; clear hb4)
              | (go_at_call_of 18 T; refine (Esc_lit (w0 := W0) (X := T) (Y := G) HG.out.symm (by omega) HB4.out).mono ?_; rintro e w5 ⟨rfl, hb5⟩; have HB5 := Lib.hid hb5; clear hb5))
            go_ret
            exact ⟨by first | rfl | exact ret_bool (by simp), hk.out _ HB5.out⟩
  · go_enter Tryz.func5, Tryz.ntmps5
    go_wp2_with (go_at_call 14; rw [← hW0]; refine (alive_any (Below.refl _ W0) T0).mono ?_; rintro e w1 ⟨rfl, hb1⟩)
    go_ret
    exact ⟨rfl, hk.out _ hb1⟩
end Go.Proofs.YtpabackkapgkpaaGreatDoor
