/- html.Tokens: the walk. -/
import Derived.Test.YtpabackkapgkpaaGreatDoorPTok
import Derived.Test.YtpabackkapgkpaaGreatDoorHName
import Derived.Test.YtpabackkapgkpaaGreatDoorHLeave
import Derived.Lib.QuietBelow
import Derived.Deep.QuietTactic
namespace Go.Proofs.YtpabackkapgkpaaGreatDoor
open Go.RowKit Go.Lib

theorem ixb_any {s : ByteArray} {v : Int} (w : World) (h : Lib.indexByte s.data.toList 60 = v) : Calls Tryz.prog 28 #[.string s, .int .u8 60] w fun e w' => e = .returned (.int .i64 v) ∧ w' = w := by
  have := Tryz.strings_IndexByte s 60 w
  rw [show ((60 : Int).toNat.toUInt8) = 60 from rfl, h] at this
  exact this
theorem cut_any {w : World} {X : ByteArray} {a r : List UInt8} {b : Bool} (hT : Tabs w) (h : Lib.cut X.data.toList [62] = (a, r, b)) (hs : X.size < 4294967281) : Calls Tryz.prog 29 #[.string X, .string ⟨#[62]⟩] w fun e w' => e = .returned (.tuple #[.string ⟨a.toArray⟩, .string ⟨r.toArray⟩, .bool b]) ∧ Below w.heap.size w w' := by
  obtain ⟨m, hm⟩ := hT.mlen
  refine (Tryz.strings_Cut X ⟨#[62]⟩ m w hs hm).mono ?_
  rintro e w' ⟨rfl, n, rfl⟩
  have h : Lib.cut X.data.toList (ByteArray.mk #[62]).data.toList = (a, r, b) := h
  rw [h]
  exact ⟨rfl, bel_drewN (Below.refl _ _) n⟩
theorem hpx_any {s p : ByteArray} {b : Bool} (w : World) (h : Lib.hasPrefix s.data.toList p.data.toList = b) : Calls Tryz.prog 30 #[.string s, .string p] w fun e w' => e = .returned (.bool b) ∧ w' = w := by
  have := Tryz.strings_HasPrefix s p w
  rw [h] at this
  exact this
theorem hsx_any {s p : ByteArray} {b : Bool} (w : World) (hs : s.size ≤ 9223372036854775807) (h : Lib.hasSuffix s.data.toList p.data.toList = b) : Calls Tryz.prog 32 #[.string s, .string p] w fun e w' => e = .returned (.bool b) ∧ w' = w := by
  have := Tryz.strings_HasSuffix s p w hs
  rw [h] at this
  exact this

theorem big_alloc {w w' : World} (h : Below w.heap.size w w') (o : Obj) : w.heap.size ≤ (w'.alloc o).heap.size := by
  have := h.size
  simp; omega

/-- two rows of texts that lie apart; the second one's list is its last element first -/
structure Two (w : World) (out op : List ByteArray) (vo vp : Value) (wr : World) : Prop where
  below : Below w.heap.size w wr
  out : wr.ownsRow w.heap.size 9 1 vo out.length (out.map .string)
  op : wr.ownsRow w.heap.size 9 1 vp op.length (op.reverse.map .string)
  apart : ∀ g, vo.ownBlock = some g → vp.ownBlock ≠ some g
theorem Two.on {w wr w' : World} {out op : List ByteArray} {vo vp : Value} (h : Two w out op vo vp wr) (hb : Below wr.heap.size wr w') : Two w out op vo vp w' :=
  ⟨h.below.trans (hb.mono h.below.size), row_kept h.out (fun g hg => hb.block g (h.out.lt g hg).2), row_kept h.op (fun g hg => hb.block g (h.op.lt g hg).2), h.apart⟩
theorem Two.push_out {w w2 w3 : World} {out op : List ByteArray} {vo vp v' : Value} {o : Obj} {X : ByteArray} (h : Two w out op vo vp w2) (hown : w3.ownsRow w.heap.size 9 1 v' (out.length + 1) (out.map .string ++ [.string X])) (hgr : (w2.alloc o).grownBy w3 vo.ownBlock) (hblk : v'.ownBlock = vo.ownBlock ∨ v'.ownBlock = some (w2.alloc o).heap.size) : Two w (out ++ [X]) op v' vp w3 := by
  have hs := h.below.size
  refine ⟨(h.below.alloc hs o).grown hgr (by simp; omega) (fun k hk => (h.out.lt k hk).1), by simpa using hown, ?_, fun g hg hg2 => ?_⟩
  · refine row_kept (h.op.alloc o) (fun g hg => hgr.block g ?_ (fun e => h.apart g e.symm hg))
    have := (h.op.lt g hg).2
    simp; omega
  · rcases hblk with e | e
    · exact h.apart g (e ▸ hg) hg2
    · have := (h.op.lt g hg2).2
      rw [e] at hg
      simp at hg
      omega
theorem Two.push_op {w w2 w3 : World} {out op : List ByteArray} {vo vp v' : Value} {o : Obj} {X : ByteArray} (h : Two w out op vo vp w2) (hown : w3.ownsRow w.heap.size 9 1 v' (op.length + 1) (op.reverse.map .string ++ [.string X])) (hgr : (w2.alloc o).grownBy w3 vp.ownBlock) (hblk : v'.ownBlock = vp.ownBlock ∨ v'.ownBlock = some (w2.alloc o).heap.size) : Two w out (X :: op) vo v' w3 := by
  have hs := h.below.size
  refine ⟨(h.below.alloc hs o).grown hgr (by simp; omega) (fun k hk => (h.op.lt k hk).1), ?_, by simpa using hown, fun g hg hg2 => ?_⟩
  · refine row_kept (h.out.alloc o) (fun g hg => hgr.block g ?_ (fun e => h.apart g hg e.symm))
    have := (h.out.lt g hg).2
    simp; omega
  · rcases hblk with e | e
    · exact h.apart g hg (e ▸ hg2)
    · have := (h.out.lt g hg).2
      rw [e] at hg2
      simp at hg2
      omega
theorem Two.top {w wr : World} {out op : List ByteArray} {vo : Value} {a : Option Addr} {cap : Nat} {t : ByteArray} (h : Two w out (t :: op) vo (.slice a (op.length + 1) cap) wr) :
    ∃ g, a = some ⟨g, 0, none⟩ ∧ g < wr.heap.size ∧ op.length + 1 ≤ cap ∧ cap ≤ 9223372036854775807 ∧ wr.cell? ⟨g, op.length, none⟩ = some (.string t) ∧ Two w out op vo (.slice a op.length cap) wr := by
  have ho := h.op
  have hc := row_cut h.op (m := op.length) (by omega)
  have e : (List.map Value.string (t :: op).reverse).take (op.length * 1) = List.map Value.string op.reverse := by
    rw [List.reverse_cons, List.map_append, Nat.mul_one]
    exact List.take_left' (by simp)
  rw [e] at hc
  rcases ho.2 with ⟨hv, h0⟩ | ⟨g, cap', cur, hv, hb, hg, hnc, hcm, -, -⟩
  · simp at h0
  · cases hv
    refine ⟨g, rfl, (ho.lt g rfl).2, hnc, hcm, ?_, h.below, h.out, hc, h.apart⟩
    rw [ho.cellAt op.length (by simp), List.reverse_cons, List.map_append, List.getElem?_append_right (by simp)]
    simp

/-- what stands at the head of each round -/
structure TRel (w : World) (s s' : ByteArray) (out op : List ByteArray) (vo vp : Value) (wr : World) : Prop where
  two : Two w out op vo vp wr
  eq : forestF s'.data.toList (op.map (·.data.toList)) (out.map (·.data.toList)) = forestF s.data.toList [] []
  size : s'.size + 2 * out.length ≤ s.size
  len : op.length ≤ out.length
/-- what Tokens answers -/
def TokPost (w : World) (s : ByteArray) (e : Ending) (w' : World) : Prop :=
  ∃ (v : Value) (l : List ByteArray), e = .returned (.tuple #[v, .bool (forestF s.data.toList [] []).isSome]) ∧ l.map (·.data.toList) = (forestF s.data.toList [] []).getD [] ∧ Below w.heap.size w w' ∧ w'.ownsRow w.heap.size 9 1 v l.length (l.map .string)
theorem TokPost.no {w w' : World} {s : ByteArray} (h : forestF s.data.toList [] [] = none) (hb : Below w.heap.size w w') : TokPost w s (.returned (.tuple #[.slice none 0 0, .bool false])) w' :=
  ⟨.slice none 0 0, [], by rw [h]; rfl, by rw [h]; rfl, hb, row_nil _ _ _ _⟩
theorem TokPost.yes {w w' : World} {s : ByteArray} {l : List ByteArray} {v : Value} (h : forestF s.data.toList [] [] = some (l.map (·.data.toList))) (hb : Below w.heap.size w w') (ho : w'.ownsRow w.heap.size 9 1 v l.length (l.map .string)) : TokPost w s (.returned (.tuple #[v, .bool true])) w' :=
  ⟨v, l, by rw [h]; rfl, by rw [h]; rfl, hb, ho⟩

set_option maxHeartbeats 4000000 in
set_option maxRecDepth 100000 in
theorem tokens_any {w : World} (s : ByteArray) (hT : Tabs w) (hs : s.size ≤ 4000000000) :
    Calls Tryz.prog 16 #[.string s] w (TokPost w s) := by
  obtain ⟨i0, hi, hz0, hz1, hz2⟩ := info_parts info_str
  have HI0 : Hid (Tryz.prog.info? 9 = some i0 ∧ i0.zero = some (.string ⟨#[]⟩) ∧ i0.size = 1 ∧ i0.bytes = 16) := ⟨hi, hz0, hz1, hz2⟩
  have R0 : Hid (TRel w s s [] [] (.slice none 0 0) (.slice none 0 0) w) := ⟨⟨Below.refl _ _, row_nil _ _ _ _, row_nil _ _ _ _, fun g hg => by simp [Value.ownBlock] at hg⟩, rfl, by simp, Nat.le_refl _⟩
  clear hi hz0 hz1 hz2
  go_enter Tryz.func16, Tryz.ntmps16
  go_wp2_with fail
  go_loopw [0, 4, 5] (fun vs vo vp wr => ∃ (s' : ByteArray) (out op : List ByteArray), vs = .string s' ∧ Hid (TRel w s s' out op vo vp wr)) (fun vs _ _ _ => match vs with | .string x => x.size | _ => 0)
  case atStart => exact ⟨s, [], [], rfl, R0⟩
  case round =>
    clear R0
    obtain ⟨s', out, op, rfl, HR⟩ := hrel
    obtain ⟨ao, co, hvo⟩ := row_slice HR.out.two.out
    obtain ⟨ap, cp, hvp⟩ := row_slice HR.out.two.op
    subst hvo hvp
    have hsz := HR.out.size
    have hln := HR.out.len
    have HEQ := Lib.hid HR.out.eq
    rcases ix_cases 60 s'.data.toList with ⟨hi, hd⟩ | ⟨i, t, hi, hil, hd, hdw⟩
    · have HI := Lib.hid hi
      have hf : forestF s'.data.toList (op.map (·.data.toList)) (out.map (·.data.toList)) = if op.map (·.data.toList) = [] then some (out.map (·.data.toList)) else none := by
        rw [forestF_step, hd]; simp [cutGt]
      cases op with
      | nil =>
        have HE := Lib.hid (show forestF s.data.toList [] [] = some (out.map (·.data.toList)) by rw [← HEQ.out, hf]; rfl)
        clear hi hd hf
        go_wp2_with (go_at_call 28; refine (ixb_any _ HI.out).mono ?_; rintro e w2 ⟨rfl, rfl⟩)
        go_ret2
        exact TokPost.yes HE.out HR.out.two.below HR.out.two.out
      | cons p q =>
        have HE := Lib.hid (show forestF s.data.toList [] [] = none by rw [← HEQ.out, hf]; rfl)
        have hq : (0 : Int) < ((p :: q).length : Int) := by rw [List.length_cons]; omega
        clear hi hd hf
        go_wp2_with (go_at_call 28; refine (ixb_any _ HI.out).mono ?_; rintro e w2 ⟨rfl, rfl⟩)
        go_ret2
        exact TokPost.no HE.out HR.out.two.below
    · have HI := Lib.hid hi
      have hX : (s'.extract i s'.size).data.toList = 60 :: t := by rw [ba_extract, ba_size, List.take_length, hd]
      have hXs : (s'.extract i s'.size).size ≤ s'.size - i := by simp
      have hil2 : i < s'.size := by rw [ba_size]; exact hil
      have hi2 : (i : Int) ≤ s'.size := by omega
      have hi3 : (0 : Int) ≤ (i : Int) := by omega
      have T1 := hT.on HR.out.two.below
      have hxl : (s'.extract i s'.size).size = t.length + 1 := by rw [ba_size, hX]; rfl
      generalize hXX : s'.extract i s'.size = X at *
      rcases cut_gt (60 :: t) with ⟨hc, hg⟩ | ⟨a, r, hc, hg, hal⟩
      · have HE := Lib.hid (show forestF s.data.toList [] [] = none by
          rw [← HEQ.out, forestF_step, hdw, hg]; simp)
        have HC := Lib.hid (show Lib.cut X.data.toList [62] = (60 :: t, [], false) by rw [hX]; exact hc)
        clear hi hd hdw hc hg
        go_wp2_with (first
          | (go_at_call 28; refine (ixb_any _ HI.out).mono ?_; rintro e w2 ⟨rfl, rfl⟩)
          | (go_at_call 29; refine (cut_any T1 HC.out (by omega)).mono ?_; rintro e w3 ⟨rfl, hb3⟩))
        go_ret2
        exact TokPost.no HE.out (HR.out.two.on hb3).below
      · obtain ⟨a', rfl⟩ := cut_head hg
        have HC := Lib.hid (show Lib.cut X.data.toList [62] = (60 :: a', r, true) by rw [hX]; exact hc)
        have hstep : forestF s.data.toList [] [] = match signStep (60 :: a' ++ [62]) (op.map (·.data.toList)) with | none => none | some op' => forestF r op' (out.map (·.data.toList) ++ [60 :: a' ++ [62]]) := by
          rw [← HEQ.out, forestF_step, hdw, hg]; rfl
        simp only [List.length_cons] at hal
        obtain ⟨A, hA⟩ : ∃ A : ByteArray, (⟨(60 :: a').toArray⟩ : ByteArray) = A := ⟨_, rfl⟩
        have hAl : (A ++ ⟨#[62]⟩).data.toList = 60 :: a' ++ [62] := by rw [← hA, ba_append, ba_mk]
        obtain ⟨R, hR⟩ : ∃ R : ByteArray, (⟨r.toArray⟩ : ByteArray) = R := ⟨_, rfl⟩
        have hRl : R.data.toList = r := by rw [← hR, ba_mk]
        have hAs : (A ++ ⟨#[62]⟩).size = a'.length + 2 := by rw [ba_size, hAl]; simp
        have hRs : R.size = r.length := by rw [ba_size, hRl]
        have HAL := Lib.hid hAl
        have cC := cut_any T1 HC.out (by omega)
        rw [hA, hR] at cC
        have HAS := Lib.hid hAs
        have hA1 : A.size ≤ 4000000001 := by rw [← hA, ba_size, ba_mk, List.length_cons]; omega
        rw [← hAl, ← hRl] at hstep
        have HST := Lib.hid hstep
        have hm1 : out.length + 1 ≤ maxLen := by unfold maxLen; omega
        have hm2 : (out.length + 1) * 16 ≤ 140737488355328 := by omega
        have hm3 : op.length + 1 ≤ maxLen := by unfold maxLen; omega
        have hm4 : (op.length + 1) * 16 ≤ 140737488355328 := by omega
        clear hi hd hdw hc hg hstep hA hR hAs hAl hRl
        go_wp2_with (first
          | (go_at_call 28; refine (ixb_any _ HI.out).mono ?_; rintro e w2 ⟨rfl, rfl⟩)
          | (go_at_call 29; go_loud (refine cC.mono ?_; rintro e w3 ⟨rfl, hb3⟩; have H3 := Lib.hid (HR.out.two.on hb3); have hba := big_alloc H3.out.below (.cells #[.string (A ++ ⟨#[62]⟩)] 9); clear hb3))
          | (at_builtin; go_loud (refine wpList_append_any rfl (.tmp 32) (.tmp 34) 32 rfl w.heap.size 9 i0 (.string ⟨#[]⟩) 1 16 Tryz.underlying32 HI0.out.1 HI0.out.2.1 HI0.out.2.2.1 HI0.out.2.2.2 rfl (by decide) (.slice ao out.length co) out.length (out.map .string) rfl (H3.out.out.alloc _) (some ⟨w3.heap.size, 0, none⟩) 1 1 [.string (A ++ ⟨#[62]⟩)] rfl rfl (fun h => by cases h) (news_one w3 _ _) (fun u hu => by rw [List.mem_singleton.1 hu]; rfl) hm1 hm2 hba ?_); intro v' w4 hown4 hgr4 hblk4; have H4 := Lib.hid (Two.push_out H3.out hown4 hgr4 hblk4); clear hown4 hgr4 hblk4))
        have hb2 : (2 : Int) ≤ ((A ++ ⟨#[62]⟩ : ByteArray).size : Int) := by have := HAS.out; omega
        have hz1 : (A ++ ⟨#[62]⟩ : ByteArray).size = A.size + 1 := by rw [ba_size, ba_append, List.length_append, ← ba_size]; rfl
        have hsl : ∀ k, ((A ++ ⟨#[62]⟩ : ByteArray).extract k (A.size + 1)).data.toList = (A ++ ⟨#[62]⟩ : ByteArray).data.toList.drop k := fun k => by rw [ba_extract, ← hz1, ba_size, List.take_length]
        have HSL := Lib.hid hsl
        have hb3 : (2 : Int) ≤ (A.size : Int) + 1 := by have := HAS.out; omega
        clear hsl hz1
        cases hpf : Lib.hasPrefix (A ++ ⟨#[62]⟩ : ByteArray).data.toList [60, 47] with
        | true =>
          refine (hpx_any (p := ⟨#[60, 47]⟩) _ hpf).mono ?_
          rintro e w5 ⟨rfl, rfl⟩
          cases op with
          | nil =>
            have HE := Lib.hid (show forestF s.data.toList [] [] = none by
              rw [HST.out]; unfold signStep; rw [if_pos hpf]; rfl)
            clear hpf
            have e1 : IntKind.i64.wrap (((0 : Nat) : Int) - 1) = -1 := by decide
            simp only [List.length_nil] at *
            go_wp2_with fail
            go_region
            go_wp2_with fail
            go_ret2
            exact TokPost.no HE.out H4.out.below.drew
          | cons p q =>
            obtain ⟨g, rfl, hg, hc1, hc2, htc, HP⟩ := H4.out.top
            obtain ⟨N, hN⟩ : ∃ N : ByteArray, N.data.toList = nameL ((A ++ ⟨#[62]⟩ : ByteArray).data.toList.drop 2) := ⟨_, ba_mk _⟩
            have hst : signStep (A ++ ⟨#[62]⟩ : ByteArray).data.toList ((p :: q).map (·.data.toList)) = if p.data.toList = N.data.toList then some (q.map (·.data.toList)) else none := by
              unfold signStep; rw [if_pos hpf, hN]; rfl
            have HT4 := Lib.hid (fun w' (hb : Below w5.heap.size w5 w') => Two.on HP hb)
            have cN : ∀ d os, Calls Tryz.prog 31 #[.string ((A ++ ⟨#[62]⟩ : ByteArray).extract 2 (A.size + 1))] (Sort.grow (redrawn w5 d) os) fun e w'' => e = .returned (.string N) ∧ ∃ p : Regrown, w'' = Sort.grow (redrawn w5 p.d) p.os := fun d os => Calls.regrown_of (name_any _ N (by rw [hN, HSL.out]))
            have htd : ∀ d os, (Sort.grow (redrawn w5 d) os).cell? ⟨g, q.length, none⟩ = some (.string p) := fun d os => cell_regrown htc d os
            have e1 : IntKind.i64.wrap (((q.length : Int) + 1) - 1) = (q.length : Int) := by simp only [List.length_cons] at hm3; unfold maxLen at hm3; rw [IntWalk.i64_in _ (by omega)]; omega
            have hq0 : (0 : Int) ≤ (q.length : Int) := by omega
            have hq1 : (q.length : Int) < (q.length : Int) + 1 := by omega
            have hq2 : (q.length : Int) ≤ (cp : Int) := by omega
            have hq3 : ¬ (q.length : Int) < 0 := by omega
            simp only [List.length_cons] at *
            cases htn : (p.toList == N.toList) with
            | true =>
              have hpn : p.data.toList = N.data.toList := by rw [← Lib.toList_data, ← Lib.toList_data]; exact eq_of_beq htn
              have HE := Lib.hid (show forestF R.data.toList (q.map (·.data.toList)) ((out ++ [(A ++ ⟨#[62]⟩ : ByteArray)]).map (·.data.toList)) = forestF s.data.toList [] [] by
                rw [HST.out, hst, if_pos hpn, List.map_append]; rfl)
              clear hst hN hpn hpf
              go_wp2_with fail
              refine wp_region_quiet_below (by kernel_rfl) (by kernel_rfl) ?_
              repeat (quiet_step (exact cN _ _))
              refine wpQuiet_nil ?_
              intro _ hw'
              obtain ⟨⟨dq, osq⟩, hw''⟩ := hw'
              subst hw''
              have H6 := Lib.hid (HT4.out _ (below_regrown w5 dq osq))
              all_goals
                go_wp2_with fail
                go_roundw
                case rel => exact ⟨R, _, q, rfl, Lib.hid ⟨H6.out, HE.out, by rw [List.length_append, List.length_singleton]; omega, by rw [List.length_append, List.length_singleton]; omega⟩⟩
                case measure => dsimp only; omega
            | false =>
              have hpn : p.data.toList ≠ N.data.toList := by rw [← Lib.toList_data, ← Lib.toList_data]; exact ne_of_beq_false htn
              have HE := Lib.hid (show forestF s.data.toList [] [] = none by rw [HST.out, hst, if_neg hpn])
              clear hst hN hpn hpf
              go_wp2_with fail
              refine wp_region_quiet_below (by kernel_rfl) (by kernel_rfl) ?_
              repeat (quiet_step (exact cN _ _))
              refine wpQuiet_nil ?_
              intro _ hw'
              obtain ⟨⟨dq, osq⟩, hw''⟩ := hw'
              subst hw''
              have H6 := Lib.hid (HT4.out _ (below_regrown w5 dq osq))
              all_goals
                go_wp2_with fail
                go_ret2
                exact TokPost.no HE.out H6.out.below
        | false =>
          refine (hpx_any (p := ⟨#[60, 47]⟩) _ hpf).mono ?_
          rintro e w5 ⟨rfl, rfl⟩
          have hs9 : (A ++ ⟨#[62]⟩ : ByteArray).size ≤ 9223372036854775807 := by have := HAS.out; omega
          have hsd : Lib.hasSuffix (A ++ ⟨#[62]⟩ : ByteArray).data.toList [47, 62] = decide ((A ++ ⟨#[62]⟩ : ByteArray).data.toList.drop ((A ++ ⟨#[62]⟩ : ByteArray).data.toList.length - 2) = [47, 62]) := suffix_is (by rw [HAL.out]; simp)
          cases hsf : Lib.hasSuffix (A ++ ⟨#[62]⟩ : ByteArray).data.toList [47, 62] with
          | true =>
            have HE := Lib.hid (show forestF R.data.toList (op.map (·.data.toList)) ((out ++ [(A ++ ⟨#[62]⟩ : ByteArray)]).map (·.data.toList)) = forestF s.data.toList [] [] by
              rw [HST.out]; unfold signStep; rw [if_neg (by rw [hpf]; decide), if_pos (by rw [hsf] at hsd; simpa using hsd.symm), List.map_append]; rfl)
            have cS := hsx_any (p := ⟨#[47, 62]⟩) w5 hs9 hsf
            clear hpf hsf hsd
            go_wp2_with (go_at_call 32; refine cS.mono ?_; rintro e w6 ⟨rfl, rfl⟩)
            go_roundw
            case rel => exact ⟨R, _, op, rfl, Lib.hid ⟨H4.out, HE.out, by rw [List.length_append, List.length_singleton]; omega, by rw [List.length_append, List.length_singleton]; omega⟩⟩
            case measure => dsimp only; omega
          | false =>
            obtain ⟨N, hN⟩ : ∃ N : ByteArray, N.data.toList = nameL ((A ++ ⟨#[62]⟩ : ByteArray).data.toList.drop 1) := ⟨_, ba_mk _⟩
            have HE := Lib.hid (show forestF R.data.toList ((N :: op).map (·.data.toList)) ((out ++ [(A ++ ⟨#[62]⟩ : ByteArray)]).map (·.data.toList)) = forestF s.data.toList [] [] by
              rw [HST.out]; unfold signStep; rw [if_neg (by rw [hpf]; decide), if_neg (by rw [hsf] at hsd; simpa using hsd.symm), List.map_append, List.map_cons, hN]; rfl)
            have cS := hsx_any (p := ⟨#[47, 62]⟩) w5 hs9 hsf
            have cN := name_any (w := w5) ((A ++ ⟨#[62]⟩ : ByteArray).extract 1 (A.size + 1)) N (by rw [hN, HSL.out])
            clear hpf hsf hsd hN
            go_wp2_with (first
              | (go_at_call 32; refine cS.mono ?_; rintro e w6 ⟨rfl, rfl⟩)
              | (go_at_call 31; go_loud (refine cN.mono ?_; rintro e w7 ⟨rfl, hb7⟩; have H7 := Lib.hid (H4.out.on hb7); have hba7 := big_alloc H7.out.below (.cells #[.string N] 9); clear hb7))
              | (at_builtin; go_loud (refine wpList_append_any rfl (.tmp 61) (.tmp 65) 32 rfl w.heap.size 9 i0 (.string ⟨#[]⟩) 1 16 Tryz.underlying32 HI0.out.1 HI0.out.2.1 HI0.out.2.2.1 HI0.out.2.2.2 rfl (by decide) (.slice ap op.length cp) op.length (op.reverse.map .string) rfl (H7.out.op.alloc _) (some ⟨w7.heap.size, 0, none⟩) 1 1 [.string N] rfl rfl (fun h => by cases h) (news_one w7 _ _) (fun u hu => by rw [List.mem_singleton.1 hu]; rfl) hm3 hm4 hba7 ?_; intro v8 w8 hown8 hgr8 hblk8; have H8 := Lib.hid (Two.push_op H7.out hown8 hgr8 hblk8); clear hown8 hgr8 hblk8)))
            go_roundw
            case rel => exact ⟨R, _, N :: op, rfl, Lib.hid ⟨H8.out, HE.out, by rw [List.length_append, List.length_singleton]; omega, by rw [List.length_append, List.length_singleton, List.length_cons]; omega⟩⟩
            case measure => dsimp only; omega
end Go.Proofs.YtpabackkapgkpaaGreatDoor
