/- HtmlNotes: the walk. -/
import Derived.Test.YtpabackkapgkpaaGreatDoorLNotesSt
import Derived.Lib.QuietBelow
import Derived.Deep.QuietTactic
namespace Go.Proofs.YtpabackkapgkpaaGreatDoor
open Go.RowKit Go.Lib

set_option maxHeartbeats 4000000 in
set_option maxRecDepth 100000 in
theorem htmlNotes_walk (v : Value) (on : Bool) (W : World) (hT : Tabs W) (hv : ∃ l : List ByteArray, RowIn W W.heap.size v (l.map Value.string) ∧ ∀ s ∈ l, s.size ≤ 9223372036854775807) :
    Calls Tryz.prog 6 #[v, .bool on] W fun e w' => e = .returned (.bool true) ∧ Below W.heap.size W w' := by
  have h0 := Below.refl W.heap.size W
  obtain ⟨l, ⟨a, cap, rfl, hc, hm, hrow⟩, -⟩ := hv
  rw [List.length_map] at hc ⊢
  by_cases h20 : l.length ≤ 20
  · obtain ⟨i0, hi, hz0, hz1, hz2⟩ := info_parts info_inl
    have HI0 : Hid (Tryz.prog.info? 45 = some i0 ∧ i0.zero = some (.agg #[.int .i64 0, .int .i64 0, .string ⟨#[]⟩, .string ⟨#[]⟩, .string ⟨#[]⟩]) ∧ i0.size = 5 ∧ i0.bytes = 64) := ⟨hi, hz0, hz1, hz2⟩
    have HROW := Lib.hid hrow
    clear hi hz0 hz1 hz2 hrow
    go_enter Tryz.func6, Tryz.ntmps6
    go_wp2_with fail
    refine (alive_any h0 hT).mono ?_
    rintro e w1 ⟨rfl, hb1⟩
    have P0 := Pen.fresh hb1 false false on false 0 [] (.slice none 0 0) (secs_nil w1)
    obtain ⟨w2, hw2⟩ : ∃ w2, w2 = (w1.alloc (.cells #[.slice none 0 0, .slice none 0 0] 35)).alloc (.cells #[.bool false, .bool false, .bool on, .bool false, .int .i64 0, .slice none 0 0, .pointer (some ⟨w1.heap.size, 0, none⟩)] 37) := ⟨_, rfl⟩
    have hz2 : w2.heap.size = w1.heap.size + 2 := by rw [hw2]; simp
    rw [← hw2] at P0
    have b2 := (Below.refl _ w2).alloc (Nat.le_refl _) (.cells #[.slice none 0 0, .slice none 0 0] 35)
    have N2 := NotesAt.fresh (T := 35) (base := W.heap.size) w2 (by have := P0.below.size; omega)
    have hz3 : (w2.alloc (.cells #[.slice none 0 0, .slice none 0 0] 35)).heap.size = w1.heap.size + 3 := by simp; omega
    have hws := hb1.size
    rw [hz2] at N2
    have R0 : Hid (NL W on (w1.heap.size + 1) w1.heap.size (w1.heap.size + 2) (w1.heap.size + 3) l 0 (.slice none 0 0) (w2.alloc (.cells #[.slice none 0 0, .slice none 0 0] 35))) :=
      ⟨P0.on b2, ⟨_, N2, fun k hk => by have hk : k = w1.heap.size + 2 := hk; omega⟩, row_nil _ _ _ _, by omega, ⟨by omega, by omega⟩, by omega, ⟨by omega, by omega⟩⟩
    clear P0 b2 N2 hz2 hz3 hb1
    subst hw2
    go_wp2_with fail
    go_loopw [7, 8, 34] (fun vw vl vi wr => ∃ (i : Nat) (X : ByteArray), i ≤ l.length ∧ vi = .int .i64 i ∧ vw = .string X ∧ Hid (X.data.toList = (noteAt ⟨false, false, on, false, 0, []⟩ l i).out) ∧ Hid (NL W on (w1.heap.size + 1) w1.heap.size (w1.heap.size + 2) (w1.heap.size + 3) l i vl wr) ∧ Hid (∀ x ∈ l.take i, x.size ≤ 30)) (fun _ _ vi _ => l.length - (RowKit.intOf vi).toNat)
    case atStart => exact ⟨0, ⟨#[]⟩, Nat.zero_le _, rfl, rfl, rfl, R0, fun x hx => by cases hx⟩
    case round =>
      clear R0
      obtain ⟨i, X, hi, rfl, rfl, HX, HR, HS⟩ := hrel
      obtain ⟨al, cl, hvl⟩ := row_slice HR.out.row
      subst hvl
      obtain ⟨hfit, hdg, hout⟩ := noteAt_fits ⟨false, false, on, false, 0, []⟩ small_nil l (by omega) i hi (fun x hx => by have := HS.out x hx; omega)
      have hXs : X.size ≤ 20000000 * 20 := by rw [ba_size, HX.out]; omega
      have HF := Lib.hid hfit
      have HDG := Lib.hid hdg
      have hbel := HR.out.pen.below
      by_cases hlt : i < l.length
      · have hwz := HR.out.hBw
        have hm1 : i + 1 ≤ maxLen := by unfold maxLen; omega
        have hm2 : (i + 1) * 64 ≤ 140737488355328 := by omega
        have HNX := Lib.hid (noteAt_succ ⟨false, false, on, false, 0, []⟩ l i hlt)
        have HTK := Lib.hid (List.take_succ_eq_append_getElem hlt)
        have PUSH := Lib.hid (fun (v' : Value) (w4 : World) (o : Obj) => NL.push HR.out hlt (v' := v') (w4 := w4) (o := o))
        rcases HROW.out with hn0 | ⟨g, o, rfl, hg, hat⟩
        · exfalso; have := congrArg List.length hn0; simp at this; subst this; simp at hlt
        have hc0 := (hbel.cell (p := ⟨g, o + i, none⟩) hg).trans (hat i (by simpa using hlt))
        rw [List.getElem_map] at hc0
        clear hat hfit hdg hout
        generalize l[i] = x at *
        have hil : (i : Int) < l.length := by omega
        have hi0 : (0 : Int) ≤ (i : Int) := by omega
        by_cases hx30 : x.size ≤ 30
        · have hba : w1.heap.size + 3 ≤ (wr.alloc (.cells #[.int .i64 10, .int .i64 0, .string x, .string ⟨#[]⟩, .string ⟨#[]⟩] 45)).heap.size := by simp; omega
          have HS2 : Hid (∀ y ∈ l.take (i + 1), y.size ≤ 30) := by
            rw [HTK.out]
            intro y hy
            rcases List.mem_append.1 hy with hy | hy
            · exact HS.out y hy
            · rw [List.mem_singleton.1 hy]; exact hx30
          cases on with
          | false =>
            obtain ⟨E, hE⟩ := ex_escE (⟨#[91, 94]⟩ ++ x ++ ⟨#[93]⟩)
            have hEs := esc_size hE
            have hbs : (⟨#[91, 94]⟩ ++ x ++ ⟨#[93]⟩ : ByteArray).size ≤ 40 := by rw [ba_size, ba_append, ba_append, List.length_append, List.length_append, ← ba_size x]; show 2 + x.size + 1 ≤ 40; omega
            have hstep : noteAt ⟨false, false, false, false, 0, []⟩ l (i + 1) = (noteAt ⟨false, false, false, false, 0, []⟩ l i).put E.data.toList := by
              rw [HNX.out, hE]; simp only [ba_append]; rfl
            have HE := Lib.hid hE
            have HST := Lib.hid hstep
            clear hE hstep
            go_wp2_with (first
              | (at_builtin; go_loud (refine wpList_append_any rfl (.tmp 41) (.tmp 44) 25 rfl (w1.heap.size + 3) 45 i0 (.agg #[.int .i64 0, .int .i64 0, .string ⟨#[]⟩, .string ⟨#[]⟩, .string ⟨#[]⟩]) 5 64 Tryz.underlying25 HI0.out.1 HI0.out.2.1 HI0.out.2.2.1 HI0.out.2.2.2 rfl (by decide) (.slice al i cl) i (((l.take i).map noteI).flatMap Inl.cells) rfl (HR.out.row.alloc _) (some ⟨wr.heap.size, 0, none⟩) 1 1 [.int .i64 10, .int .i64 0, .string x, .string ⟨#[]⟩, .string ⟨#[]⟩] rfl rfl (fun h => by cases h) (news_lit rfl _ _) (fun u hu => by simp at hu; rcases hu with rfl | rfl | rfl | rfl | rfl <;> rfl) hm1 hm2 hba ?_); intro v' w4 hown4 hgr4 _; have H4 := Lib.hid (PUSH.out v' w4 _ hown4 hgr4); clear hown4 hgr4)
              | (go_at_call 18; refine (Esc_lit (w0 := w4) HE.out.symm (by omega) (Below.refl _ _)).mono ?_; rintro e w5 ⟨rfl, hb5⟩; have HB5 := Lib.hid hb5; clear hb5))
            go_roundw
            case rel =>
              refine ⟨i + 1, X ++ E, by omega, by go_num, rfl, ?_, ?_, HS2⟩
              · show (X ++ E : ByteArray).data.toList = _
                rw [HST.out, ba_append, HX.out]; rfl
              · obtain ⟨p1, ⟨F, hN, hF⟩, r1, r2⟩ := H4.out
                have hNL : NL W false (w1.heap.size + 1) w1.heap.size (w1.heap.size + 2) (w1.heap.size + 3) l (i + 1) v' w4 := ⟨p1, ⟨F, by rw [HST.out]; exact hN, hF⟩, r1, HR.out.hB, HR.out.hn, r2, HR.out.hW⟩
                exact hNL.on HB5.out
            case measure => simp only [RowKit.intOf]; omega
          | true =>
            have hf1 : Fits (4999 - i + 1) (noteAt ⟨false, false, true, false, 0, []⟩ l i) := by
              have := HF.out; rwa [show 5000 - i = 4999 - i + 1 by omega] at this
            obtain ⟨-, n0, n1, t0, t1⟩ := hf1.ref (nm := x) (by omega)
            have hstep : noteAt ⟨false, false, true, false, 0, []⟩ l (i + 1) = (refS x (noteAt ⟨false, false, true, false, 0, []⟩ l i)).2.2.put (noteL (refS x (noteAt ⟨false, false, true, false, 0, []⟩ l i)).1 (refS x (noteAt ⟨false, false, true, false, 0, []⟩ l i)).2.1) := by rw [HNX.out]; rfl
            have hro := refS_out x (noteAt ⟨false, false, true, false, 0, []⟩ l i)
            have cR := Lib.hid (fun (w : World) (F : Nat → Prop) hN hB => refn_own (W := W) (F := F) (n2 := w1.heap.size + 2) (w := w) hN hB hf1 (nm := x) (by omega))
            generalize (refS x (noteAt ⟨false, false, true, false, 0, []⟩ l i)).1 = nn at *
            generalize (refS x (noteAt ⟨false, false, true, false, 0, []⟩ l i)).2.1 = tt at *
            generalize (refS x (noteAt ⟨false, false, true, false, 0, []⟩ l i)).2.2 = s' at *
            obtain ⟨B, hB⟩ : ∃ Y : ByteArray, Y.data.toList = backL nn tt := ⟨_, ba_mk _⟩
            obtain ⟨A, hA⟩ : ∃ Y : ByteArray, Y.data.toList = attrL [105, 100] (backL nn tt) := ⟨_, ba_mk _⟩
            obtain ⟨I, hI⟩ : ∃ Y : ByteArray, Y.data.toList = idL nn := ⟨_, ba_mk _⟩
            have hBs : B.size ≤ 60 := by
              have a := itoa_len nn (by omega) (by omega)
              have b := itoa_len tt (by omega) (by omega)
              rw [ba_size, hB]; unfold backL; simp; omega
            have hAs : A.size ≤ 1000 := by
              have a := attrL_length [105, 100] (backL nn tt)
              rw [← hB, ← ba_size] at a
              rw [ba_size, hA, ← hB]; simp at a; omega
            have hIs : I.size ≤ 60 := by
              have a := itoa_len nn (by omega) (by omega)
              rw [ba_size, hI]; unfold idL; simp; omega
            have hI3 : (3 : Int) ≤ I.size := by rw [ba_size, hI]; unfold idL; simp; omega
            have hD : (I.extract 3 I.size).data.toList = Lib.itoa nn := by rw [ba_extract, ba_size, List.take_length, hI]; rfl
            have hDs : (I.extract 3 I.size).size ≤ 60 := by simp; omega
            have hBA : attrL [105, 100] B.data.toList = A.data.toList := by rw [hB, hA]
            have HB := Lib.hid hB
            have HA := Lib.hid hA
            have HBA := Lib.hid hBA
            have HI := Lib.hid hI
            have HD := Lib.hid hD
            have HST := Lib.hid hstep
            have HRO := Lib.hid hro
            clear hB hA hI hD hstep hf1 hro hBA
            go_wp2_with (at_builtin; go_loud (refine wpList_append_any rfl (.tmp 41) (.tmp 44) 25 rfl (w1.heap.size + 3) 45 i0 (.agg #[.int .i64 0, .int .i64 0, .string ⟨#[]⟩, .string ⟨#[]⟩, .string ⟨#[]⟩]) 5 64 Tryz.underlying25 HI0.out.1 HI0.out.2.1 HI0.out.2.2.1 HI0.out.2.2.2 rfl (by decide) (.slice al i cl) i (((l.take i).map noteI).flatMap Inl.cells) rfl (HR.out.row.alloc _) (some ⟨wr.heap.size, 0, none⟩) 1 1 [.int .i64 10, .int .i64 0, .string x, .string ⟨#[]⟩, .string ⟨#[]⟩] rfl rfl (fun h => by cases h) (news_lit rfl _ _) (fun u hu => by simp at hu; rcases hu with rfl | rfl | rfl | rfl | rfl <;> rfl) hm1 hm2 hba ?_); intro v' w4 hown4 hgr4 _; have H4 := Lib.hid (PUSH.out v' w4 _ hown4 hgr4); clear hown4 hgr4)
            obtain ⟨p1, ⟨F, hN, hF⟩, r1, r2⟩ := H4.out
            have hap := hN.apart r1
            have cR4 := cR.out w4 F hN (Nat.le_trans (by have := HR.out.hW.1; omega) r2)
            have P4 := Lib.hid p1
            have HF4 := Lib.hid hF
            have R4 := Lib.hid r1
            have HAP := Lib.hid hap
            clear hN p1 hF r1 hap
            refine cR4.mono ?_
            rintro e w5 ⟨rfl, ⟨F', hN5, hF5⟩, hfr5⟩
            have H5 : Hid (NL W true (w1.heap.size + 1) w1.heap.size (w1.heap.size + 2) (w1.heap.size + 3) l (i + 1) v' w5) := by
              refine ⟨NL.asked P4.out hfr5 HF4.out HR.out.hn HR.out.hW.1, ⟨F', by rw [HST.out]; exact hN5, fun k hk => ?_⟩, row_kept R4.out (fun g hg => hfr5.block g (R4.out.lt g hg).2 (fun hg2 => HAP.out g hg2 hg)), HR.out.hB, HR.out.hn, Nat.le_trans r2 hfr5.size, HR.out.hW⟩
              rcases hF5 k hk with h | h
              · exact HF4.out k h
              · omega
            clear hN5 hF5 hfr5 cR4
            have T5 := hT.on H5.out.pen.below
            go_wp2_with (go_at_call 21; refine (id_from (w0 := w5) nn (by omega) (by omega) (Below.refl _ _) T5 HI.out).mono ?_; rintro e w6 ⟨rfl, hb6⟩)
            have H6 := Lib.hid (H5.out.on hb6)
            have T6 := Lib.hid (T5.on hb6)
            clear hb6 T5
            have cB : ∀ d os, Calls Tryz.prog 23 #[.int .i64 nn, .int .i64 tt] (Sort.grow (redrawn w6 d) os) fun e w'' => e = .returned (.string B) ∧ ∃ p : Regrown, w'' = Sort.grow (redrawn w6 p.d) p.os := fun d os => Calls.regrown_of (back_from (w0 := Sort.grow (redrawn w6 d) os) nn tt (by omega) (by omega) (by omega) (by omega) (Below.refl _ _) (T6.out.on (below_regrown w6 d os)) HB.out)
            have cA : ∀ d os, Calls Tryz.prog 22 #[.string ⟨#[105, 100]⟩, .string B] (Sort.grow (redrawn w6 d) os) fun e w'' => e = .returned (.string A) ∧ ∃ p : Regrown, w'' = Sort.grow (redrawn w6 p.d) p.os := fun d os => Calls.regrown_of (Attr_lit (w0 := Sort.grow (redrawn w6 d) os) (N := ⟨#[105, 100]⟩) HBA.out (by decide) (by omega) (Below.refl _ _))
            have g1 : ¬ 9223372036854775807 < 4 + A.size := by omega
            have g2 : ¬ 9223372036854775807 < 4 + A.size + 11 := by omega
            have g3 : ¬ 9223372036854775807 < 4 + A.size + 11 + I.size := by omega
            have g4 : ¬ 9223372036854775807 < 4 + A.size + 11 + I.size + 2 := by omega
            have g5 : ¬ 9223372036854775807 < 4 + A.size + 11 + I.size + 2 + (I.size - 3) := by omega
            have g6 : ¬ 9223372036854775807 < 4 + A.size + 11 + I.size + 2 + (I.size - 3) + 10 := by omega
            have g7 : ¬ 9223372036854775807 < X.size + (4 + A.size + 11 + I.size + 2 + (I.size - 3) + 10) := by omega
            refine wp_region_quiet_below (by kernel_rfl) (by kernel_rfl) ?_
            repeat (quiet_step (first | exact cB _ _ | exact cA _ _))
            refine wpQuiet_nil ?_
            intro _ hw'
            obtain ⟨⟨dq, osq⟩, hw''⟩ := hw'
            subst hw''
            have H7 := Lib.hid (H6.out.on (below_regrown w6 dq osq))
            go_wp2_with fail
            go_roundw
            case rel =>
              refine ⟨i + 1, _, by omega, by go_num, rfl, ?_, H7, HS2⟩
              refine Lib.hid ?_
              rw [HST.out]
              show _ = s'.out ++ noteL nn tt
              rw [HRO.out, ← HX.out]
              simp only [ba_append, HD.out, HA.out, HI.out]
              unfold noteL
              simp only [List.append_assoc]
            case measure => simp only [RowKit.intOf]; omega
        · have hx31 : (30 : Int) < x.size := by omega
          have HBEL := Lib.hid hbel
          go_wp2_with fail
          go_ret
          exact ⟨rfl, HBEL.out⟩
      · obtain rfl : i = l.length := by omega
        have hnn : ¬ ((l.length : Int) < l.length) := by omega
        have hr := HR.out.row
        rw [List.take_length] at hr
        have hvin : InlsIn wr (· = w1.heap.size) (.slice al l.length cl) (l.map noteI) := by
          have h9 := inls_row (Fn := (· = w1.heap.size)) (l := l.map noteI) (by rw [List.length_map]; exact hr) (fun g hg h => by have := (hr.lt g hg).1; have h : g = w1.heap.size := h; omega)
          exact h9
        have cI := inline_pen (X := X) HR.out.pen hT small_nil hvin (by
          intro y hy
          obtain ⟨z, hz, rfl⟩ := List.mem_map.1 hy
          have := HS.out z (by rw [List.take_length]; exact hz)
          exact ⟨by show z.size ≤ 100000; omega, by show (0 : Nat) ≤ 100000; omega, by show (0 : Nat) ≤ 100000; omega⟩) (fits_nil (by rw [List.length_map]; omega)) (by rw [List.length_map]; omega) (notes_fold _ l _) (by rw [HX.out]; unfold noteAt; rw [List.take_length])
        have HDG2 := Lib.hid (show (l.foldl (noteStep ⟨false, false, on, false, 0, []⟩) ⟨[], [], [], [], []⟩).dg = [] by
          have := HDG.out; unfold noteAt at this; rwa [List.take_length] at this)
        clear hr hvin hbel
        go_wp2_with fail
        refine cI.mono ?_
        rintro e w6 ⟨a6, c6, F6, rfl, P6, -, -⟩
        rw [HDG2.out]
        have HB6 := Lib.hid P6.below
        clear P6 cI
        go_wp2_with fail
        go_ret
        exact ⟨by first | rfl | exact ret_bool (by simp), HB6.out⟩
  · clear hrow
    go_enter Tryz.func6, Tryz.ntmps6
    go_wp2_with (go_at_call 14; refine (alive_any h0 hT).mono ?_; rintro e w1 ⟨rfl, hb1⟩)
    go_ret
    exact ⟨rfl, hb1⟩
end Go.Proofs.YtpabackkapgkpaaGreatDoor
