/- HtmlHeads: the walk. -/
import Derived.Test.YtpabackkapgkpaaGreatDoorLHeadsRow
import Derived.Test.YtpabackkapgkpaaGreatDoorLHeadsOpen
import Derived.Test.YtpabackkapgkpaaGreatDoorLNotesSt
import Derived.Laws.IdiomStrings
import Derived.RegionTactic
import Derived.Deep.QuietTactic
namespace Go.Proofs.YtpabackkapgkpaaGreatDoor
open Go.RowKit Go.Lib

theorem conv_one {b : UInt8} {z : Int} (hz : (b.toNat : Int) = z) (w : World) : (convert 62 9 (.slice (some ⟨w.heap.size, 0, none⟩) 1 1)).run Tryz.prog (w.alloc (.cells #[.int .u8 z] 5)) = .ok (.string ⟨#[b]⟩) (w.alloc (.cells #[.int .u8 z] 5)) := by
  have h := run_convert_bytes_back (P := Tryz.prog) (w.alloc (.cells #[.int .u8 z] 5)) 62 9 5 ⟨w.heap.size, 0, none⟩ 1 [b] Tryz.underlying62 Tryz.underlying5 Tryz.underlying9 (fun j hj => by
    have : j = 0 := by simpa using hj
    subst this
    have e : (⟨w.heap.size, 0, none⟩ : Addr).add 0 = ⟨w.heap.size, 0, none⟩ := by rw [Lib.add_plain]
    rw [e, Lib.cell_of_heap (heap_alloc_new w _)]
    show some (Value.int .u8 z) = _
    rw [← hz]; rfl)
  exact h
theorem rem_six (x : Int) : ∃ q r, x.tmod 6 = q ∧ -5 ≤ q ∧ q ≤ 5 ∧ (q + 6) % 6 = r ∧ 0 ≤ r ∧ r ≤ 5 := by
  have h : -5 ≤ x.tmod 6 ∧ x.tmod 6 ≤ 5 := by
    rcases Int.le_total 0 x with h | h
    · rw [Int.tmod_eq_emod_of_nonneg h]; omega
    · obtain ⟨y, rfl⟩ : ∃ y, x = -y := ⟨-x, by omega⟩
      rw [Int.neg_tmod, Int.tmod_eq_emod_of_nonneg (by omega)]; omega
  exact ⟨_, _, rfl, h.1, h.2, rfl, by omega, by omega⟩
theorem digit_one {r : Int} (h0 : 0 ≤ r) (h1 : r ≤ 5) : ∃ b : UInt8, (b.toNat : Int) = 48 + (1 + r) ∧ Lib.itoa (1 + r) = [b] := by
  have : r = 0 ∨ r = 1 ∨ r = 2 ∨ r = 3 ∨ r = 4 ∨ r = 5 := by omega
  rcases this with rfl | rfl | rfl | rfl | rfl | rfl
  · exact ⟨49, rfl, by rw [Lib.itoa]; simp [Lib.decDigits]⟩
  · exact ⟨50, rfl, by rw [Lib.itoa]; simp [Lib.decDigits]⟩
  · exact ⟨51, rfl, by rw [Lib.itoa]; simp [Lib.decDigits]⟩
  · exact ⟨52, rfl, by rw [Lib.itoa]; simp [Lib.decDigits]⟩
  · exact ⟨53, rfl, by rw [Lib.itoa]; simp [Lib.decDigits]⟩
  · exact ⟨54, rfl, by rw [Lib.itoa]; simp [Lib.decDigits]⟩

theorem head_str {c : Cfg} {ns : List Int} {i : Nat} {r : Int} {b : UInt8} {X Y : ByteArray} (hX : X.data.toList = headsOut c ns 0) (hl : ns.length = i) (hD : Lib.itoa (1 + r) = [b])
    (hY : Y.data.toList = X.data.toList ++ [60, 104, b] ++ attrL [105, 100] (headId c i) ++ [62] ++ headNo c i ++ [60, 47, 104, b, 62, 10]) : Y.data.toList = headsOut c (ns ++ [1 + r]) 0 := by
  rw [headsOut_snoc, ← hX, hY, hl, Nat.zero_add]
  unfold headOut signL
  rw [hD]
  simp
theorem head_size {c : Cfg} {i : Nat} {b : UInt8} {X Y : ByteArray} (hs : ∀ h : i < c.secs.length, (c.secs[i]).anchor.size + (c.secs[i]).number.size ≤ 60) (hXs : X.size ≤ 2000 * i)
    (hY : Y.data.toList = X.data.toList ++ [60, 104, b] ++ attrL [105, 100] (headId c i) ++ [62] ++ headNo c i ++ [60, 47, 104, b, 62, 10]) : Y.size ≤ 2000 * (i + 1) := by
  have a := attrL_length [105, 100] (headId c i)
  have h1 : (headId c i).length ≤ 62 := by
    rw [headId_eq]; split
    · next h => have := hs h; unfold headSec; rw [dif_pos h, List.length_append, ← ba_size]; simp; omega
    · simp
  have h2 : (headNo c i).length ≤ 100 := by
    rw [headNo_eq]
    by_cases h : i < c.secs.length
    · have := hs h
      unfold headSec; rw [dif_pos h]; split
      · simp only [List.length_append]; rw [← ba_size]; simp; omega
      · simp
    · split
      · next h9 => exact absurd (show (headSec c i).number.data.toList = [] by unfold headSec; rw [dif_neg h]; rfl) h9.2
      · simp
  rw [ba_size, hY]
  simp only [List.length_append, List.length_cons, List.length_nil] at a ⊢
  rw [← ba_size]
  omega

set_option maxHeartbeats 4000000 in
set_option maxRecDepth 100000 in
theorem heads_walk_true (v vS : Value) (W : World) (hT : Tabs W) (hv : ∃ l : List Int, RowIn W W.heap.size v (l.map (Value.int .i64)) ∧ ∀ n ∈ l, (Lit.int .i64 n).wf = true)
    (hs : ∃ a len cap, vS = .slice a len cap ∧ len ≤ 9223372036854775807 ∧ (len ≤ 100000 → ∃ l : List Sec, l.length = len ∧ SecsIn W W.heap.size vS l ∧ ∀ s ∈ l, s.Fits)) :
    Calls Tryz.prog 9 #[v, vS, .bool true] W fun e w' => e = .returned (.bool true) ∧ Below W.heap.size W w' := by
  have h0 := Below.refl W.heap.size W
  obtain ⟨l, ⟨a, cap, rfl, hc, hm, hrow⟩, hwf⟩ := hv
  obtain ⟨sa, slen, scap, rfl, hslen, hsec⟩ := hs
  rw [List.length_map] at hc ⊢
  by_cases h10 : l.length ≤ 10
  · by_cases hs10 : slen ≤ 10
    · obtain ⟨secs, rfl, hS, hSF⟩ := hsec (by omega)
      obtain ⟨i0, hi, hz0, hz1, hz2⟩ := info_parts info_blk
      have HI0 : Hid (Tryz.prog.info? 50 = some i0 ∧ i0.zero = some (.agg #[.int .i64 0, .int .i64 0, .int .i64 0, .bool false, .string ⟨#[]⟩, .string ⟨#[]⟩]) ∧ i0.size = 6 ∧ i0.bytes = 64) := ⟨hi, hz0, hz1, hz2⟩
      have HROW := Lib.hid hrow
      have HSEC := Lib.hid hS
      have HSF := Lib.hid hSF
      clear hi hz0 hz1 hz2 hrow hwf hS hSF hsec
      go_enter Tryz.func9, Tryz.ntmps9
      go_wp2_with fail
      refine (alive_any h0 hT).mono ?_
      rintro e w1 ⟨rfl, hb1⟩
      have R0 : Hid (HL W [] (.slice none 0 0) w1) := ⟨hb1, row_nil _ _ _ _⟩
      clear hb1
      go_wp2_with fail
      go_loopw [7, 8, 31] (fun vb vw vi wr => ∃ (i : Nat) (X : ByteArray) (ns : List Int), i ≤ l.length ∧ vi = .int .i64 i ∧ vw = .string X ∧ ns.length = i ∧ Hid (X.data.toList = headsOut ⟨true, false, false, false, 0, secs⟩ ns 0) ∧ Hid (HL W ns vb wr) ∧ Hid (∀ n ∈ ns, 1 ≤ n ∧ n ≤ 6) ∧ Hid (∀ k (h : k < secs.length), k < i → (secs[k]).anchor.size + (secs[k]).number.size ≤ 60) ∧ X.size ≤ 2000 * i) (fun _ _ vi _ => l.length - (RowKit.intOf vi).toNat)
      case atStart => exact ⟨0, ⟨#[]⟩, [], Nat.zero_le _, rfl, rfl, rfl, rfl, R0, Lib.hid (fun n hn => (by cases hn)), Lib.hid (fun k h hk => absurd hk (Nat.not_lt_zero _)), by show (0 : Nat) ≤ _; omega⟩
      case round =>
        clear R0
        obtain ⟨i, X, ns, hi, rfl, rfl, hnsl, HX, HR, HN, HSZ, hXs⟩ := hrel
        obtain ⟨ab, cb, hvb⟩ := row_slice HR.out.rb
        subst hvb
        replace hnsl := Lib.hid hnsl
        by_cases hlt : i < l.length
        · have hm1 : ns.length + 1 ≤ maxLen := by rw [hnsl.out]; unfold maxLen; omega
          have hm2 : (ns.length + 1) * 64 ≤ 140737488355328 := by rw [hnsl.out]; omega
          rcases HROW.out with hn0 | ⟨g, o, rfl, hg, hat⟩
          · exfalso; have := congrArg List.length hn0; simp at this; subst this; simp at hlt
          have hc0 := (HR.out.below.cell (p := ⟨g, o + i, none⟩) hg).trans (hat i (by simpa using hlt))
          rw [List.getElem_map] at hc0
          clear hat
          generalize l[i] = x at *
          have hil : (i : Int) < l.length := by omega
          have hi0 : (0 : Int) ≤ (i : Int) := by omega
          obtain ⟨q, r, hq, hq1, hq2, hr, hr1, hr2⟩ := rem_six x
          obtain ⟨b, hb, hdg⟩ := digit_one hr1 hr2
          have kcv := conv_one hb
          have hu8 : IntKind.u8.wrap (48 + (1 + r)) = 48 + (1 + r) := IntWalk.u8_in _ (by omega)
          have HDG := Lib.hid hdg
          have hba : W.heap.size ≤ (wr.alloc (.cells #[.int .i64 2, .int .i64 0, .int .i64 (1 + r), .bool false, .string ⟨#[]⟩, .string ⟨#[]⟩] 50)).heap.size := by have := HR.out.below.size; simp; omega
          have PUSH := Lib.hid (fun (v4 : Value) (w4 : World) (o1 : Obj) => HL.push HR.out (n := 1 + r) (v' := v4) (w4 := w4) (o := o1))
          clear hb hdg
          by_cases hsl : i < secs.length
          · obtain ⟨a9, c9, hv9, -, -, -, hsat⟩ := HSEC.out
            simp only [Value.slice.injEq] at hv9
            obtain ⟨rfl, -, rfl⟩ := hv9
            rcases hsat with h9 | ⟨g2, o2, rfl, hg2, hsat⟩
            · rw [h9] at hsl; simp at hsl
            have hsa := hsat i hsl
            have hsf := HSF.out secs[i] (List.getElem_mem hsl)
            have hid := headId_eq ⟨true, false, false, false, 0, secs⟩ i
            have hno := headNo_eq ⟨true, false, false, false, 0, secs⟩ i
            rw [if_pos hsl] at hid
            have hsec : headSec ⟨true, false, false, false, 0, secs⟩ i = secs[i] := by unfold headSec; rw [dif_pos hsl]
            rw [hsec] at hid hno
            have HS60 : Hid ((secs[i]).anchor.size + (secs[i]).number.size ≤ 60 → ∀ h : i < (Cfg.mk true false false false 0 secs).secs.length, ((Cfg.mk true false false false 0 secs).secs[i]).anchor.size + ((Cfg.mk true false false false 0 secs).secs[i]).number.size ≤ 60) := fun h _ => h
            have CS := Lib.hid (fun (w' : World) (hb : Below W.heap.size W w') => (show w'.cell? ⟨g2, o2 + i * 4 + 1, none⟩ = some (.string (secs[i]).number) ∧ w'.cell? ⟨g2, o2 + i * 4 + 2, none⟩ = some (.string (secs[i]).anchor) from ⟨(hb.cell (p := ⟨g2, _, none⟩) hg2).trans hsa.c1, (hb.cell (p := ⟨g2, _, none⟩) hg2).trans hsa.c2⟩))
            obtain ⟨hf1, hf2, -⟩ := hsf
            clear hsec hsat hsa
            generalize secs[i] = sec at *
            obtain ⟨lv, no, an, tx⟩ := sec
            simp only at hid hno hf1 hf2 CS HS60
            unfold reachBytes at hf1 hf2
            have hsi : (i : Int) < secs.length := by omega
            have w9 : IntKind.i64.wrap ((an.size : Int) + no.size) = (an.size : Int) + no.size := IntWalk.i64_in _ (by omega)
            have HB4 := Lib.hid (fun (w' : World) (h : HL W (ns ++ [1 + r]) (.slice none 0 0) w') => h)
            clear HB4
            go_wp2_with (at_builtin; refine wpList_append_any rfl (.tmp 41) (.tmp 44) 51 rfl W.heap.size 50 i0 (.agg #[.int .i64 0, .int .i64 0, .int .i64 0, .bool false, .string ⟨#[]⟩, .string ⟨#[]⟩]) 6 64 Tryz.underlying51 HI0.out.1 HI0.out.2.1 HI0.out.2.2.1 HI0.out.2.2.2 rfl (by decide) (.slice ab ns.length cb) ns.length ((ns.map headB).flatMap Blk.cells) rfl (HR.out.rb.alloc _) (some ⟨wr.heap.size, 0, none⟩) 1 1 [.int .i64 2, .int .i64 0, .int .i64 (1 + r), .bool false, .string ⟨#[]⟩, .string ⟨#[]⟩] rfl rfl (fun h => by cases h) (news_lit rfl _ _) (fun u hu => by simp only [List.mem_cons, List.not_mem_nil, or_false] at hu; rcases hu with rfl | rfl | rfl | rfl | rfl | rfl <;> rfl) hm1 hm2 hba ?_; intro v4 w4 hown4 hgr4 _; have H4 := Lib.hid (PUSH.out v4 w4 _ hown4 hgr4); clear hown4 hgr4)
            have hb5 := (Below.refl w4.heap.size w4).alloc (Nat.le_refl _) (.cells #[.int .u8 (48 + (1 + r))] 5)
            have H5 := Lib.hid (H4.out.on hb5)
            obtain ⟨c1, c2⟩ := CS.out _ H4.out.below
            have hg4 : g2 < w4.heap.size := by have := H4.out.below.size; omega
            have hg5 : ¬ g2 = w4.heap.size := by omega
            clear hb5
            by_cases h60 : an.size + no.size ≤ 60
            · have d8 : decide (60 < an.size + no.size) = false := by simp; omega
              have d9 : decide ((60 : Int) < (an.size : Int) + no.size) = false := by simp; omega
              have HS60 := Lib.hid (HS60.out h60)
              obtain ⟨A, hA⟩ : ∃ Y : ByteArray, Y.data.toList = attrL [105, 100] (headId ⟨true, false, false, false, 0, secs⟩ i) := ⟨_, ba_mk _⟩
              have hAs : A.size ≤ 1000 := by
                have a := attrL_length [105, 100] (headId ⟨true, false, false, false, 0, secs⟩ i)
                rw [ba_size, hA]
                rw [hid] at a ⊢
                simp only [List.length_append, List.length_cons, List.length_nil] at a
                rw [← ba_size] at a
                omega
              have hIs : (⟨#[115, 45]⟩ ++ an : ByteArray).size ≤ 70 := by rw [ba_size, ba_append, List.length_append, ← ba_size an]; show 2 + an.size ≤ 70; omega
              have HIs := Lib.hid hIs
              have HAt := Lib.hid (show attrL [105, 100] (⟨#[115, 45]⟩ ++ an : ByteArray).data.toList = A.data.toList by rw [hA, hid, ba_append])
              have HID := Lib.hid hA.symm
              have cA := Lib.hid (fun (w' : World) => (Attr_lit (N := ⟨#[105, 100]⟩) HAt.out (by decide) (Nat.le_trans HIs.out (by decide)) (Below.refl w'.heap.size w')))
              clear hA hIs hid
              go_quiet (fail)
              go_wp2_with fail
              refine (cA.out _).mono ?_
              rintro e w6 ⟨rfl, hb6⟩
              have H9 := Lib.hid ((HL.on H5.out (bel_drewN (Below.refl _ _) nq)).on hb6)
              clear c1 c2 hb6 hg4 hg5
              obtain ⟨c1, c2⟩ := CS.out _ H9.out.below
              cases hem : no.toList.isEmpty with
              | true =>
                have HNO := Lib.hid (show headNo ⟨true, false, false, false, 0, secs⟩ i = [] by
                  rw [hno, if_neg]
                  rintro ⟨-, h⟩
                  rw [Lib.toList_data, List.isEmpty_iff] at hem
                  exact h hem)
                clear hno
                go_wp2_with fail
                have hY : (X ++ (⟨#[60, 104]⟩ ++ ⟨#[b]⟩) ++ A ++ ⟨#[62]⟩ ++ (⟨#[60, 47, 104]⟩ ++ ⟨#[b]⟩ ++ ⟨#[62, 10]⟩) : ByteArray).data.toList = X.data.toList ++ [60, 104, b] ++ attrL [105, 100] (headId ⟨true, false, false, false, 0, secs⟩ i) ++ [62] ++ headNo ⟨true, false, false, false, 0, secs⟩ i ++ [60, 47, 104, b, 62, 10] := by
                  rw [HID.out, HNO.out]
                  simp only [ba_append]
                  simp [List.append_assoc]
                have HY := Lib.hid hY
                clear hY
                go_roundw
                case rel =>
                  refine ⟨i + 1, _, ns ++ [1 + r], by omega, by go_num, rfl, by rw [List.length_append, hnsl.out]; rfl, Lib.hid (head_str HX.out hnsl.out HDG.out HY.out), Lib.hid H9.out, Lib.hid (fun n hn => ?_), Lib.hid (fun k h hk => ?_), head_size HS60.out hXs HY.out⟩
                  · rcases List.mem_append.1 hn with hn | hn
                    · exact HN.out n hn
                    · rw [List.mem_singleton.1 hn]; omega
                  · by_cases e : k = i
                    · subst e; exact HS60.out h
                    · exact HSZ.out k h (by omega)
                case measure => simp only [RowKit.intOf]; omega
              | false =>
                have HNO := Lib.hid (show headNo ⟨true, false, false, false, 0, secs⟩ i = [60, 115, 112, 97, 110, 32, 99, 108, 97, 115, 115, 61, 34, 110, 34, 62] ++ no.data.toList ++ [60, 47, 115, 112, 97, 110, 62, 32] by
                  rw [hno, if_pos]
                  refine ⟨trivial, fun h => ?_⟩
                  rw [Lib.toList_data, h] at hem
                  cases hem)
                clear hno
                go_wp2_with fail
                have hY : (X ++ (⟨#[60, 104]⟩ ++ ⟨#[b]⟩) ++ A ++ ⟨#[62]⟩ ++ (⟨#[60, 115, 112, 97, 110, 32, 99, 108, 97, 115, 115, 61, 34, 110, 34, 62]⟩ ++ no ++ ⟨#[60, 47, 115, 112, 97, 110, 62, 32]⟩) ++ (⟨#[60, 47, 104]⟩ ++ ⟨#[b]⟩ ++ ⟨#[62, 10]⟩) : ByteArray).data.toList = X.data.toList ++ [60, 104, b] ++ attrL [105, 100] (headId ⟨true, false, false, false, 0, secs⟩ i) ++ [62] ++ headNo ⟨true, false, false, false, 0, secs⟩ i ++ [60, 47, 104, b, 62, 10] := by
                  rw [HID.out, HNO.out]
                  simp only [ba_append]
                  simp [List.append_assoc]
                have HY := Lib.hid hY
                clear hY
                go_roundw
                case rel =>
                  refine ⟨i + 1, _, ns ++ [1 + r], by omega, by go_num, rfl, by rw [List.length_append, hnsl.out]; rfl, Lib.hid (head_str HX.out hnsl.out HDG.out HY.out), Lib.hid H9.out, Lib.hid (fun n hn => ?_), Lib.hid (fun k h hk => ?_), head_size HS60.out hXs HY.out⟩
                  · rcases List.mem_append.1 hn with hn | hn
                    · exact HN.out n hn
                    · rw [List.mem_singleton.1 hn]; omega
                  · by_cases e : k = i
                    · subst e; exact HS60.out h
                    · exact HSZ.out k h (by omega)
                case measure => simp only [RowKit.intOf]; omega
            · have d8 : decide (60 < an.size + no.size) = true := by simp; omega
              have d9 : decide ((60 : Int) < (an.size : Int) + no.size) = true := by simp; omega
              go_quiet (fail)
              go_wp2_with fail
              go_ret
              exact ⟨rfl, bel_drewN H5.out.below _⟩
          · have hid := headId_eq ⟨true, false, false, false, 0, secs⟩ i
            have hno := headNo_eq ⟨true, false, false, false, 0, secs⟩ i
            rw [if_neg hsl] at hid
            have hsec : headSec ⟨true, false, false, false, 0, secs⟩ i = Sec.zero := by unfold headSec; rw [dif_neg hsl]
            rw [hsec, if_neg (by rintro ⟨-, h⟩; exact h rfl)] at hno
            have HID := Lib.hid (show attrL [105, 100] (headId ⟨true, false, false, false, 0, secs⟩ i) = [] by rw [hid]; rfl)
            have HNO := Lib.hid hno
            have HS60 : Hid (∀ h : i < (Cfg.mk true false false false 0 secs).secs.length, ((Cfg.mk true false false false 0 secs).secs[i]).anchor.size + ((Cfg.mk true false false false 0 secs).secs[i]).number.size ≤ 60) := fun h => absurd h hsl
            clear hid hno hsec
            go_wp2_with (at_builtin; refine wpList_append_any rfl (.tmp 41) (.tmp 44) 51 rfl W.heap.size 50 i0 (.agg #[.int .i64 0, .int .i64 0, .int .i64 0, .bool false, .string ⟨#[]⟩, .string ⟨#[]⟩]) 6 64 Tryz.underlying51 HI0.out.1 HI0.out.2.1 HI0.out.2.2.1 HI0.out.2.2.2 rfl (by decide) (.slice ab ns.length cb) ns.length ((ns.map headB).flatMap Blk.cells) rfl (HR.out.rb.alloc _) (some ⟨wr.heap.size, 0, none⟩) 1 1 [.int .i64 2, .int .i64 0, .int .i64 (1 + r), .bool false, .string ⟨#[]⟩, .string ⟨#[]⟩] rfl rfl (fun h => by cases h) (news_lit rfl _ _) (fun u hu => by simp only [List.mem_cons, List.not_mem_nil, or_false] at hu; rcases hu with rfl | rfl | rfl | rfl | rfl | rfl <;> rfl) hm1 hm2 hba ?_; intro v4 w4 hown4 hgr4 _; have H4 := Lib.hid (PUSH.out v4 w4 _ hown4 hgr4); clear hown4 hgr4)
            have H9 := Lib.hid (H4.out.on ((Below.refl w4.heap.size w4).alloc (Nat.le_refl _) (.cells #[.int .u8 (48 + (1 + r))] 5)))
            have hY : (X ++ (⟨#[60, 104]⟩ ++ ⟨#[b]⟩) ++ ⟨#[62]⟩ ++ (⟨#[60, 47, 104]⟩ ++ ⟨#[b]⟩ ++ ⟨#[62, 10]⟩) : ByteArray).data.toList = X.data.toList ++ [60, 104, b] ++ attrL [105, 100] (headId ⟨true, false, false, false, 0, secs⟩ i) ++ [62] ++ headNo ⟨true, false, false, false, 0, secs⟩ i ++ [60, 47, 104, b, 62, 10] := by
              rw [HID.out, HNO.out]
              simp only [ba_append]
              simp [List.append_assoc]
            have HY := Lib.hid hY
            clear hY
            go_roundw
            case rel =>
              refine ⟨i + 1, _, ns ++ [1 + r], by omega, by go_num, rfl, by rw [List.length_append, hnsl.out]; rfl, Lib.hid (head_str HX.out hnsl.out HDG.out HY.out), Lib.hid H9.out, Lib.hid (fun n hn => ?_), Lib.hid (fun k h hk => ?_), head_size HS60.out hXs HY.out⟩
              · rcases List.mem_append.1 hn with hn | hn
                · exact HN.out n hn
                · rw [List.mem_singleton.1 hn]; omega
              · by_cases e : k = i
                · subst e; exact HS60.out h
                · exact HSZ.out k h (by omega)
            case measure => simp only [RowKit.intOf]; omega
        · obtain rfl : i = l.length := by omega
          have hnn : ¬ ((l.length : Int) < l.length) := by omega
          have cB := heads_blocks HR.out hT (by rw [hnsl.out]; exact h10) HN.out (num := true) ((HSEC.out.below HR.out.below).mono HR.out.below.size) (fun k h hk => HSZ.out k h (by rw [← hnsl.out]; exact hk)) (X := X) HX.out
          have HNL := hnsl
          go_wp2_with fail
          refine cB.mono ?_
          rintro e w6 ⟨a6, c6, rfl, hb6⟩
          have HB6 := Lib.hid hb6
          clear cB hb6
          go_wp2_with fail
          go_ret
          exact ⟨by first | rfl | exact ret_bool (by simp), HB6.out⟩
    · clear hsec
      go_enter Tryz.func9, Tryz.ntmps9
      go_wp2_with (go_at_call 14; refine (alive_any h0 hT).mono ?_; rintro e w1 ⟨rfl, hb1⟩)
      go_ret
      exact ⟨rfl, hb1⟩
  · clear hsec
    go_enter Tryz.func9, Tryz.ntmps9
    go_wp2_with (go_at_call 14; refine (alive_any h0 hT).mono ?_; rintro e w1 ⟨rfl, hb1⟩)
    go_ret
    exact ⟨rfl, hb1⟩
set_option maxHeartbeats 4000000 in
set_option maxRecDepth 100000 in
theorem heads_walk_false (v vS : Value) (W : World) (hT : Tabs W) (hv : ∃ l : List Int, RowIn W W.heap.size v (l.map (Value.int .i64)) ∧ ∀ n ∈ l, (Lit.int .i64 n).wf = true)
    (hs : ∃ a len cap, vS = .slice a len cap ∧ len ≤ 9223372036854775807 ∧ (len ≤ 100000 → ∃ l : List Sec, l.length = len ∧ SecsIn W W.heap.size vS l ∧ ∀ s ∈ l, s.Fits)) :
    Calls Tryz.prog 9 #[v, vS, .bool false] W fun e w' => e = .returned (.bool true) ∧ Below W.heap.size W w' := by
  have h0 := Below.refl W.heap.size W
  obtain ⟨l, ⟨a, cap, rfl, hc, hm, hrow⟩, hwf⟩ := hv
  obtain ⟨sa, slen, scap, rfl, hslen, hsec⟩ := hs
  rw [List.length_map] at hc ⊢
  by_cases h10 : l.length ≤ 10
  · by_cases hs10 : slen ≤ 10
    · obtain ⟨secs, rfl, hS, hSF⟩ := hsec (by omega)
      obtain ⟨i0, hi, hz0, hz1, hz2⟩ := info_parts info_blk
      have HI0 : Hid (Tryz.prog.info? 50 = some i0 ∧ i0.zero = some (.agg #[.int .i64 0, .int .i64 0, .int .i64 0, .bool false, .string ⟨#[]⟩, .string ⟨#[]⟩]) ∧ i0.size = 6 ∧ i0.bytes = 64) := ⟨hi, hz0, hz1, hz2⟩
      have HROW := Lib.hid hrow
      have HSEC := Lib.hid hS
      have HSF := Lib.hid hSF
      clear hi hz0 hz1 hz2 hrow hwf hS hSF hsec
      go_enter Tryz.func9, Tryz.ntmps9
      go_wp2_with fail
      refine (alive_any h0 hT).mono ?_
      rintro e w1 ⟨rfl, hb1⟩
      have R0 : Hid (HL W [] (.slice none 0 0) w1) := ⟨hb1, row_nil _ _ _ _⟩
      clear hb1
      go_wp2_with fail
      go_loopw [7, 8, 31] (fun vb vw vi wr => ∃ (i : Nat) (X : ByteArray) (ns : List Int), i ≤ l.length ∧ vi = .int .i64 i ∧ vw = .string X ∧ ns.length = i ∧ Hid (X.data.toList = headsOut ⟨false, false, false, false, 0, secs⟩ ns 0) ∧ Hid (HL W ns vb wr) ∧ Hid (∀ n ∈ ns, 1 ≤ n ∧ n ≤ 6) ∧ Hid (∀ k (h : k < secs.length), k < i → (secs[k]).anchor.size + (secs[k]).number.size ≤ 60) ∧ X.size ≤ 2000 * i) (fun _ _ vi _ => l.length - (RowKit.intOf vi).toNat)
      case atStart => exact ⟨0, ⟨#[]⟩, [], Nat.zero_le _, rfl, rfl, rfl, rfl, R0, Lib.hid (fun n hn => (by cases hn)), Lib.hid (fun k h hk => absurd hk (Nat.not_lt_zero _)), by show (0 : Nat) ≤ _; omega⟩
      case round =>
        clear R0
        obtain ⟨i, X, ns, hi, rfl, rfl, hnsl, HX, HR, HN, HSZ, hXs⟩ := hrel
        obtain ⟨ab, cb, hvb⟩ := row_slice HR.out.rb
        subst hvb
        replace hnsl := Lib.hid hnsl
        by_cases hlt : i < l.length
        · have hm1 : ns.length + 1 ≤ maxLen := by rw [hnsl.out]; unfold maxLen; omega
          have hm2 : (ns.length + 1) * 64 ≤ 140737488355328 := by rw [hnsl.out]; omega
          rcases HROW.out with hn0 | ⟨g, o, rfl, hg, hat⟩
          · exfalso; have := congrArg List.length hn0; simp at this; subst this; simp at hlt
          have hc0 := (HR.out.below.cell (p := ⟨g, o + i, none⟩) hg).trans (hat i (by simpa using hlt))
          rw [List.getElem_map] at hc0
          clear hat
          generalize l[i] = x at *
          have hil : (i : Int) < l.length := by omega
          have hi0 : (0 : Int) ≤ (i : Int) := by omega
          obtain ⟨q, r, hq, hq1, hq2, hr, hr1, hr2⟩ := rem_six x
          obtain ⟨b, hb, hdg⟩ := digit_one hr1 hr2
          have kcv := conv_one hb
          have hu8 : IntKind.u8.wrap (48 + (1 + r)) = 48 + (1 + r) := IntWalk.u8_in _ (by omega)
          have HDG := Lib.hid hdg
          have hba : W.heap.size ≤ (wr.alloc (.cells #[.int .i64 2, .int .i64 0, .int .i64 (1 + r), .bool false, .string ⟨#[]⟩, .string ⟨#[]⟩] 50)).heap.size := by have := HR.out.below.size; simp; omega
          have PUSH := Lib.hid (fun (v4 : Value) (w4 : World) (o1 : Obj) => HL.push HR.out (n := 1 + r) (v' := v4) (w4 := w4) (o := o1))
          clear hb hdg
          by_cases hsl : i < secs.length
          · obtain ⟨a9, c9, hv9, -, -, -, hsat⟩ := HSEC.out
            simp only [Value.slice.injEq] at hv9
            obtain ⟨rfl, -, rfl⟩ := hv9
            rcases hsat with h9 | ⟨g2, o2, rfl, hg2, hsat⟩
            · rw [h9] at hsl; simp at hsl
            have hsa := hsat i hsl
            have hsf := HSF.out secs[i] (List.getElem_mem hsl)
            have hid := headId_eq ⟨false, false, false, false, 0, secs⟩ i
            have hno := headNo_eq ⟨false, false, false, false, 0, secs⟩ i
            rw [if_pos hsl] at hid
            have hsec : headSec ⟨false, false, false, false, 0, secs⟩ i = secs[i] := by unfold headSec; rw [dif_pos hsl]
            rw [hsec] at hid hno
            have HS60 : Hid ((secs[i]).anchor.size + (secs[i]).number.size ≤ 60 → ∀ h : i < (Cfg.mk false false false false 0 secs).secs.length, ((Cfg.mk false false false false 0 secs).secs[i]).anchor.size + ((Cfg.mk false false false false 0 secs).secs[i]).number.size ≤ 60) := fun h _ => h
            have CS := Lib.hid (fun (w' : World) (hb : Below W.heap.size W w') => (show w'.cell? ⟨g2, o2 + i * 4 + 1, none⟩ = some (.string (secs[i]).number) ∧ w'.cell? ⟨g2, o2 + i * 4 + 2, none⟩ = some (.string (secs[i]).anchor) from ⟨(hb.cell (p := ⟨g2, _, none⟩) hg2).trans hsa.c1, (hb.cell (p := ⟨g2, _, none⟩) hg2).trans hsa.c2⟩))
            obtain ⟨hf1, hf2, -⟩ := hsf
            clear hsec hsat hsa
            generalize secs[i] = sec at *
            obtain ⟨lv, no, an, tx⟩ := sec
            simp only at hid hno hf1 hf2 CS HS60
            unfold reachBytes at hf1 hf2
            have hsi : (i : Int) < secs.length := by omega
            have w9 : IntKind.i64.wrap ((an.size : Int) + no.size) = (an.size : Int) + no.size := IntWalk.i64_in _ (by omega)
            have HB4 := Lib.hid (fun (w' : World) (h : HL W (ns ++ [1 + r]) (.slice none 0 0) w') => h)
            clear HB4
            go_wp2_with (at_builtin; refine wpList_append_any rfl (.tmp 41) (.tmp 44) 51 rfl W.heap.size 50 i0 (.agg #[.int .i64 0, .int .i64 0, .int .i64 0, .bool false, .string ⟨#[]⟩, .string ⟨#[]⟩]) 6 64 Tryz.underlying51 HI0.out.1 HI0.out.2.1 HI0.out.2.2.1 HI0.out.2.2.2 rfl (by decide) (.slice ab ns.length cb) ns.length ((ns.map headB).flatMap Blk.cells) rfl (HR.out.rb.alloc _) (some ⟨wr.heap.size, 0, none⟩) 1 1 [.int .i64 2, .int .i64 0, .int .i64 (1 + r), .bool false, .string ⟨#[]⟩, .string ⟨#[]⟩] rfl rfl (fun h => by cases h) (news_lit rfl _ _) (fun u hu => by simp only [List.mem_cons, List.not_mem_nil, or_false] at hu; rcases hu with rfl | rfl | rfl | rfl | rfl | rfl <;> rfl) hm1 hm2 hba ?_; intro v4 w4 hown4 hgr4 _; have H4 := Lib.hid (PUSH.out v4 w4 _ hown4 hgr4); clear hown4 hgr4)
            have hb5 := (Below.refl w4.heap.size w4).alloc (Nat.le_refl _) (.cells #[.int .u8 (48 + (1 + r))] 5)
            have H5 := Lib.hid (H4.out.on hb5)
            obtain ⟨c1, c2⟩ := CS.out _ H4.out.below
            have hg4 : g2 < w4.heap.size := by have := H4.out.below.size; omega
            have hg5 : ¬ g2 = w4.heap.size := by omega
            clear hb5
            by_cases h60 : an.size + no.size ≤ 60
            · have d8 : decide (60 < an.size + no.size) = false := by simp; omega
              have d9 : decide ((60 : Int) < (an.size : Int) + no.size) = false := by simp; omega
              have HS60 := Lib.hid (HS60.out h60)
              obtain ⟨A, hA⟩ : ∃ Y : ByteArray, Y.data.toList = attrL [105, 100] (headId ⟨false, false, false, false, 0, secs⟩ i) := ⟨_, ba_mk _⟩
              have hAs : A.size ≤ 1000 := by
                have a := attrL_length [105, 100] (headId ⟨false, false, false, false, 0, secs⟩ i)
                rw [ba_size, hA]
                rw [hid] at a ⊢
                simp only [List.length_append, List.length_cons, List.length_nil] at a
                rw [← ba_size] at a
                omega
              have hIs : (⟨#[115, 45]⟩ ++ an : ByteArray).size ≤ 70 := by rw [ba_size, ba_append, List.length_append, ← ba_size an]; show 2 + an.size ≤ 70; omega
              have HIs := Lib.hid hIs
              have HAt := Lib.hid (show attrL [105, 100] (⟨#[115, 45]⟩ ++ an : ByteArray).data.toList = A.data.toList by rw [hA, hid, ba_append])
              have HID := Lib.hid hA.symm
              have cA := Lib.hid (fun (w' : World) => (Attr_lit (N := ⟨#[105, 100]⟩) HAt.out (by decide) (Nat.le_trans HIs.out (by decide)) (Below.refl w'.heap.size w')))
              clear hA hIs hid
              go_quiet (fail)
              go_wp2_with fail
              refine (cA.out _).mono ?_
              rintro e w6 ⟨rfl, hb6⟩
              have H9 := Lib.hid ((HL.on H5.out (bel_drewN (Below.refl _ _) nq)).on hb6)
              clear c1 c2 hb6 hg4 hg5
              obtain ⟨c1, c2⟩ := CS.out _ H9.out.below
              have HNO := Lib.hid (show headNo ⟨false, false, false, false, 0, secs⟩ i = [] by
                rw [hno, if_neg]
                rintro ⟨h, -⟩
                have h : false = true := h
                cases h)
              clear hno
              go_wp2_with fail
              have hY : (X ++ (⟨#[60, 104]⟩ ++ ⟨#[b]⟩) ++ A ++ ⟨#[62]⟩ ++ (⟨#[60, 47, 104]⟩ ++ ⟨#[b]⟩ ++ ⟨#[62, 10]⟩) : ByteArray).data.toList = X.data.toList ++ [60, 104, b] ++ attrL [105, 100] (headId ⟨false, false, false, false, 0, secs⟩ i) ++ [62] ++ headNo ⟨false, false, false, false, 0, secs⟩ i ++ [60, 47, 104, b, 62, 10] := by
                rw [HID.out, HNO.out]
                simp only [ba_append]
                simp [List.append_assoc]
              have HY := Lib.hid hY
              clear hY
              go_roundw
              case rel =>
                refine ⟨i + 1, _, ns ++ [1 + r], by omega, by go_num, rfl, by rw [List.length_append, hnsl.out]; rfl, Lib.hid (head_str HX.out hnsl.out HDG.out HY.out), Lib.hid H9.out, Lib.hid (fun n hn => ?_), Lib.hid (fun k h hk => ?_), head_size HS60.out hXs HY.out⟩
                · rcases List.mem_append.1 hn with hn | hn
                  · exact HN.out n hn
                  · rw [List.mem_singleton.1 hn]; omega
                · by_cases e : k = i
                  · subst e; exact HS60.out h
                  · exact HSZ.out k h (by omega)
              case measure => simp only [RowKit.intOf]; omega
            · have d8 : decide (60 < an.size + no.size) = true := by simp; omega
              have d9 : decide ((60 : Int) < (an.size : Int) + no.size) = true := by simp; omega
              go_quiet (fail)
              go_wp2_with fail
              go_ret
              exact ⟨rfl, bel_drewN H5.out.below _⟩
          · have hid := headId_eq ⟨false, false, false, false, 0, secs⟩ i
            have hno := headNo_eq ⟨false, false, false, false, 0, secs⟩ i
            rw [if_neg hsl] at hid
            have hsec : headSec ⟨false, false, false, false, 0, secs⟩ i = Sec.zero := by unfold headSec; rw [dif_neg hsl]
            rw [hsec, if_neg (by rintro ⟨-, h⟩; exact h rfl)] at hno
            have HID := Lib.hid (show attrL [105, 100] (headId ⟨false, false, false, false, 0, secs⟩ i) = [] by rw [hid]; rfl)
            have HNO := Lib.hid hno
            have HS60 : Hid (∀ h : i < (Cfg.mk false false false false 0 secs).secs.length, ((Cfg.mk false false false false 0 secs).secs[i]).anchor.size + ((Cfg.mk false false false false 0 secs).secs[i]).number.size ≤ 60) := fun h => absurd h hsl
            clear hid hno hsec
            go_wp2_with (at_builtin; refine wpList_append_any rfl (.tmp 41) (.tmp 44) 51 rfl W.heap.size 50 i0 (.agg #[.int .i64 0, .int .i64 0, .int .i64 0, .bool false, .string ⟨#[]⟩, .string ⟨#[]⟩]) 6 64 Tryz.underlying51 HI0.out.1 HI0.out.2.1 HI0.out.2.2.1 HI0.out.2.2.2 rfl (by decide) (.slice ab ns.length cb) ns.length ((ns.map headB).flatMap Blk.cells) rfl (HR.out.rb.alloc _) (some ⟨wr.heap.size, 0, none⟩) 1 1 [.int .i64 2, .int .i64 0, .int .i64 (1 + r), .bool false, .string ⟨#[]⟩, .string ⟨#[]⟩] rfl rfl (fun h => by cases h) (news_lit rfl _ _) (fun u hu => by simp only [List.mem_cons, List.not_mem_nil, or_false] at hu; rcases hu with rfl | rfl | rfl | rfl | rfl | rfl <;> rfl) hm1 hm2 hba ?_; intro v4 w4 hown4 hgr4 _; have H4 := Lib.hid (PUSH.out v4 w4 _ hown4 hgr4); clear hown4 hgr4)
            have H9 := Lib.hid (H4.out.on ((Below.refl w4.heap.size w4).alloc (Nat.le_refl _) (.cells #[.int .u8 (48 + (1 + r))] 5)))
            have hY : (X ++ (⟨#[60, 104]⟩ ++ ⟨#[b]⟩) ++ ⟨#[62]⟩ ++ (⟨#[60, 47, 104]⟩ ++ ⟨#[b]⟩ ++ ⟨#[62, 10]⟩) : ByteArray).data.toList = X.data.toList ++ [60, 104, b] ++ attrL [105, 100] (headId ⟨false, false, false, false, 0, secs⟩ i) ++ [62] ++ headNo ⟨false, false, false, false, 0, secs⟩ i ++ [60, 47, 104, b, 62, 10] := by
              rw [HID.out, HNO.out]
              simp only [ba_append]
              simp [List.append_assoc]
            have HY := Lib.hid hY
            clear hY
            go_roundw
            case rel =>
              refine ⟨i + 1, _, ns ++ [1 + r], by omega, by go_num, rfl, by rw [List.length_append, hnsl.out]; rfl, Lib.hid (head_str HX.out hnsl.out HDG.out HY.out), Lib.hid H9.out, Lib.hid (fun n hn => ?_), Lib.hid (fun k h hk => ?_), head_size HS60.out hXs HY.out⟩
              · rcases List.mem_append.1 hn with hn | hn
                · exact HN.out n hn
                · rw [List.mem_singleton.1 hn]; omega
              · by_cases e : k = i
                · subst e; exact HS60.out h
                · exact HSZ.out k h (by omega)
            case measure => simp only [RowKit.intOf]; omega
        · obtain rfl : i = l.length := by omega
          have hnn : ¬ ((l.length : Int) < l.length) := by omega
          have cB := heads_blocks HR.out hT (by rw [hnsl.out]; exact h10) HN.out (num := false) ((HSEC.out.below HR.out.below).mono HR.out.below.size) (fun k h hk => HSZ.out k h (by rw [← hnsl.out]; exact hk)) (X := X) HX.out
          have HNL := hnsl
          go_wp2_with fail
          refine cB.mono ?_
          rintro e w6 ⟨a6, c6, rfl, hb6⟩
          have HB6 := Lib.hid hb6
          clear cB hb6
          go_wp2_with fail
          go_ret
          exact ⟨by first | rfl | exact ret_bool (by simp), HB6.out⟩
    · clear hsec
      go_enter Tryz.func9, Tryz.ntmps9
      go_wp2_with (go_at_call 14; refine (alive_any h0 hT).mono ?_; rintro e w1 ⟨rfl, hb1⟩)
      go_ret
      exact ⟨rfl, hb1⟩
  · clear hsec
    go_enter Tryz.func9, Tryz.ntmps9
    go_wp2_with (go_at_call 14; refine (alive_any h0 hT).mono ?_; rintro e w1 ⟨rfl, hb1⟩)
    go_ret
    exact ⟨rfl, hb1⟩
theorem htmlHeads_walk (v vS : Value) (num : Bool) (W : World) (hT : Tabs W) (hv : ∃ l : List Int, RowIn W W.heap.size v (l.map (Value.int .i64)) ∧ ∀ n ∈ l, (Lit.int .i64 n).wf = true)
    (hs : ∃ a len cap, vS = .slice a len cap ∧ len ≤ 9223372036854775807 ∧ (len ≤ 100000 → ∃ l : List Sec, l.length = len ∧ SecsIn W W.heap.size vS l ∧ ∀ s ∈ l, s.Fits)) :
    Calls Tryz.prog 9 #[v, vS, .bool num] W fun e w' => e = .returned (.bool true) ∧ Below W.heap.size W w' := by
  cases num with
  | true => exact heads_walk_true v vS W hT hv hs
  | false => exact heads_walk_false v vS W hT hv hs
end Go.Proofs.YtpabackkapgkpaaGreatDoor
