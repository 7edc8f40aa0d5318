/- HtmlLists: the walk. -/
import Derived.Test.YtpabackkapgkpaaGreatDoorLListsSt
import Derived.Deep.QuietTactic
namespace Go.Proofs.YtpabackkapgkpaaGreatDoor
open Go.RowKit Go.Lib

theorem info_sl : (Tryz.prog.info? 25).map (fun i => (i.zero, i.size, i.bytes)) = some (some (.slice none 0 0), 1, 24) := by kernel_rfl

set_option maxHeartbeats 4000000 in
set_option maxRecDepth 100000 in
theorem htmlLists_walk (n : Int) (tight : Bool) (from_ : Int) (W : World) (hT : Tabs W) (hn : -9223372036854775808 ≤ n ∧ n ≤ 9223372036854775807) (hf : -9223372036854775808 ≤ from_ ∧ from_ ≤ 9223372036854775807) :
    Calls Tryz.prog 8 #[.int .i64 n, .bool tight, .int .i64 from_] W fun e w' => e = .returned (.bool true) ∧ Below W.heap.size W w' := by
  have h0 := Below.refl W.heap.size W
  by_cases h1 : 1 ≤ n
  · by_cases h2 : n ≤ 12
    · by_cases h3 : -1 ≤ from_
      · by_cases h4 : from_ ≤ 999
        · obtain ⟨m, rfl⟩ : ∃ m : Nat, n = m := ⟨n.toNat, by omega⟩
          obtain ⟨i0, hi, hz0, hz1, hz2⟩ := info_parts info_blk
          have HI0 : Hid (Tryz.prog.info? 50 = some i0 ∧ i0.zero = some (.agg #[.int .i64 0, .int .i64 0, .int .i64 0, .bool false, .string ⟨#[]⟩, .string ⟨#[]⟩]) ∧ i0.size = 6 ∧ i0.bytes = 64) := ⟨hi, hz0, hz1, hz2⟩
          obtain ⟨j0, hj, hy0, hy1, hy2⟩ := info_parts info_sl
          have HJ0 : Hid (Tryz.prog.info? 25 = some j0 ∧ j0.zero = some (.slice none 0 0) ∧ j0.size = 1 ∧ j0.bytes = 24) := ⟨hj, hy0, hy1, hy2⟩
          clear hi hz0 hz1 hz2 hj hy0 hy1 hy2
          go_enter Tryz.func8, Tryz.ntmps8
          go_wp2_with fail
          refine (alive_any h0 hT).mono ?_
          rintro e w1 ⟨rfl, hb1⟩
          have R0 : Hid (LL W from_ tight 0 [] (.slice (some ⟨w1.heap.size, 0, none⟩) 1 1) (.slice none 0 0) (w1.alloc (.cells #[.int .i64 4, .int .i64 0, .int .i64 from_, .bool tight, .string ⟨#[]⟩, .string ⟨#[]⟩] 50))) :=
            ⟨hb1.alloc hb1.size _, row_lit rfl hb1.size [.int .i64 4, .int .i64 0, .int .i64 from_, .bool tight, .string ⟨#[]⟩, .string ⟨#[]⟩] 1 rfl (by decide), row_nil _ _ _ _, fun g hg => by cases hg⟩
          clear hb1
          go_wp2_with fail
          go_loopw [7, 8, 9, 10] (fun vb vt vw vk wr => ∃ (k : Nat) (gs : List Nat) (X : ByteArray), k ≤ m ∧ vk = .int .i64 k ∧ vw = .string X ∧ Hid (X.data.toList = repL k (itemL tight ++ closeL)) ∧ Hid (LL W from_ tight k gs vb vt wr)) (fun _ _ _ vk _ => m - (RowKit.intOf vk).toNat)
          case atStart => exact ⟨0, [], ⟨#[]⟩, Nat.zero_le _, rfl, rfl, rfl, R0⟩
          case round =>
            clear R0
            obtain ⟨k, gs, X, hk, rfl, rfl, HX, HR⟩ := hrel
            obtain ⟨ab, cb, hvb⟩ := row_slice HR.out.rb
            obtain ⟨at_, ct, hvt⟩ := row_slice HR.out.rt
            subst hvb hvt
            have hit := item_len tight
            have hXs : X.size ≤ 240 := by
              have h9 : k * (itemL tight ++ closeL).length ≤ 12 * 20 := Nat.mul_le_mul (by omega) hit
              rw [ba_size, HX.out, repL_length]; omega
            clear hit
            by_cases hlt : k < m
            · obtain ⟨hm2, hm4, hm1, hm3⟩ := small_rows hlt h2
              have hsz := HR.out.below.size
              have hba : W.heap.size ≤ (wr.alloc (.cells #[.int .i64 5, .int .i64 1, .int .i64 0, .bool false, .string ⟨#[]⟩, .string ⟨#[]⟩, .int .i64 1, .int .i64 2, .int .i64 0, .bool false, .string ⟨#[]⟩, .string ⟨#[]⟩] 50)).heap.size := by simp; omega
              have BA2 := Lib.hid (fun (w4 : World) (o : Obj) (hg : (wr.alloc o).grownBy w4 (Value.slice ab (1 + 2 * k) cb).ownBlock) => (show W.heap.size ≤ ((w4.alloc (.cells #[.int .i64 1, .int .i64 0, .string ⟨#[120]⟩, .string ⟨#[]⟩, .string ⟨#[]⟩] 45)).alloc (.cells #[slI w4.heap.size] 25)).heap.size by have := hg.size; simp at *; omega))
              have RTK := Lib.hid (fun (w4 : World) (o : Obj) (hg : (wr.alloc o).grownBy w4 (Value.slice ab (1 + 2 * k) cb).ownBlock) => HR.out.rt_kept hg)
              have PUSH := Lib.hid (fun (v4 v5 : Value) (w4 w5 : World) (o1 o3 : Obj) => LL.push HR.out (v4 := v4) (v5 := v5) (w4 := w4) (w5 := w5) (o1 := o1) (o3 := o3))
              cases tight with
              | false =>
                go_wp2_with (first
                  | (at_builtin; refine wpList_append_any rfl (.tmp 43) (.tmp 46) 51 rfl W.heap.size 50 i0 (.agg #[.int .i64 0, .int .i64 0, .int .i64 0, .bool false, .string ⟨#[]⟩, .string ⟨#[]⟩]) 6 64 Tryz.underlying51 HI0.out.1 HI0.out.2.1 HI0.out.2.2.1 HI0.out.2.2.2 rfl (by decide) (.slice ab (1 + 2 * k) cb) (1 + 2 * k) ((listB from_ false :: itemsB k).flatMap Blk.cells) rfl (HR.out.rb.alloc _) (some ⟨wr.heap.size, 0, none⟩) 2 2 [.int .i64 5, .int .i64 1, .int .i64 0, .bool false, .string ⟨#[]⟩, .string ⟨#[]⟩, .int .i64 1, .int .i64 2, .int .i64 0, .bool false, .string ⟨#[]⟩, .string ⟨#[]⟩] rfl rfl (fun h => by cases h) (news_lit rfl _ _) (fun u hu => by simp only [List.mem_cons, List.not_mem_nil, or_false] at hu; rcases hu with rfl | rfl | rfl | rfl | rfl | rfl | rfl | rfl | rfl | rfl | rfl | rfl <;> rfl) hm1 hm2 hba ?_; intro v4 w4 hown4 hgr4 _; have O4 := Lib.hid hown4; have G4 := Lib.hid hgr4; have hba2 := BA2.out w4 _ hgr4; have RT4 := Lib.hid (RTK.out w4 _ hgr4); clear hown4 hgr4)
                  | (at_builtin; refine wpList_append_any rfl (.tmp 48) (.tmp 51) 60 rfl W.heap.size 25 j0 (.slice none 0 0) 1 24 Tryz.underlying60 HJ0.out.1 HJ0.out.2.1 HJ0.out.2.2.1 HJ0.out.2.2.2 rfl (by decide) (.slice at_ k ct) k (gs.map slI) rfl ((RT4.out.alloc _).alloc _) (some ⟨w4.heap.size + 1, 0, none⟩) 1 1 [slI w4.heap.size] rfl rfl (fun h => by cases h) (news_lit (by simp) _ _) (fun u hu => by rw [List.mem_singleton.1 hu]; rfl) hm3 hm4 hba2 ?_; intro v5 w5 hown5 hgr5 _; have H5 := Lib.hid (PUSH.out v4 v5 w4 w5 _ _ O4.out G4.out hown5 hgr5); clear hown5 hgr5))
                go_roundw
                case rel => exact ⟨k + 1, gs ++ [w4.heap.size], X ++ ⟨#[60, 108, 105, 62, 10, 60, 112, 62, 120, 60, 47, 112, 62, 10, 60, 47, 108, 105, 62, 10]⟩, by omega, by go_num, rfl, Lib.hid (by show (X ++ ⟨#[60, 108, 105, 62, 10, 60, 112, 62, 120, 60, 47, 112, 62, 10, 60, 47, 108, 105, 62, 10]⟩ : ByteArray).data.toList = _; rw [ba_append, HX.out, repL_snoc]; rfl), H5⟩
                case measure => simp only [RowKit.intOf]; omega
              | true =>
                go_wp2_with (first
                  | (at_builtin; refine wpList_append_any rfl (.tmp 43) (.tmp 46) 51 rfl W.heap.size 50 i0 (.agg #[.int .i64 0, .int .i64 0, .int .i64 0, .bool false, .string ⟨#[]⟩, .string ⟨#[]⟩]) 6 64 Tryz.underlying51 HI0.out.1 HI0.out.2.1 HI0.out.2.2.1 HI0.out.2.2.2 rfl (by decide) (.slice ab (1 + 2 * k) cb) (1 + 2 * k) ((listB from_ true :: itemsB k).flatMap Blk.cells) rfl (HR.out.rb.alloc _) (some ⟨wr.heap.size, 0, none⟩) 2 2 [.int .i64 5, .int .i64 1, .int .i64 0, .bool false, .string ⟨#[]⟩, .string ⟨#[]⟩, .int .i64 1, .int .i64 2, .int .i64 0, .bool false, .string ⟨#[]⟩, .string ⟨#[]⟩] rfl rfl (fun h => by cases h) (news_lit rfl _ _) (fun u hu => by simp only [List.mem_cons, List.not_mem_nil, or_false] at hu; rcases hu with rfl | rfl | rfl | rfl | rfl | rfl | rfl | rfl | rfl | rfl | rfl | rfl <;> rfl) hm1 hm2 hba ?_; intro v4 w4 hown4 hgr4 _; have O4 := Lib.hid hown4; have G4 := Lib.hid hgr4; have hba2 := BA2.out w4 _ hgr4; have RT4 := Lib.hid (RTK.out w4 _ hgr4); clear hown4 hgr4)
                  | (at_builtin; refine wpList_append_any rfl (.tmp 48) (.tmp 51) 60 rfl W.heap.size 25 j0 (.slice none 0 0) 1 24 Tryz.underlying60 HJ0.out.1 HJ0.out.2.1 HJ0.out.2.2.1 HJ0.out.2.2.2 rfl (by decide) (.slice at_ k ct) k (gs.map slI) rfl ((RT4.out.alloc _).alloc _) (some ⟨w4.heap.size + 1, 0, none⟩) 1 1 [slI w4.heap.size] rfl rfl (fun h => by cases h) (news_lit (by simp) _ _) (fun u hu => by rw [List.mem_singleton.1 hu]; rfl) hm3 hm4 hba2 ?_; intro v5 w5 hown5 hgr5 _; have H5 := Lib.hid (PUSH.out v4 v5 w4 w5 _ _ O4.out G4.out hown5 hgr5); clear hown5 hgr5))
                go_roundw
                case rel => exact ⟨k + 1, gs ++ [w4.heap.size], X ++ ⟨#[60, 108, 105, 62, 10, 120, 10, 60, 47, 108, 105, 62, 10]⟩, by omega, by go_num, rfl, Lib.hid (by show (X ++ ⟨#[60, 108, 105, 62, 10, 120, 10, 60, 47, 108, 105, 62, 10]⟩ : ByteArray).data.toList = _; rw [ba_append, HX.out, repL_snoc]; rfl), H5⟩
                case measure => simp only [RowKit.intOf]; omega
            · obtain rfl : k = m := by omega
              have hnn : ¬ ((k : Int) < k) := by omega
              obtain ⟨r, hrl, hends⟩ := list_ends from_ tight ⟨h3, h4⟩
              obtain ⟨XB, hXB0⟩ : ∃ XB : ByteArray, XB.data.toList = (holderL (listB from_ tight)).1 ++ repL k (itemL tight ++ closeL) ++ (holderL (listB from_ tight)).2 := ⟨_, ba_mk _⟩
              have cI := row_blocks HR.out hT (by omega) (by omega) ⟨h3, h4⟩ hXB0
              have HXB := Lib.hid hXB0
              clear hXB0
              by_cases hff : from_ = -1
              · subst hff
                rw [if_pos rfl] at hends
                obtain ⟨hq1, hq2⟩ := hends
                have hXB : XB.data.toList = (60 :: 117 :: r) ++ X.data.toList ++ [60, 47, 117, 108, 62, 10] := by rw [HXB.out, hq1, hq2, HX.out]
                obtain ⟨hz, hx1, hsl⟩ := parts_of (E := ⟨#[60, 47, 117, 108, 62, 10]⟩) hXB rfl
                simp only [List.length_cons, List.length_nil, Nat.zero_add, Nat.reduceAdd] at hz hsl
                have hx2 := hx1 (by omega)
                have he2 : (ByteArray.mk #[60, 47, 117, 108, 62, 10])[2] = 117 := rfl
                have g1 : IntKind.i64.wrap ((X.size : Int) + 6) = (X.size : Int) + 6 := IntWalk.i64_in _ (by omega)
                have g2 : IntKind.i64.wrap (((r.length : Int) + 2 + X.size + 6) - X.size) = (r.length : Int) + 8 := by rw [IntWalk.i64_in _ (by omega)]; omega
                have g3 : IntKind.i64.wrap (((r.length : Int) + 8) - 6) = (r.length : Int) + 2 := by rw [IntWalk.i64_in _ (by omega)]; omega
                have g4 : (X.size : Int) + 6 < (r.length : Int) + 2 + X.size + 6 := by omega
                clear hq1 hq2 hXB hx1
                go_wp2_with fail
                refine cI.mono ?_
                rintro e w6 ⟨a6, c6, rfl, hb6⟩
                have HB6 := Lib.hid hb6
                clear cI hb6
                go_wp2_with fail
                go_quiet (fail)
                go_wp2_with fail
                go_ret
                exact ⟨by first | rfl | exact ret_bool (by simp), bel_drewN HB6.out _⟩
              · rw [if_neg hff] at hends
                have hfb : (from_ == -1) = false := by simp; exact hff
                obtain ⟨hq1, hq2⟩ := hends
                have hXB : XB.data.toList = (60 :: 111 :: r) ++ X.data.toList ++ [60, 47, 111, 108, 62, 10] := by rw [HXB.out, hq1, hq2, HX.out]
                obtain ⟨hz, hx1, hsl⟩ := parts_of (E := ⟨#[60, 47, 111, 108, 62, 10]⟩) hXB rfl
                simp only [List.length_cons, List.length_nil, Nat.zero_add, Nat.reduceAdd] at hz hsl
                have hx2 := hx1 (by omega)
                have he2 : (ByteArray.mk #[60, 47, 111, 108, 62, 10])[2] = 111 := rfl
                have g1 : IntKind.i64.wrap ((X.size : Int) + 6) = (X.size : Int) + 6 := IntWalk.i64_in _ (by omega)
                have g2 : IntKind.i64.wrap (((r.length : Int) + 2 + X.size + 6) - X.size) = (r.length : Int) + 8 := by rw [IntWalk.i64_in _ (by omega)]; omega
                have g3 : IntKind.i64.wrap (((r.length : Int) + 8) - 6) = (r.length : Int) + 2 := by rw [IntWalk.i64_in _ (by omega)]; omega
                have g4 : (X.size : Int) + 6 < (r.length : Int) + 2 + X.size + 6 := by omega
                clear hq1 hq2 hXB hx1
                go_wp2_with fail
                refine cI.mono ?_
                rintro e w6 ⟨a6, c6, rfl, hb6⟩
                have HB6 := Lib.hid hb6
                clear cI hb6
                go_wp2_with fail
                go_quiet (fail)
                go_wp2_with fail
                go_ret
                exact ⟨by first | rfl | exact ret_bool (by simp), bel_drewN HB6.out _⟩
        · go_enter Tryz.func8, Tryz.ntmps8
          go_wp2_with (go_at_call 14; refine (alive_any h0 hT).mono ?_; rintro e w1 ⟨rfl, hb1⟩)
          go_ret
          exact ⟨rfl, hb1⟩
      · go_enter Tryz.func8, Tryz.ntmps8
        go_wp2_with (go_at_call 14; refine (alive_any h0 hT).mono ?_; rintro e w1 ⟨rfl, hb1⟩)
        go_ret
        exact ⟨rfl, hb1⟩
    · go_enter Tryz.func8, Tryz.ntmps8
      go_wp2_with (go_at_call 14; refine (alive_any h0 hT).mono ?_; rintro e w1 ⟨rfl, hb1⟩)
      go_ret
      exact ⟨rfl, hb1⟩
  · go_enter Tryz.func8, Tryz.ntmps8
    go_wp2_with (go_at_call 14; refine (alive_any h0 hT).mono ?_; rintro e w1 ⟨rfl, hb1⟩)
    go_ret
    exact ⟨rfl, hb1⟩
end Go.Proofs.YtpabackkapgkpaaGreatDoor
