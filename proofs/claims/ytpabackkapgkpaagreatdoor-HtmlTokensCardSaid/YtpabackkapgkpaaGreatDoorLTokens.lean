/- HtmlTokens: the walk. -/
import Derived.Test.YtpabackkapgkpaaGreatDoorLTokensSt
import Derived.Test.YtpabackkapgkpaaGreatDoorLNotesSt
import Derived.Deep.QuietTactic
namespace Go.Proofs.YtpabackkapgkpaaGreatDoor
open Go.RowKit Go.Lib

set_option maxHeartbeats 4000000 in
set_option maxRecDepth 100000 in
theorem htmlTokens_walk (v : Value) (more : ByteArray) (W : World) (hT : Tabs W) (hv : ∃ l : List Int, RowIn W W.heap.size v (l.map (Value.int .i64)) ∧ ∀ n ∈ l, (Lit.int .i64 n).wf = true) (hmore : more.size ≤ 9223372036854775807) :
    Calls Tryz.prog 7 #[v, .string more] W fun e w' => e = .returned (.bool true) ∧ Below W.heap.size W w' := by
  have h0 := Below.refl W.heap.size W
  obtain ⟨l, ⟨a, cap, rfl, hc, hm, hrow⟩, hwf⟩ := hv
  rw [List.length_map] at hc ⊢
  by_cases h30 : l.length ≤ 30
  · by_cases hm30 : more.size ≤ 30
    · obtain ⟨i0, hi, hz0, hz1, hz2⟩ := info_parts info_str
      have HI0 : Hid (Tryz.prog.info? 9 = some i0 ∧ i0.zero = some (.string ⟨#[]⟩) ∧ i0.size = 1 ∧ i0.bytes = 16) := ⟨hi, hz0, hz1, hz2⟩
      have HROW := Lib.hid hrow
      clear hi hz0 hz1 hz2 hrow hwf
      go_enter Tryz.func7, Tryz.ntmps7
      go_wp2_with fail
      refine (alive_any h0 hT).mono ?_
      rintro e w1 ⟨rfl, hb1⟩
      have HB1 := Lib.hid hb1
      clear hb1
      go_wp2_with fail
      go_loop [5] (fun vi => ∃ i : Nat, i ≤ more.size ∧ vi = .int .i64 i ∧ Hid ((60 : UInt8) ∉ more.data.toList.take i)) (fun vi => more.size - (RowKit.intOf vi).toNat)
      case atStart => exact ⟨0, Nat.zero_le _, rfl, by simp [Hid]⟩
      case round =>
        obtain ⟨i, hi, rfl, HN⟩ := hrel
        by_cases hlt : i < more.size
        · by_cases h6 : more[i] = 60
          · go_wp2_with fail
            go_ret
            exact ⟨rfl, HB1.out⟩
          · by_cases h62 : more[i] = 62
            · go_wp2_with fail
              go_ret
              exact ⟨rfl, HB1.out⟩
            · have d1 : ((more[i].toNat : Int) == 60) = false := by
                have : more[i].toNat ≠ 60 := fun e => h6 (UInt8.toNat_inj.1 e)
                simp; omega
              have d2 : ((more[i].toNat : Int) == 62) = false := by
                have : more[i].toNat ≠ 62 := fun e => h62 (UInt8.toNat_inj.1 e)
                simp; omega
              have HN2 : Hid ((60 : UInt8) ∉ more.data.toList.take (i + 1)) := by
                have hi' : i < more.data.toList.length := by rw [← ba_size]; exact hlt
                show _ ∉ _
                rw [List.take_succ_eq_append_getElem hi']
                intro hx
                rcases List.mem_append.1 hx with hx | hx
                · exact HN.out hx
                · have e : more.data.toList[i] = more[i] := by simp [ByteArray.getElem_eq_getElem_data]
                  rw [e] at hx
                  exact h6 (List.mem_singleton.1 hx).symm
              go_wp2_with fail
              go_round
              case rel => exact ⟨i + 1, by omega, by go_num, HN2⟩
              case measure => simp only [RowKit.intOf]; omega
        · obtain rfl : i = more.size := by omega
          have hnn : ¬ ((more.size : Int) < more.size) := by omega
          have HM : Hid ((60 : UInt8) ∉ more.data.toList) := by
            have h9 := HN.out
            rwa [List.take_of_length_le (by rw [← ba_size]; exact Nat.le_refl _)] at h9
          have R0 : Hid (TL W ⟨#[]⟩ [] 0 (.slice none 0 0) w1) := ⟨HB1.out, row_nil _ _ _ _, TInv.nil, fun x hx => by cases hx⟩
          go_wp2_with fail
          go_loopw [6, 7, 8, 52] (fun vs vo vn vk wr => ∃ (k : Nat) (S : ByteArray) (op : List ByteArray) (n : Nat), k ≤ l.length ∧ vk = .int .i64 k ∧ vs = .string S ∧ vn = .int .i64 n ∧ Hid (TL W S op n vo wr) ∧ n ≤ k ∧ op.length ≤ k ∧ S.size ≤ 60 * k) (fun _ _ _ vk _ => l.length - (RowKit.intOf vk).toNat)
          case atStart => exact ⟨0, ⟨#[]⟩, [], 0, Nat.zero_le _, rfl, rfl, rfl, R0, Nat.le_refl _, Nat.le_refl _, by show (0 : Nat) ≤ _; omega⟩
          case round =>
            clear R0
            obtain ⟨k, S, op, n, hk, rfl, rfl, rfl, HR, hnk, hok, hSk⟩ := hrel
            obtain ⟨ao, co, hvo⟩ := row_slice HR.out.row
            subst hvo
            by_cases hlt : k < l.length
            · rcases HROW.out with hn0 | ⟨g, o, rfl, hg, hat⟩
              · exfalso; have := congrArg List.length hn0; simp at this; subst this; simp at hlt
              have hc0 := (HR.out.below.cell (p := ⟨g, o + k, none⟩) hg).trans (hat k (by simpa using hlt))
              rw [List.getElem_map] at hc0
              clear hat
              generalize l[k] = x at *
              have hki : (k : Int) < l.length := by omega
              have hk0 : (0 : Int) ≤ (k : Int) := by omega
              obtain ⟨q, hq, hq1, hq2, hy⟩ := rem_four x
              have hm1 : op.length + 1 ≤ maxLen := by unfold maxLen; omega
              have hm2 : (op.length + 1) * 16 ≤ 140737488355328 := by omega
              have HSS : Hid ((S ++ (⟨#[60, 98, 114, 32, 47, 62]⟩ ++ more) : ByteArray).size = S.size + (6 + more.size)) := by
                show _ = _
                simp only [ba_size, ba_append, List.length_append]; simp only [List.length_cons, List.length_nil]
              rcases hy with hy | hy | hy | hy
              · have hba : W.heap.size ≤ ((wr.alloc (.cells #[.string ⟨#[112]⟩, .string ⟨#[101, 109]⟩] 9)).alloc (.cells #[.string ⟨#[112]⟩] 9)).heap.size := by have := HR.out.below.size; simp; omega
                have PUSH := Lib.hid (fun (v4 : Value) (w4 : World) (o1 o2 : Obj) => TL.push HR.out (N := ⟨#[112]⟩) (M := more) (v' := v4) (w4 := w4) (o1 := o1) (o2 := o2) (.inl rfl) HM.out)
                have HSO : Hid ((S ++ (⟨#[60]⟩ ++ ⟨#[112]⟩ ++ ⟨#[32, 99, 108, 97, 115, 115, 61, 34, 99, 34, 62]⟩ ++ more) : ByteArray).size = S.size + (13 + more.size)) := by
                  show _ = _
                  simp only [ba_size, ba_append, List.length_append]; simp only [List.length_cons, List.length_nil]
                go_wp2_with (at_builtin; refine wpList_append_any rfl (.tmp 71) (.tmp 73) 32 rfl W.heap.size 9 i0 (.string ⟨#[]⟩) 1 16 Tryz.underlying32 HI0.out.1 HI0.out.2.1 HI0.out.2.2.1 HI0.out.2.2.2 rfl (by decide) (.slice ao op.length co) op.length (op.reverse.map .string) rfl ((HR.out.row.alloc _).alloc _) (some ⟨wr.heap.size + 1, 0, none⟩) 1 1 [.string ⟨#[112]⟩] rfl rfl (fun h => by cases h) (news_lit (by simp) _ _) (fun u hu => by rw [List.mem_singleton.1 hu]; rfl) hm1 hm2 hba ?_; intro v4 w4 hown4 hgr4 _; have H4 := Lib.hid (PUSH.out v4 w4 _ _ hown4 hgr4); clear hown4 hgr4)
                go_roundw
                case rel => exact ⟨k + 1, _, ⟨#[112]⟩ :: op, n + 1, by omega, by go_num, rfl, by go_num, H4, by omega, by rw [List.length_cons]; omega, by rw [HSO.out]; omega⟩
                case measure => simp only [RowKit.intOf]; omega
              · have hba : W.heap.size ≤ ((wr.alloc (.cells #[.string ⟨#[112]⟩, .string ⟨#[101, 109]⟩] 9)).alloc (.cells #[.string ⟨#[101, 109]⟩] 9)).heap.size := by have := HR.out.below.size; simp; omega
                have PUSH := Lib.hid (fun (v4 : Value) (w4 : World) (o1 o2 : Obj) => TL.push HR.out (N := ⟨#[101, 109]⟩) (M := more) (v' := v4) (w4 := w4) (o1 := o1) (o2 := o2) (.inr rfl) HM.out)
                have HSO : Hid ((S ++ (⟨#[60]⟩ ++ ⟨#[101, 109]⟩ ++ ⟨#[32, 99, 108, 97, 115, 115, 61, 34, 99, 34, 62]⟩ ++ more) : ByteArray).size = S.size + (14 + more.size)) := by
                  show _ = _
                  simp only [ba_size, ba_append, List.length_append]; simp only [List.length_cons, List.length_nil]
                go_wp2_with (at_builtin; refine wpList_append_any rfl (.tmp 71) (.tmp 73) 32 rfl W.heap.size 9 i0 (.string ⟨#[]⟩) 1 16 Tryz.underlying32 HI0.out.1 HI0.out.2.1 HI0.out.2.2.1 HI0.out.2.2.2 rfl (by decide) (.slice ao op.length co) op.length (op.reverse.map .string) rfl ((HR.out.row.alloc _).alloc _) (some ⟨wr.heap.size + 1, 0, none⟩) 1 1 [.string ⟨#[101, 109]⟩] rfl rfl (fun h => by cases h) (news_lit (by simp) _ _) (fun u hu => by rw [List.mem_singleton.1 hu]; rfl) hm1 hm2 hba ?_; intro v4 w4 hown4 hgr4 _; have H4 := Lib.hid (PUSH.out v4 w4 _ _ hown4 hgr4); clear hown4 hgr4)
                go_roundw
                case rel => exact ⟨k + 1, _, ⟨#[101, 109]⟩ :: op, n + 1, by omega, by go_num, rfl, by go_num, H4, by omega, by rw [List.length_cons]; omega, by rw [HSO.out]; omega⟩
                case measure => simp only [RowKit.intOf]; omega
              · cases op with
                | nil =>
                  simp only [List.length_nil] at *
                  go_wp2_with fail
                  go_roundw
                  case rel => exact ⟨k + 1, _, [], n + 1, by omega, by go_num, rfl, by go_num, HR.out.br HM.out, by omega, by simp only [List.length_nil]; omega, by rw [HSS.out]; omega⟩
                  case measure => simp only [RowKit.intOf]; omega
                | cons N op =>
                  obtain ⟨g2, rfl, hg2, hc1, hc2, htc, HP⟩ := HR.out.top
                  have hNs := (HR.out.pe N (List.mem_cons_self ..)).size
                  have e1 : IntKind.i64.wrap (((op.length : Int) + 1) - 1) = (op.length : Int) := by simp only [List.length_cons] at hok; rw [IntWalk.i64_in _ (by omega)]; omega
                  have hq0 : (0 : Int) ≤ (op.length : Int) := by omega
                  have hq1 : (op.length : Int) < (op.length : Int) + 1 := by omega
                  have hq2 : (op.length : Int) ≤ (co : Int) := by omega
                  have hq3 : ¬ (op.length : Int) < 0 := by omega
                  have hq4 : (((op.length : Int) + 1) == 0) = false := by simp; omega
                  have HSP : Hid ((S ++ (⟨#[60, 47]⟩ ++ N ++ ⟨#[62]⟩ ++ more) : ByteArray).size = S.size + (3 + N.size + more.size)) := by
                    show _ = _
                    simp only [ba_size, ba_append, List.length_append]; simp only [List.length_cons, List.length_nil]; omega
                  have POP := Lib.hid (HR.out.pop (M := more) (Below.refl _ _) HP HM.out)
                  simp only [List.length_cons] at *
                  go_wp2_with fail
                  go_roundw
                  case rel => exact ⟨k + 1, _, op, n + 1, by omega, by go_num, rfl, by go_num, POP, by omega, by omega, by rw [HSP.out]; omega⟩
                  case measure => simp only [RowKit.intOf]; omega
              · go_wp2_with fail
                go_roundw
                case rel => exact ⟨k + 1, _, op, n + 1, by omega, by go_num, rfl, by go_num, HR.out.br HM.out, by omega, by omega, by rw [HSS.out]; omega⟩
                case measure => simp only [RowKit.intOf]; omega
            · obtain rfl : k = l.length := by omega
              have hnn : ¬ ((l.length : Int) < l.length) := by omega
              obtain ⟨b, hb⟩ : ∃ b, decide (op.length = 0) = b := ⟨_, rfl⟩
              have HEA := Lib.hid (show (forestF S.data.toList [] []).isSome = b by rw [← hb]; exact HR.out.inv.early)
              have hq : ((op.length : Int) == 0) = b := by
                rw [← hb]
                by_cases h9 : op.length = 0
                · rw [h9]; rfl
                · simp [h9]
              replace hb := Lib.hid hb
              have HT := Lib.hid (fun w' (hb : Below W.heap.size W w') => hT.on hb)
              have HOLD := Lib.hid (fun w' (hb : Below wr.heap.size wr w') => HR.out.on hb)
              go_wp2_with fail
              refine (tokens_any S (HT.out _ HR.out.below) (by omega)).mono ?_
              rintro e w5 ⟨v5, l5, rfl, hl5, hb5, ho5⟩
              rw [HEA.out]
              have H5 := Lib.hid (HOLD.out _ hb5)
              clear hl5 hb5 ho5 HR
              go_wp2_with fail
              go_loopw [6, 7, 8] (fun vs vo vn wr => ∃ (S : ByteArray) (op : List ByteArray) (n : Nat), vs = .string S ∧ vn = .int .i64 n ∧ Hid (TL W S op n vo wr) ∧ n + op.length ≤ 60 ∧ op.length ≤ 30 ∧ S.size + 5 * op.length ≤ 2000) (fun _ vo _ _ => match vo with | .slice _ m _ => m | _ => 0)
              case atStart => exact ⟨S, op, n, rfl, rfl, H5, by omega, by omega, by omega⟩
              case round =>
                clear H5 hq HEA
                obtain ⟨S, op, n, rfl, rfl, HR, hn6, ho3, hS2⟩ := hrel
                obtain ⟨ao, co, hvo⟩ := row_slice HR.out.row
                subst hvo
                cases op with
                | cons N op =>
                  obtain ⟨g2, rfl, hg2, hc1, hc2, htc, HP⟩ := HR.out.top
                  have hNs := (HR.out.pe N (List.mem_cons_self ..)).size
                  simp only [List.length_cons] at *
                  have e1 : IntKind.i64.wrap (((op.length : Int) + 1) - 1) = (op.length : Int) := by rw [IntWalk.i64_in _ (by omega)]; omega
                  have hq0 : (0 : Int) ≤ (op.length : Int) := by omega
                  have hq1 : (op.length : Int) < (op.length : Int) + 1 := by omega
                  have hq2 : (op.length : Int) ≤ (co : Int) := by omega
                  have hq3 : ¬ (op.length : Int) < 0 := by omega
                  have hq5 : (0 : Int) < (op.length : Int) + 1 := by omega
                  have HSP : Hid ((S ++ (⟨#[60, 47]⟩ ++ N ++ ⟨#[62]⟩) : ByteArray).size = S.size + (3 + N.size)) := by
                    show _ = _
                    simp only [ba_size, ba_append, List.length_append]; simp only [List.length_cons, List.length_nil]; omega
                  have POP := Lib.hid (HR.out.pop0 (Below.refl _ _) HP)
                  go_wp2_with fail
                  go_roundw
                  case rel => exact ⟨_, op, n + 1, rfl, by go_num, POP, by omega, by omega, by rw [HSP.out]; omega⟩
                  case measure => dsimp only; omega
                | nil =>
                  simp only [List.length_nil] at *
                  obtain ⟨f1, f2⟩ := HR.out.inv.full
                  have f3 := HR.out.inv.twice
                  have f4 := HR.out.inv.half
                  have F1 := Lib.hid f1
                  have F2 := Lib.hid f2
                  have F3 := Lib.hid f3
                  have F4 := Lib.hid f4
                  have hz3 := Lib.hid (show (S ++ ⟨#[60, 47, 112, 62]⟩ : ByteArray).size ≤ 3000 from by rw [ba_size, ba_append, List.length_append, ← ba_size]; show S.size + 4 ≤ 3000; omega)
                  have hz4 := Lib.hid (show (S ++ ⟨#[60, 112]⟩ : ByteArray).size ≤ 3000 from by rw [ba_size, ba_append, List.length_append, ← ba_size]; show S.size + 2 ≤ 3000; omega)
                  clear f1 f2 f3 f4
                  go_wp2_with fail
                  refine (tokens_any S (HT.out _ HR.out.below) (by omega)).mono ?_
                  rintro e w6 ⟨v6, l6, rfl, hl6, hb6, ho6⟩
                  obtain ⟨a6, c6, rfl⟩ := row_slice ho6
                  rw [F1.out, show l6.length = n by rw [← F2.out, ← hl6, List.length_map]]
                  have B6 := Lib.hid (HR.out.below.trans (hb6.mono HR.out.below.size))
                  clear hl6 hb6 ho6
                  go_wp2_with fail
                  have cQ := tokens_any (S ++ ⟨#[60, 47, 112, 62]⟩) (HT.out _ B6.out) (Nat.le_trans hz3.out (by decide))
                  refine cQ.mono ?_
                  clear cQ
                  rintro e w7 ⟨v7, l7, rfl, hl7, hb7, ho7⟩
                  rw [F3.out]
                  have B7 := Lib.hid (B6.out.trans (hb7.mono B6.out.size))
                  clear hl7 hb7 ho7
                  go_wp2_with fail
                  have cQ := tokens_any (S ++ ⟨#[60, 112]⟩) (HT.out _ B7.out) (Nat.le_trans hz4.out (by decide))
                  refine cQ.mono ?_
                  clear cQ
                  rintro e w8 ⟨v8, l8, rfl, hl8, hb8, ho8⟩
                  rw [F4.out]
                  have B8 := Lib.hid (B7.out.trans (hb8.mono B7.out.size))
                  clear hl8 hb8 ho8
                  go_wp2_with fail
                  go_ret
                  exact ⟨by first | rfl | exact ret_bool (by simp), B8.out⟩
    · go_enter Tryz.func7, Tryz.ntmps7
      go_wp2_with (go_at_call 14; refine (alive_any h0 hT).mono ?_; rintro e w1 ⟨rfl, hb1⟩)
      go_ret
      exact ⟨rfl, hb1⟩
  · go_enter Tryz.func7, Tryz.ntmps7
    go_wp2_with (go_at_call 14; refine (alive_any h0 hT).mono ?_; rintro e w1 ⟨rfl, hb1⟩)
    go_ret
    exact ⟨rfl, hb1⟩
end Go.Proofs.YtpabackkapgkpaaGreatDoor
