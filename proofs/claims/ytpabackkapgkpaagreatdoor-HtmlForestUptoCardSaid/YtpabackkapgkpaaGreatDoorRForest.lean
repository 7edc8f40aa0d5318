/- bowdlerref14.Forest: the walk. -/
import Derived.Test.YtpabackkapgkpaaGreatDoorHTok
namespace Go.Proofs.YtpabackkapgkpaaGreatDoor
open Go.RowKit Go.Lib

theorem cutGt_none {l : List UInt8} (h : (62 : UInt8) ∉ l) : cutGt l = none := by
  induction l with
  | nil => rfl
  | cons c l ih =>
    have hc : c ≠ 62 := fun e => h (by simp [e])
    rw [cutGt, if_neg hc, ih (fun hm => h (by simp [hm]))]
theorem byte_at {s : ByteArray} {i : Nat} (h : i < s.size) : s.data.toList.drop i = s[i] :: s.data.toList.drop (i + 1) := by
  have hi : i < s.data.toList.length := by rw [← ba_size]; exact h
  rw [List.drop_eq_getElem_cons hi]
  congr 1
theorem take_up {l : List UInt8} {i k : Nat} {c : UInt8} {r : List UInt8} (h : l.drop k = c :: r) (hk : i ≤ k) : (l.drop i).take (k + 1 - i) = (l.drop i).take (k - i) ++ [c] := by
  have e : (l.drop i)[k - i]? = some c := by
    rw [List.getElem?_drop, show i + (k - i) = k by omega]
    have := congrArg (fun x : List UInt8 => x[0]?) h
    simpa using this
  rw [show k + 1 - i = (k - i) + 1 by omega, List.take_add_one, e]
  rfl
theorem split_at {l : List UInt8} {i k : Nat} {c : UInt8} {r : List UInt8} (h : l.drop k = c :: r) (hk : i ≤ k) : l.drop i = (l.drop i).take (k - i) ++ c :: r := by
  conv => lhs; rw [← List.take_append_drop (k - i) (l.drop i)]
  rw [List.drop_drop, show i + (k - i) = k by omega, h]
theorem nameL_go {l : List UInt8} {c : UInt8} {r : List UInt8} (h : l = c :: r) (h1 : c ≠ 32) (h2 : c ≠ 62) : nameL l = c :: nameL r := by
  rw [h, nameL, if_neg (by rintro (h | h) <;> contradiction)]
theorem nameL_stop0 {l : List UInt8} {c : UInt8} {r : List UInt8} (h : l = c :: r) (h1 : c = 32 ∨ c = 62) : nameL l = [] := by
  rw [h, nameL, if_pos h1]
/-- the row of open signs, copied -/
theorem Two.copied {w w3 w4 : World} {out op : List ByteArray} {vo vp v1 : Value} (h : Two w out op vo vp w3) (hown : w4.ownsRow w.heap.size 9 1 v1 op.length (op.reverse.map .string)) (hgr : w3.grownBy w4 none) (hblk : v1.ownBlock = none ∨ v1.ownBlock = some w3.heap.size) : Two w out op vo v1 w4 := by
  have hs := h.below.size
  refine ⟨h.below.grown hgr hs (fun k hk => by cases hk), row_kept h.out (fun g hg => hgr.block g (h.out.lt g hg).2 (fun e => by cases e)), hown, fun g hg hg2 => ?_⟩
  rcases hblk with e | e
  · rw [e] at hg2; cases hg2
  · rw [e] at hg2
    have := (h.out.lt g hg).2
    simp at hg2
    omega
theorem op_cells {w wr : World} {out op : List ByteArray} {vo : Value} {a : Option Addr} {cap : Nat} (h : Two w out op vo (.slice a op.length cap) wr) : (a = none → op.length = 0 ∧ cap = 0) ∧ ∀ ad, a = some ad → ∀ (j : Nat) (u : Value), (op.reverse.map Value.string)[j]? = some u → wr.cell? (ad.add j) = some u := by
  have ho := h.op
  rcases ho.2 with ⟨hv, h0⟩ | ⟨g, cap', cur, hv, hb, hg, hnc, hcm, -, -⟩
  · simp only [Value.slice.injEq] at hv
    obtain ⟨rfl, -, rfl⟩ := hv
    exact ⟨fun _ => ⟨h0, rfl⟩, fun ad hd => by cases hd⟩
  · cases hv
    refine ⟨fun h => (by cases h), fun ad hd j u hu => ?_⟩
    cases hd
    have e : (⟨g, 0, none⟩ : Addr).add j = ⟨g, j, none⟩ := by rw [Lib.add_plain, Nat.zero_add]
    have hj : j < op.length := by have := (List.getElem?_eq_some_iff.1 hu).1; simpa using this
    rw [e, ho.cellAt j (by omega)]
    exact hu
theorem beq_at {b c : UInt8} {z : Int} (h : b = c) (hz : (c.toNat : Int) = z) : ((b.toNat : Int) == z) = true ∧ ((b.toNat : Int) != z) = false := by
  rw [h, hz]; simp
theorem bne_at {b c : UInt8} {z : Int} (h : b ≠ c) (hz : (c.toNat : Int) = z) : ((b.toNat : Int) == z) = false ∧ ((b.toNat : Int) != z) = true := by
  have h1 : b.toNat ≠ c.toNat := fun e => h (UInt8.toNat_inj.1 e)
  have h2 : (b.toNat : Int) ≠ z := by omega
  simp [h2]
def closeF (op : List (List UInt8)) (nm : List UInt8) : Option (List (List UInt8)) := match op with | [] => none | top :: r => if top = nm then some r else none
/-- a sign, by its bytes -/
theorem sign_form {T : ByteArray} {m : List UInt8} (hT : T.data.toList = 60 :: m ++ [62]) (h1 : 1 < T.size) (h2 : T.size - 2 < T.size) (op : List (List UInt8)) :
    signStep T.data.toList op = if T[1] = 47 then closeF op (nameL (T.data.toList.drop 2)) else if T[T.size - 2] = 47 then some op else some (nameL (T.data.toList.drop 1) :: op) := by
  have h0 : 0 < T.size := by omega
  have e0 := byte_at h0
  have e1 := byte_at h1
  have e2 := byte_at h2
  have hlen : T.data.toList.length = m.length + 2 := by rw [hT]; simp
  have hz : T.size = m.length + 2 := by rw [ba_size, hlen]
  have p1 : hasPrefix T.data.toList [60, 47] = decide (T[1] = 47) := by
    have e : T.data.toList = T[0] :: T[1] :: T.data.toList.drop 2 := by rw [← e1, ← e0]; rfl
    have h60 : T[0] = 60 := by rw [List.drop_zero, hT] at e0; simpa using (congrArg List.head? e0).symm
    rw [e, h60]
    by_cases h : T[1] = 47
    · rw [h]; simp [hasPrefix]
    · show (((60 : UInt8) == 60) && (((47 : UInt8) == T[1]) && List.isPrefixOf [] _)) = _
      simp [h, Ne.symm h]
  have p2 : (T.data.toList.drop (T.data.toList.length - 2) = [47, 62]) ↔ T[T.size - 2] = 47 := by
    rw [← ba_size, e2]
    have : T.data.toList.drop (T.size - 2 + 1) = [62] := by
      rw [hT, hz, show m.length + 2 - 2 + 1 = (60 :: m).length by simp]
      exact List.drop_left' rfl
    rw [this]
    simp
  unfold signStep
  rw [p1]
  by_cases h : T[1] = 47
  · rw [if_pos (by simp [h]), if_pos h]
    cases op <;> rfl
  · rw [if_neg (by simp [h]), if_neg h]
    by_cases h9 : T[T.size - 2] = 47
    · rw [if_pos (p2.2 h9), if_pos h9]
    · rw [if_neg (fun e => h9 (p2.1 e)), if_neg h9]
theorem sign_at {T : ByteArray} {m : List UInt8} (hT : T.data.toList = 60 :: m ++ [62]) (h1 : 1 < T.size) (h2 : T.size - 2 < T.size) (op : List (List UInt8)) {c1 c2 : UInt8} (e1 : T[1] = c1) (e2 : T[T.size - 2] = c2) :
    signStep T.data.toList op = if c1 = 47 then closeF op (nameL (T.data.toList.drop 2)) else if c2 = 47 then some op else some (nameL (T.data.toList.drop 1) :: op) := by
  subst e1 e2; exact sign_form hT h1 h2 op
/-- what Forest answers -/
def ForPost (w : World) (s : ByteArray) (e : Ending) (w' : World) : Prop :=
  ∃ v : Value, e = .returned (.tuple #[v, .bool (forestF s.data.toList [] []).isSome]) ∧ Below w.heap.size w w'
theorem ForPost.no {w w' : World} {s : ByteArray} (h : forestF s.data.toList [] [] = none) (hb : Below w.heap.size w w') : ForPost w s (.returned (.tuple #[.slice none 0 0, .bool false])) w' := ⟨.slice none 0 0, by rw [h]; rfl, hb⟩
theorem ForPost.yes {w w' : World} {s : ByteArray} {v : Value} (h : (forestF s.data.toList [] []).isSome = true) (hb : Below w.heap.size w w') : ForPost w s (.returned (.tuple #[v, .bool true])) w' := ⟨v, by rw [h], hb⟩

set_option maxHeartbeats 4000000 in
set_option maxRecDepth 100000 in
theorem forest_any {w : World} (s : ByteArray) (hs : s.size ≤ 4000000000000) :
    Calls Tryz.prog 17 #[.string s] w (ForPost w s) := by
  obtain ⟨i0, hi, hz0, hz1, hz2⟩ := info_parts info_str
  have HI0 : Hid (Tryz.prog.info? 9 = some i0 ∧ i0.zero = some (.string ⟨#[]⟩) ∧ i0.size = 1 ∧ i0.bytes = 16) := ⟨hi, hz0, hz1, hz2⟩
  have R0 : Hid (TRel w s s [] [] (.slice none 0 0) (.slice none 0 0) w) := ⟨⟨Below.refl _ _, row_nil _ _ _ _, row_nil _ _ _ _, fun g hg => by simp [Value.ownBlock] at hg⟩, rfl, by simp, Nat.le_refl _⟩
  clear hi hz0 hz1 hz2
  go_enter Tryz.func17, Tryz.ntmps17
  go_wp2_with fail
  go_loopw [4, 5, 6] (fun vo vp vi wr => ∃ (i : Nat) (s' : ByteArray) (out op : List ByteArray), vi = .int .i64 i ∧ i ≤ s.size ∧ Hid (s'.data.toList = s.data.toList.drop i) ∧ Hid (TRel w s s' out op vo vp wr)) (fun _ _ vi _ => s.size - (RowKit.intOf vi).toNat)
  case atStart => exact ⟨0, s, [], [], rfl, Nat.zero_le _, rfl, R0⟩
  case round =>
    clear R0
    obtain ⟨i, s', out, op, rfl, hi, HS, HR⟩ := hrel
    obtain ⟨ao, co, hvo⟩ := row_slice HR.out.two.out
    obtain ⟨ap, cp, hvp⟩ := row_slice HR.out.two.op
    subst hvo hvp
    have hsz := HR.out.size
    have hln := HR.out.len
    have HEQ := Lib.hid HR.out.eq
    have hs' : s'.size = s.size - i := by rw [ba_size, HS.out, List.length_drop, ← ba_size]
    replace hs' := Lib.hid hs'
    have hsz' : s.size - i + 2 * out.length ≤ s.size := by rw [← hs'.out]; exact hsz
    clear hsz
    by_cases hlt : i < s.size
    · have hb := byte_at hlt
      by_cases h60 : s[i] = 60
      · obtain ⟨d1, d2⟩ := beq_at h60 (z := 60) rfl
        go_wp2_with fail
        go_loop [7] (fun vk => ∃ k : Nat, vk = .int .i64 k ∧ i ≤ k ∧ k ≤ s.size ∧ Hid ((62 : UInt8) ∉ (s.data.toList.drop i).take (k - i))) (fun vk => s.size - (RowKit.intOf vk).toNat)
        case atStart => exact ⟨i, rfl, Nat.le_refl _, hi, by simp [Hid]⟩
        case round =>
          obtain ⟨k, rfl, hik, hk, HK⟩ := hrel
          by_cases hkl : k < s.size
          · have hbk := byte_at hkl
            by_cases hk62 : s[k] = 62
            · obtain ⟨d3, d8⟩ := beq_at hk62 (z := 62) rfl
              have hik2 : i < k := by
                rcases Nat.lt_or_ge i k with h | h
                · exact h
                · have e9 : i = k := by omega
                  subst e9
                  rw [h60] at hk62; exact absurd hk62 (by decide)
              have hsp := split_at hbk hik
              obtain ⟨m, hm⟩ : ∃ m, (s.data.toList.drop i).take (k - i) = 60 :: m := by
                rw [hb, show k - i = (k - i - 1) + 1 by omega, List.take_succ_cons, h60]; exact ⟨_, rfl⟩
              have hm62 : (62 : UInt8) ∉ m := fun h => HK.out (by rw [hm]; exact List.mem_cons_of_mem _ h)
              obtain ⟨T, hT⟩ : ∃ T : ByteArray, s.extract i (k + 1) = T := ⟨_, rfl⟩
              have hTl : T.data.toList = 60 :: m ++ [62] := by
                rw [← hT, ba_extract, List.drop_take, take_up hbk hik, hm, hk62]
              have hTs : T.size = k + 1 - i := by rw [← hT]; simp; omega
              have hT1 : 1 < T.size := by omega
              have hT2 : T.size - 2 < T.size := by omega
              have HST := Lib.hid (show forestF s.data.toList [] [] = match signStep T.data.toList (op.map (·.data.toList)) with | none => none | some op' => forestF (s.data.toList.drop (k + 1)) op' (out.map (·.data.toList) ++ [T.data.toList]) by
                rw [← HEQ.out, HS.out, hsp, hm, hk62, hTl]
                have e9 : 60 :: m ++ 62 :: s.data.toList.drop (k + 1) = 60 :: m ++ [62] ++ s.data.toList.drop (k + 1) := by simp
                rw [e9, forestF_sign hm62]; rfl)
              have HSF := Lib.hid (fun op c1 c2 (h1 : T[1] = c1) (h2 : T[T.size - 2] = c2) => sign_at hTl hT1 hT2 op h1 h2)
              have HLAST : Hid (∀ j, T.size ≤ j + 1 → ∀ (h : j < T.size), T[j] = 62) := fun j h1 h2 => by
                have hz : T.size = (60 :: m).length + 1 := by rw [ba_size, hTl]; simp
                obtain rfl : j = (60 :: m).length := by omega
                have e9 := byte_at h2
                rw [hTl, List.drop_left' rfl] at e9
                simpa using (congrArg List.head? e9).symm
              have hm1 : out.length + 1 ≤ maxLen := by unfold maxLen; omega
              have hm2 : (out.length + 1) * 16 ≤ 140737488355328 := by omega
              have hm3 : op.length + 1 ≤ maxLen := by unfold maxLen; omega
              have hm4 : (op.length + 1) * 16 ≤ 140737488355328 := by omega
              have hba := big_alloc HR.out.two.below (.cells #[.string T] 9)
              have HTT := Lib.hid hTs
              have hTs1 : (2 : Int) ≤ T.size := by omega
              have hTs2 : T.size ≤ 4000000000001 := by omega
              have hkT : k + 1 = i + T.size := by omega
              have HKT := Lib.hid hkT
              clear hb hbk hsp hm hTl hm62 hTs hkT
              obtain ⟨c1, hc1⟩ : ∃ c1, T[1] = c1 := ⟨_, rfl⟩
              by_cases h47 : c1 = 47
              · obtain ⟨d9, d10⟩ := beq_at h47 (z := 47) rfl
                have hT3 : 2 + 1 ≤ T.size := by
                  rcases Nat.lt_or_ge 2 T.size with h | h
                  · exact h
                  · have := HLAST.out 1 (by omega) hT1
                    rw [hc1, h47] at this; exact absurd this (by decide)
                replace h47 := Lib.hid h47
                go_wp2_with (at_builtin; refine wpList_append_any rfl (.tmp 45) (.tmp 47) 32 rfl w.heap.size 9 i0 (.string ⟨#[]⟩) 1 16 Tryz.underlying32 HI0.out.1 HI0.out.2.1 HI0.out.2.2.1 HI0.out.2.2.2 rfl (by decide) (.slice ao out.length co) out.length (out.map .string) rfl (HR.out.two.out.alloc _) (some ⟨wr.heap.size, 0, none⟩) 1 1 [.string T] rfl rfl (fun h => by cases h) (news_one wr _ _) (fun u hu => by rw [List.mem_singleton.1 hu]; rfl) hm1 hm2 hba ?_; intro v' w4 hown4 hgr4 hblk4; have H4 := Lib.hid (Two.push_out HR.out.two hown4 hgr4 hblk4); clear hown4 hgr4 hblk4)
                go_loop [9, 11] (fun vn vj => ∃ (j : Nat) (N : ByteArray), vj = .int .i64 j ∧ vn = .string N ∧ 2 ≤ j ∧ j + 1 ≤ T.size ∧ N.size ≤ j ∧ Hid (N.data.toList ++ nameL (T.data.toList.drop j) = nameL (T.data.toList.drop 2))) (fun _ vj => T.size - (RowKit.intOf vj).toNat)
                case atStart => exact ⟨2, ⟨#[]⟩, rfl, rfl, Nat.le_refl _, by omega, by show (0 : Nat) ≤ _; omega, by show _ = _; rfl⟩
                case round =>
                  obtain ⟨j, N, rfl, rfl, hfj, hj, hNj, HNM⟩ := hrel
                  have hjl : j < T.size := by omega
                  have hbj := byte_at hjl
                  by_cases hj32 : T[j] = 32
                  · obtain ⟨d4, d5⟩ := beq_at hj32 (z := 32) rfl
                    have HNE := Lib.hid (show nameL (T.data.toList.drop 2) = N.data.toList by rw [← HNM.out, nameL_stop0 hbj (.inl hj32), List.append_nil])
                    clear hbj HNM hj32
                    cases op with
                    | nil =>
                      have HE := Lib.hid (show forestF s.data.toList [] [] = none by
                        rw [HST.out, HSF.out _ _ _ hc1 rfl, if_pos h47.out]; rfl)
                      simp only [List.length_nil] at *
                      go_wp2_with fail
                      go_ret2
                      exact ForPost.no HE.out H4.out.below
                    | cons p q =>
                      obtain ⟨g, rfl, hg, hcp1, hcp2, htc, HP⟩ := H4.out.top
                      have e1 : IntKind.i64.wrap (((q.length : Int) + 1) - 1) = (q.length : Int) := by simp only [List.length_cons] at hm3; unfold maxLen at hm3; rw [IntWalk.i64_in _ (by omega)]; omega
                      have hq0 : (0 : Int) ≤ (q.length : Int) := by omega
                      have hq1 : (q.length : Int) < (q.length : Int) + 1 := by omega
                      have hq2 : (q.length : Int) ≤ (cp : Int) := by omega
                      have hq3 : ¬ (q.length : Int) < 0 := by omega
                      have hst : signStep T.data.toList ((p :: q).map (·.data.toList)) = if p.data.toList = N.data.toList then some (q.map (·.data.toList)) else none := by
                        rw [HSF.out _ _ _ hc1 rfl, if_pos h47.out, HNE.out]; rfl
                      simp only [List.length_cons] at *
                      cases htn : (p.toList == N.toList) with
                      | true =>
                        have hpn : p.data.toList = N.data.toList := by rw [← Lib.toList_data, ← Lib.toList_data]; exact eq_of_beq htn
                        have htn2 : (p.toList != N.toList) = false := by rw [bne, htn]; rfl
                        have HE := Lib.hid (show forestF (s.data.toList.drop (k + 1)) (q.map (·.data.toList)) ((out ++ [T]).map (·.data.toList)) = forestF s.data.toList [] [] by
                          rw [HST.out, hst, if_pos hpn, List.map_append]; rfl)
                        clear hst hpn
                        go_wp2_with fail
                        go_roundw
                        case rel =>
                          obtain ⟨S', hS'⟩ : ∃ S' : ByteArray, S'.data.toList = s.data.toList.drop (k + 1) := ⟨_, ba_mk _⟩
                          have hS's : S'.size = s.size - (k + 1) := by rw [ba_size, hS', List.length_drop, ← ba_size]
                          exact ⟨k + 1, S', _, q, by go_num, by omega, hS', ⟨HP, by rw [hS']; exact HE.out, by rw [List.length_append, List.length_singleton]; omega, by rw [List.length_append, List.length_singleton]; omega⟩⟩
                        case measure => simp only [RowKit.intOf]; omega
                      | false =>
                        have hpn : p.data.toList ≠ N.data.toList := by rw [← Lib.toList_data, ← Lib.toList_data]; exact ne_of_beq_false htn
                        have htn2 : (p.toList != N.toList) = true := by rw [bne, htn]; rfl
                        have HE := Lib.hid (show forestF s.data.toList [] [] = none by rw [HST.out, hst, if_neg hpn])
                        clear hst hpn
                        go_wp2_with fail
                        go_ret2
                        exact ForPost.no HE.out H4.out.below
                  · obtain ⟨d4, d5⟩ := bne_at hj32 (z := 32) rfl
                    by_cases hj62 : T[j] = 62
                    · obtain ⟨d6, d7⟩ := beq_at hj62 (z := 62) rfl
                      have HNE := Lib.hid (show nameL (T.data.toList.drop 2) = N.data.toList by rw [← HNM.out, nameL_stop0 hbj (.inr hj62), List.append_nil])
                      clear hbj HNM hj62
                      cases op with
                      | nil =>
                        have HE := Lib.hid (show forestF s.data.toList [] [] = none by
                          rw [HST.out, HSF.out _ _ _ hc1 rfl, if_pos h47.out]; rfl)
                        simp only [List.length_nil] at *
                        go_wp2_with fail
                        go_ret2
                        exact ForPost.no HE.out H4.out.below
                      | cons p q =>
                        obtain ⟨g, rfl, hg, hcp1, hcp2, htc, HP⟩ := H4.out.top
                        have e1 : IntKind.i64.wrap (((q.length : Int) + 1) - 1) = (q.length : Int) := by simp only [List.length_cons] at hm3; unfold maxLen at hm3; rw [IntWalk.i64_in _ (by omega)]; omega
                        have hq0 : (0 : Int) ≤ (q.length : Int) := by omega
                        have hq1 : (q.length : Int) < (q.length : Int) + 1 := by omega
                        have hq2 : (q.length : Int) ≤ (cp : Int) := by omega
                        have hq3 : ¬ (q.length : Int) < 0 := by omega
                        have hst : signStep T.data.toList ((p :: q).map (·.data.toList)) = if p.data.toList = N.data.toList then some (q.map (·.data.toList)) else none := by
                          rw [HSF.out _ _ _ hc1 rfl, if_pos h47.out, HNE.out]; rfl
                        simp only [List.length_cons] at *
                        cases htn : (p.toList == N.toList) with
                        | true =>
                          have hpn : p.data.toList = N.data.toList := by rw [← Lib.toList_data, ← Lib.toList_data]; exact eq_of_beq htn
                          have htn2 : (p.toList != N.toList) = false := by rw [bne, htn]; rfl
                          have HE := Lib.hid (show forestF (s.data.toList.drop (k + 1)) (q.map (·.data.toList)) ((out ++ [T]).map (·.data.toList)) = forestF s.data.toList [] [] by
                            rw [HST.out, hst, if_pos hpn, List.map_append]; rfl)
                          clear hst hpn
                          go_wp2_with fail
                          go_roundw
                          case rel =>
                            obtain ⟨S', hS'⟩ : ∃ S' : ByteArray, S'.data.toList = s.data.toList.drop (k + 1) := ⟨_, ba_mk _⟩
                            have hS's : S'.size = s.size - (k + 1) := by rw [ba_size, hS', List.length_drop, ← ba_size]
                            exact ⟨k + 1, S', _, q, by go_num, by omega, hS', ⟨HP, by rw [hS']; exact HE.out, by rw [List.length_append, List.length_singleton]; omega, by rw [List.length_append, List.length_singleton]; omega⟩⟩
                          case measure => simp only [RowKit.intOf]; omega
                        | false =>
                          have hpn : p.data.toList ≠ N.data.toList := by rw [← Lib.toList_data, ← Lib.toList_data]; exact ne_of_beq_false htn
                          have htn2 : (p.toList != N.toList) = true := by rw [bne, htn]; rfl
                          have HE := Lib.hid (show forestF s.data.toList [] [] = none by rw [HST.out, hst, if_neg hpn])
                          clear hst hpn
                          go_wp2_with fail
                          go_ret2
                          exact ForPost.no HE.out H4.out.below
                    · obtain ⟨d6, d7⟩ := bne_at hj62 (z := 62) rfl
                      have hj2 : j + 1 < T.size := by
                        rcases Nat.lt_or_ge (j + 1) T.size with h | h
                        · exact h
                        · exact absurd (HLAST.out j (by omega) hjl) hj62
                      obtain ⟨M, hM⟩ : ∃ M : ByteArray, M = N ++ T.extract j (j + 1) := ⟨_, rfl⟩
                      have hMl : M.data.toList = N.data.toList ++ [T[j]] := by
                        rw [hM, ba_append, ba_extract, List.drop_take, hbj, show j + 1 - j = 1 by omega]; rfl
                      have HM := Lib.hid (show M.data.toList ++ nameL (T.data.toList.drop (j + 1)) = nameL (T.data.toList.drop 2) by
                        rw [hMl, ← HNM.out, nameL_go hbj hj32 hj62, List.append_assoc]; rfl)
                      have hMs : M.size ≤ j + 1 := by rw [ba_size, hMl, List.length_append, ← ba_size]; simp; omega
                      have HM9 := Lib.hid hM
                      clear hbj HNM hj62 hj32 hM hMl
                      go_wp2_with fail
                      go_round
                      case rel => exact ⟨j + 1, M, by go_num, by rw [HM9.out], by omega, by omega, hMs, HM⟩
                      case measure => simp only [RowKit.intOf]; omega
              · obtain ⟨d9, d10⟩ := bne_at h47 (z := 47) rfl
                replace h47 := Lib.hid h47
                go_wp2_with (at_builtin; refine wpList_append_any rfl (.tmp 45) (.tmp 47) 32 rfl w.heap.size 9 i0 (.string ⟨#[]⟩) 1 16 Tryz.underlying32 HI0.out.1 HI0.out.2.1 HI0.out.2.2.1 HI0.out.2.2.2 rfl (by decide) (.slice ao out.length co) out.length (out.map .string) rfl (HR.out.two.out.alloc _) (some ⟨wr.heap.size, 0, none⟩) 1 1 [.string T] rfl rfl (fun h => by cases h) (news_one wr _ _) (fun u hu => by rw [List.mem_singleton.1 hu]; rfl) hm1 hm2 hba ?_; intro v' w4 hown4 hgr4 hblk4; have H4 := Lib.hid (Two.push_out HR.out.two hown4 hgr4 hblk4); clear hown4 hgr4 hblk4)
                go_loop [9, 11] (fun vn vj => ∃ (j : Nat) (N : ByteArray), vj = .int .i64 j ∧ vn = .string N ∧ 1 ≤ j ∧ j + 1 ≤ T.size ∧ N.size ≤ j ∧ Hid (N.data.toList ++ nameL (T.data.toList.drop j) = nameL (T.data.toList.drop 1))) (fun _ vj => T.size - (RowKit.intOf vj).toNat)
                case atStart => exact ⟨1, ⟨#[]⟩, rfl, rfl, Nat.le_refl _, by omega, by show (0 : Nat) ≤ _; omega, by show _ = _; rfl⟩
                case round =>
                  obtain ⟨j, N, rfl, rfl, hfj, hj, hNj, HNM⟩ := hrel
                  have hjl : j < T.size := by omega
                  have hbj := byte_at hjl
                  by_cases hj32 : T[j] = 32
                  · obtain ⟨d4, d5⟩ := beq_at hj32 (z := 32) rfl
                    have HNE := Lib.hid (show nameL (T.data.toList.drop 1) = N.data.toList by rw [← HNM.out, nameL_stop0 hbj (.inl hj32), List.append_nil])
                    clear hbj HNM hj32
                    obtain ⟨c2, hc2⟩ : ∃ c2, T[T.size - 2] = c2 := ⟨_, rfl⟩
                    by_cases hsf : c2 = 47
                    · have dsf : ((c2.toNat : Int) == 47) = true := by rw [hsf]; rfl
                      have HE := Lib.hid (show forestF (s.data.toList.drop (k + 1)) (op.map (·.data.toList)) ((out ++ [T]).map (·.data.toList)) = forestF s.data.toList [] [] by
                        rw [HST.out, HSF.out _ _ _ hc1 hc2, if_neg h47.out, if_pos hsf, List.map_append]; rfl)
                      clear hsf
                      go_wp2_with fail
                      go_roundw
                      case rel =>
                        obtain ⟨S', hS'⟩ : ∃ S' : ByteArray, S'.data.toList = s.data.toList.drop (k + 1) := ⟨_, ba_mk _⟩
                        have hS's : S'.size = s.size - (k + 1) := by rw [ba_size, hS', List.length_drop, ← ba_size]
                        exact ⟨k + 1, S', _, op, by go_num, by omega, hS', ⟨H4.out, by rw [hS']; exact HE.out, by rw [List.length_append, List.length_singleton]; omega, by rw [List.length_append, List.length_singleton]; omega⟩⟩
                      case measure => simp only [RowKit.intOf]; omega
                    · have dsf : ((c2.toNat : Int) == 47) = false := by
                        have : c2.toNat ≠ 47 := fun e => hsf (UInt8.toNat_inj.1 e)
                        simp; omega
                      have HE := Lib.hid (show forestF (s.data.toList.drop (k + 1)) ((N :: op).map (·.data.toList)) ((out ++ [T]).map (·.data.toList)) = forestF s.data.toList [] [] by
                        rw [HST.out, HSF.out _ _ _ hc1 hc2, if_neg h47.out, if_neg hsf, List.map_append, HNE.out]; rfl)
                      have OC := Lib.hid (op_cells H4.out)
                      have hw4 := H4.out.below.size
                      have CP := Lib.hid (fun (v1 : Value) (w5 : World) => Two.copied H4.out (v1 := v1) (w4 := w5))
                      have hm0 : 0 + op.length ≤ maxLen := by unfold maxLen at *; omega
                      have hm00 : (0 + op.length) * 16 ≤ 140737488355328 := by omega
                      clear hsf
                      go_wp2_with (first
                        | (at_builtin; refine wpList_append_any rfl (.const (.slice none 0 0)) (.tmp 85) 32 rfl w.heap.size 9 i0 (.string ⟨#[]⟩) 1 16 Tryz.underlying32 HI0.out.1 HI0.out.2.1 HI0.out.2.2.1 HI0.out.2.2.2 rfl (by decide) (.slice none 0 0) 0 [] rfl (row_nil _ _ _ _) ap op.length cp (op.reverse.map .string) rfl (by simp) OC.out.1 OC.out.2 (fun u hu => by obtain ⟨x, -, rfl⟩ := List.mem_map.1 hu; rfl) hm0 hm00 hw4 ?_; intro v5 w5 hown5 hgr5 hblk5; have H5 := Lib.hid (CP.out v5 w5 (by simpa using hown5) hgr5 hblk5); have hba5 := big_alloc H5.out.below (.cells #[.string N] 9); clear hown5 hgr5 hblk5)
                        | (at_builtin; refine wpList_append_any rfl (.tmp 86) (.tmp 88) 32 rfl w.heap.size 9 i0 (.string ⟨#[]⟩) 1 16 Tryz.underlying32 HI0.out.1 HI0.out.2.1 HI0.out.2.2.1 HI0.out.2.2.2 rfl (by decide) v5 op.length (op.reverse.map .string) rfl (H5.out.op.alloc _) (some ⟨w5.heap.size, 0, none⟩) 1 1 [.string N] rfl rfl (fun h => by cases h) (news_one w5 _ _) (fun u hu => by rw [List.mem_singleton.1 hu]; rfl) hm3 hm4 hba5 ?_; intro v6 w6 hown6 hgr6 hblk6; have H6 := Lib.hid (Two.push_op H5.out hown6 hgr6 hblk6); clear hown6 hgr6 hblk6))
                      go_roundw
                      case rel =>
                        obtain ⟨S', hS'⟩ : ∃ S' : ByteArray, S'.data.toList = s.data.toList.drop (k + 1) := ⟨_, ba_mk _⟩
                        have hS's : S'.size = s.size - (k + 1) := by rw [ba_size, hS', List.length_drop, ← ba_size]
                        exact ⟨k + 1, S', _, N :: op, by go_num, by omega, hS', ⟨H6.out, by rw [hS']; exact HE.out, by rw [List.length_append, List.length_singleton]; omega, by rw [List.length_append, List.length_singleton, List.length_cons]; omega⟩⟩
                      case measure => simp only [RowKit.intOf]; omega
                  · obtain ⟨d4, d5⟩ := bne_at hj32 (z := 32) rfl
                    by_cases hj62 : T[j] = 62
                    · obtain ⟨d6, d7⟩ := beq_at hj62 (z := 62) rfl
                      have HNE := Lib.hid (show nameL (T.data.toList.drop 1) = N.data.toList by rw [← HNM.out, nameL_stop0 hbj (.inr hj62), List.append_nil])
                      clear hbj HNM hj62
                      obtain ⟨c2, hc2⟩ : ∃ c2, T[T.size - 2] = c2 := ⟨_, rfl⟩
                      by_cases hsf : c2 = 47
                      · have dsf : ((c2.toNat : Int) == 47) = true := by rw [hsf]; rfl
                        have HE := Lib.hid (show forestF (s.data.toList.drop (k + 1)) (op.map (·.data.toList)) ((out ++ [T]).map (·.data.toList)) = forestF s.data.toList [] [] by
                          rw [HST.out, HSF.out _ _ _ hc1 hc2, if_neg h47.out, if_pos hsf, List.map_append]; rfl)
                        clear hsf
                        go_wp2_with fail
                        go_roundw
                        case rel =>
                          obtain ⟨S', hS'⟩ : ∃ S' : ByteArray, S'.data.toList = s.data.toList.drop (k + 1) := ⟨_, ba_mk _⟩
                          have hS's : S'.size = s.size - (k + 1) := by rw [ba_size, hS', List.length_drop, ← ba_size]
                          exact ⟨k + 1, S', _, op, by go_num, by omega, hS', ⟨H4.out, by rw [hS']; exact HE.out, by rw [List.length_append, List.length_singleton]; omega, by rw [List.length_append, List.length_singleton]; omega⟩⟩
                        case measure => simp only [RowKit.intOf]; omega
                      · have dsf : ((c2.toNat : Int) == 47) = false := by
                          have : c2.toNat ≠ 47 := fun e => hsf (UInt8.toNat_inj.1 e)
                          simp; omega
                        have HE := Lib.hid (show forestF (s.data.toList.drop (k + 1)) ((N :: op).map (·.data.toList)) ((out ++ [T]).map (·.data.toList)) = forestF s.data.toList [] [] by
                          rw [HST.out, HSF.out _ _ _ hc1 hc2, if_neg h47.out, if_neg hsf, List.map_append, HNE.out]; rfl)
                        have OC := Lib.hid (op_cells H4.out)
                        have hw4 := H4.out.below.size
                        have CP := Lib.hid (fun (v1 : Value) (w5 : World) => Two.copied H4.out (v1 := v1) (w4 := w5))
                        have hm0 : 0 + op.length ≤ maxLen := by unfold maxLen at *; omega
                        have hm00 : (0 + op.length) * 16 ≤ 140737488355328 := by omega
                        clear hsf
                        go_wp2_with (first
                          | (at_builtin; refine wpList_append_any rfl (.const (.slice none 0 0)) (.tmp 85) 32 rfl w.heap.size 9 i0 (.string ⟨#[]⟩) 1 16 Tryz.underlying32 HI0.out.1 HI0.out.2.1 HI0.out.2.2.1 HI0.out.2.2.2 rfl (by decide) (.slice none 0 0) 0 [] rfl (row_nil _ _ _ _) ap op.length cp (op.reverse.map .string) rfl (by simp) OC.out.1 OC.out.2 (fun u hu => by obtain ⟨x, -, rfl⟩ := List.mem_map.1 hu; rfl) hm0 hm00 hw4 ?_; intro v5 w5 hown5 hgr5 hblk5; have H5 := Lib.hid (CP.out v5 w5 (by simpa using hown5) hgr5 hblk5); have hba5 := big_alloc H5.out.below (.cells #[.string N] 9); clear hown5 hgr5 hblk5)
                          | (at_builtin; refine wpList_append_any rfl (.tmp 86) (.tmp 88) 32 rfl w.heap.size 9 i0 (.string ⟨#[]⟩) 1 16 Tryz.underlying32 HI0.out.1 HI0.out.2.1 HI0.out.2.2.1 HI0.out.2.2.2 rfl (by decide) v5 op.length (op.reverse.map .string) rfl (H5.out.op.alloc _) (some ⟨w5.heap.size, 0, none⟩) 1 1 [.string N] rfl rfl (fun h => by cases h) (news_one w5 _ _) (fun u hu => by rw [List.mem_singleton.1 hu]; rfl) hm3 hm4 hba5 ?_; intro v6 w6 hown6 hgr6 hblk6; have H6 := Lib.hid (Two.push_op H5.out hown6 hgr6 hblk6); clear hown6 hgr6 hblk6))
                        go_roundw
                        case rel =>
                          obtain ⟨S', hS'⟩ : ∃ S' : ByteArray, S'.data.toList = s.data.toList.drop (k + 1) := ⟨_, ba_mk _⟩
                          have hS's : S'.size = s.size - (k + 1) := by rw [ba_size, hS', List.length_drop, ← ba_size]
                          exact ⟨k + 1, S', _, N :: op, by go_num, by omega, hS', ⟨H6.out, by rw [hS']; exact HE.out, by rw [List.length_append, List.length_singleton]; omega, by rw [List.length_append, List.length_singleton, List.length_cons]; omega⟩⟩
                        case measure => simp only [RowKit.intOf]; omega
                    · obtain ⟨d6, d7⟩ := bne_at hj62 (z := 62) rfl
                      have hj2 : j + 1 < T.size := by
                        rcases Nat.lt_or_ge (j + 1) T.size with h | h
                        · exact h
                        · exact absurd (HLAST.out j (by omega) hjl) hj62
                      obtain ⟨M, hM⟩ : ∃ M : ByteArray, M = N ++ T.extract j (j + 1) := ⟨_, rfl⟩
                      have hMl : M.data.toList = N.data.toList ++ [T[j]] := by
                        rw [hM, ba_append, ba_extract, List.drop_take, hbj, show j + 1 - j = 1 by omega]; rfl
                      have HM := Lib.hid (show M.data.toList ++ nameL (T.data.toList.drop (j + 1)) = nameL (T.data.toList.drop 1) by
                        rw [hMl, ← HNM.out, nameL_go hbj hj32 hj62, List.append_assoc]; rfl)
                      have hMs : M.size ≤ j + 1 := by rw [ba_size, hMl, List.length_append, ← ba_size]; simp; omega
                      have HM9 := Lib.hid hM
                      clear hbj HNM hj62 hj32 hM hMl
                      go_wp2_with fail
                      go_round
                      case rel => exact ⟨j + 1, M, by go_num, by rw [HM9.out], by omega, by omega, hMs, HM⟩
                      case measure => simp only [RowKit.intOf]; omega
            · obtain ⟨d3, d8⟩ := bne_at hk62 (z := 62) rfl
              have HK2 : Hid ((62 : UInt8) ∉ (s.data.toList.drop i).take (k + 1 - i)) := by
                show _ ∉ _
                rw [take_up hbk hik]
                intro h
                rcases List.mem_append.1 h with h | h
                · exact HK.out h
                · exact hk62 (List.mem_singleton.1 h).symm
              clear hb hbk
              go_wp2_with fail
              go_round
              case rel => exact ⟨k + 1, by go_num, by omega, by omega, HK2⟩
              case measure => simp only [RowKit.intOf]; omega
          · obtain rfl : k = s.size := by omega
            have hnn : ¬ ((s.size : Int) < s.size) := by omega
            have HE := Lib.hid (show forestF s.data.toList [] [] = none by
              have h9 := HK.out
              rw [List.take_of_length_le (by rw [List.length_drop, ← ba_size]; exact Nat.le_refl _)] at h9
              rw [← HEQ.out, HS.out, forestF_step]
              have e9 : (s.data.toList.drop i).dropWhile (· != 60) = s.data.toList.drop i := by rw [hb, h60]; rfl
              rw [e9, cutGt_none h9]
              rw [if_neg]
              rintro ⟨h, -⟩
              rw [hb] at h; cases h)
            clear hb
            go_wp2_with fail
            go_ret2
            exact ForPost.no HE.out HR.out.two.below
      · obtain ⟨d1, d2⟩ := bne_at h60 (z := 60) rfl
        have HE := Lib.hid (show forestF (s.data.toList.drop (i + 1)) (op.map (·.data.toList)) (out.map (·.data.toList)) = forestF s.data.toList [] [] by
          rw [← HEQ.out, HS.out, hb]
          exact (forestF_text (t := [s[i]]) (by simp; exact fun e => h60 e.symm) _ _ _).symm)
        clear hb
        go_wp2_with fail
        go_roundw
        case rel =>
          obtain ⟨S', hS'⟩ : ∃ S' : ByteArray, S'.data.toList = s.data.toList.drop (i + 1) := ⟨_, ba_mk _⟩
          have hS's : S'.size = s.size - (i + 1) := by rw [ba_size, hS', List.length_drop, ← ba_size]
          exact ⟨i + 1, S', out, op, by go_num, by omega, hS', ⟨HR.out.two, by rw [hS']; exact HE.out, by omega, hln⟩⟩
        case measure => simp only [RowKit.intOf]; omega
    · obtain rfl : i = s.size := by omega
      have hnn : ¬ ((s.size : Int) < s.size) := by omega
      have hf : forestF s.data.toList [] [] = if op.map (·.data.toList) = [] then some (out.map (·.data.toList)) else none := by
        rw [← HEQ.out, HS.out, List.drop_of_length_le (by rw [← ba_size]; exact Nat.le_refl _), forestF_step]
        simp [cutGt]
      cases op with
      | nil =>
        have HE := Lib.hid (show (forestF s.data.toList [] []).isSome = true by rw [hf]; rfl)
        clear hf
        go_wp2_with fail
        go_ret2
        exact ForPost.yes HE.out HR.out.two.below
      | cons p q =>
        have HE := Lib.hid (show forestF s.data.toList [] [] = none by rw [hf]; rfl)
        have hq : (0 : Int) < ((p :: q).length : Int) := by rw [List.length_cons]; omega
        clear hf
        go_wp2_with fail
        go_ret2
        exact ForPost.no HE.out HR.out.two.below
end Go.Proofs.YtpabackkapgkpaaGreatDoor
