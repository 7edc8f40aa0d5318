/- bowdlerbook.SameSecs, markSecs, copySecs: the walks. -/
import Derived.Test.YtbblgnbafecdmaaGreatDoorBkMark
import Derived.Test.YtbblgnbafecdmaaGreatDoorSecs
import Derived.Deep.QuietTactic
import Derived.BigQuiet
namespace Go.Proofs.YtbblgnbafecdmaaGreatDoor.bk
open Go.RowKit Go.Lib

/-- sections lie in a slice -/
def SecsW (w : World) (v : Value) (l : List Sec) : Prop :=
  (l = [] ∧ ∃ a cap, v = .slice a 0 cap) ∨ ∃ b o cap, v = .slice (some ⟨b, o, none⟩) l.length cap ∧ b < w.heap.size ∧ ∀ i (h : i < l.length), SecAt w b (o + i * 4) l[i]
theorem SecsW.below {w w' : World} {v : Value} {l : List Sec} (h : SecsW w v l) (hb : Below w.heap.size w w') : SecsW w' v l := by
  rcases h with h | ⟨b, o, cap, hv, hlt, hc⟩
  · exact .inl h
  · exact .inr ⟨b, o, cap, hv, Nat.lt_of_lt_of_le hlt hb.size, fun i hi => (hc i hi).below hb hlt⟩
theorem SecsW.form {w : World} {v : Value} {l : List Sec} (h : SecsW w v l) : ∃ a cap, v = .slice a l.length cap := by
  rcases h with ⟨rfl, a, cap, rfl⟩ | ⟨b, o, cap, rfl, -⟩
  · exact ⟨_, _, rfl⟩
  · exact ⟨_, _, rfl⟩
theorem SecsW.cells {w : World} {v : Value} {l : List Sec} {a : Option Addr} {cap : Nat} (h : SecsW w v l) (hv : v = .slice a l.length cap) (hne : 0 < l.length) : ∃ b o, a = some ⟨b, o, none⟩ ∧ b < w.heap.size ∧ ∀ i (h : i < l.length), SecAt w b (o + i * 4) l[i] := by
  rcases h with ⟨rfl, -⟩ | ⟨b, o, cap', rfl, hb, hc⟩
  · simp at hne
  · simp only [Value.slice.injEq] at hv
    exact ⟨b, o, hv.1.symm, hb, hc⟩
theorem secs_len4 (l : List Sec) : (l.flatMap Sec.cells).length = l.length * 4 := by
  induction l with
  | nil => rfl
  | cons s l ih => rw [List.flatMap_cons, List.length_append, ih, List.length_cons]; show 4 + _ = _; omega
theorem secs_get : ∀ (l : List Sec) (i j : Nat) (h : i < l.length), j < 4 → (l.flatMap Sec.cells)[i * 4 + j]? = (Sec.cells l[i])[j]?
  | x :: l, 0, j, _, hj => by
    rw [List.flatMap_cons, Nat.zero_mul, Nat.zero_add, List.getElem?_append_left (by show j < 4; exact hj)]
    rfl
  | x :: l, i + 1, j, h, hj => by
    have e : (i + 1) * 4 + j = (Sec.cells x).length + (i * 4 + j) := by show _ = 4 + _; omega
    rw [List.flatMap_cons, e, List.getElem?_append_right (by omega), Nat.add_sub_cancel_left, secs_get l i j (by simpa using h) hj]
    rfl
theorem secsW_row {w : World} {base : Nat} {v : Value} {L : List Sec} {n : Nat} (h : w.ownsRow base 52 4 v n (L.flatMap Sec.cells)) : SecsW w v L := by
  have hn : n = L.length := by have := h.1; rw [secs_len4] at this; omega
  subst hn
  by_cases hL : L = []
  · subst hL
    rcases h.2 with ⟨rfl, _⟩ | ⟨g, cap, cur, rfl, _⟩
    · exact .inl ⟨rfl, _, _, rfl⟩
    · exact .inl ⟨rfl, _, _, rfl⟩
  · have h1 : 0 < L.length := List.length_pos_iff.2 hL
    obtain ⟨g, cap, rfl, _⟩ := row_some h (by rw [secs_len4]; omega)
    refine .inr ⟨g, 0, cap, rfl, (h.lt g rfl).2, fun i hi => ?_⟩
    have k := fun j (hj : j < 4) => (h.cellAt (i * 4 + j) (by omega)).trans (secs_get L i j hi hj)
    rw [Nat.zero_add]
    exact ⟨k 0 (by omega), k 1 (by omega), k 2 (by omega), k 3 (by omega)⟩

/-- are two lists of sections one? -/
def secKey (s : Sec) : Int × List UInt8 × List UInt8 × List UInt8 := (s.level, s.number.toList, s.anchor.toList, s.text.toList)
def sameS (a b : List Sec) : Bool := a.map secKey == b.map secKey
theorem ba_one {x y : ByteArray} (h : x.toList = y.toList) : x = y := eqB_iff.1 (by unfold eqB; rw [h]; simp)
theorem secKey_inj {x y : Sec} (h : secKey x = secKey y) : x = y := by
  obtain ⟨a, b, c, d⟩ := x
  obtain ⟨a', b', c', d'⟩ := y
  simp only [secKey, Prod.mk.injEq] at h
  obtain ⟨rfl, h1, h2, h3⟩ := h
  rw [ba_one h1, ba_one h2, ba_one h3]
theorem sameS_iff {a b : List Sec} : sameS a b = true ↔ a = b := by
  unfold sameS
  rw [beq_iff_eq]
  exact ⟨fun h => List.map_inj_right (fun x y h => secKey_inj h) |>.1 h, fun h => by rw [h]⟩
theorem sameS_false {a b : List Sec} : sameS a b = false ↔ a ≠ b := by
  rw [← Bool.not_eq_true, ne_eq, not_congr]; exact sameS_iff
theorem sameS_len {a b : List Sec} (h : a.length ≠ b.length) : sameS a b = false := sameS_false.2 (fun e => h (by rw [e]))
theorem sameS_refl (a : List Sec) : sameS a a = true := sameS_iff.2 rfl
/-- where two sections differ -/
theorem sec_cases (x y : Sec) : (((x.level == y.level) = true ∧ (x.number.toList == y.number.toList) = true ∧ (x.anchor.toList == y.anchor.toList) = true ∧ (x.text.toList == y.text.toList) = true) ∧ x = y) ∨
    (((x.level == y.level) = false ∨ ((x.level == y.level) = true ∧ (x.number.toList == y.number.toList) = false) ∨ ((x.level == y.level) = true ∧ (x.number.toList == y.number.toList) = true ∧ (x.anchor.toList == y.anchor.toList) = false) ∨ ((x.level == y.level) = true ∧ (x.number.toList == y.number.toList) = true ∧ (x.anchor.toList == y.anchor.toList) = true ∧ (x.text.toList == y.text.toList) = false)) ∧ x ≠ y) := by
  cases h0 : x.level == y.level
  · exact .inr ⟨.inl rfl, fun e => by rw [e] at h0; simp at h0⟩
  cases h1 : x.number.toList == y.number.toList
  · exact .inr ⟨.inr (.inl ⟨rfl, rfl⟩), fun e => by rw [e] at h1; simp at h1⟩
  cases h2 : x.anchor.toList == y.anchor.toList
  · exact .inr ⟨.inr (.inr (.inl ⟨rfl, rfl, rfl⟩)), fun e => by rw [e] at h2; simp at h2⟩
  cases h3 : x.text.toList == y.text.toList
  · exact .inr ⟨.inr (.inr (.inr ⟨rfl, rfl, rfl, rfl⟩)), fun e => by rw [e] at h3; simp at h3⟩
  refine .inl ⟨⟨rfl, rfl, rfl, rfl⟩, secKey_inj ?_⟩
  simp only [secKey, eq_of_beq h0, eq_of_beq h1, eq_of_beq h2, eq_of_beq h3]

set_option maxRecDepth 100000 in
set_option maxHeartbeats 2000000 in
theorem same_secs {w : World} (v u : Value) (L M : List Sec) (hv : SecsW w v L) (hu : SecsW w u M) (hm : L.length ≤ 100000) (hm2 : M.length ≤ 100000) :
    Calls Tryz.prog 13 #[v, u] w fun e w' => e = .returned (.bool (sameS L M)) ∧ Below w.heap.size w w' := by
  obtain ⟨a, ca, rfl⟩ := hv.form
  obtain ⟨b, cb, rfl⟩ := hu.form
  have HV := Lib.hid hv
  have HU := Lib.hid hu
  clear hv hu
  by_cases hl : L.length = M.length
  · have t1 : ((L.length : Int) == (M.length : Int)) = true := by simp [hl]
    have t2 : ((L.length : Int) != (M.length : Int)) = false := by rw [bne, t1]; rfl
    replace hl := Lib.hid hl
    go_enter Tryz.func13, Tryz.ntmps13
    go_wp2_with fail
    go_loopw [5] (fun i wr => ∃ k : Nat, k ≤ L.length ∧ i = .int .i64 k ∧ Hid (L.take k = M.take k) ∧ Below w.heap.size w wr) (fun i _ => L.length - (RowKit.intOf i).toNat)
    case atStart => exact ⟨0, Nat.zero_le _, rfl, Lib.hid (by simp), Below.refl _ _⟩
    case round =>
      obtain ⟨k, hk, rfl, hE, hB⟩ := hrel
      by_cases hlt : k < L.length
      · have hltM : k < M.length := by rw [← hl.out]; exact hlt
        obtain ⟨b1, o1, rfl, hb1, hc1⟩ := HV.out.cells rfl (by omega)
        obtain ⟨b2, o2, rfl, hb2, hc2⟩ := HU.out.cells rfl (by omega)
        obtain ⟨x0, x1, x2, x3⟩ := (hc1 k hlt).below hB hb1
        obtain ⟨y0, y1, y2, y3⟩ := (hc2 k hltM).below hB hb2
        have hd1 := Lib.hid (List.take_succ_eq_append_getElem hlt)
        have hd2 := Lib.hid (List.take_succ_eq_append_getElem hltM)
        have hne := Lib.hid (show ∀ h : L = M, L[k] = M[k] from fun h => by subst h; rfl)
        clear hc1 hc2
        have hk0 : (0 : Int) ≤ (k : Int) := by omega
        have hk1 : (k : Int) < L.length := by omega
        have hk2 : (k : Int) < M.length := by omega
        have hcs := sec_cases L[k] M[k]
        generalize L[k] = x at *
        generalize M[k] = y at *
        obtain ⟨p0, p1, p2, p3⟩ := x
        obtain ⟨q0, q1, q2, q3⟩ := y
        simp only at x0 x1 x2 x3 y0 y1 y2 y3 hcs
        rcases hcs with ⟨⟨e0, e1, e2, e3⟩, he⟩ | ⟨hcs, he⟩
        · have hR := Lib.hid (show L.take (k + 1) = M.take (k + 1) by rw [hd1.out, hd2.out, hE.out, he])
          clear he
          go_wp2_with fail
          go_quiet (fail)
          go_wp2_with fail
          go_roundw
          case rel => exact ⟨k + 1, by omega, by go_num, hR, below_drewN hB _⟩
          case measure => simp only [RowKit.intOf]; omega
        · have hR := Lib.hid (show sameS L M = false by
            rw [sameS_false]
            intro h
            exact he (hne.out h))
          clear he
          rcases hcs with e0 | ⟨e0, e1⟩ | ⟨e0, e1, e2⟩ | ⟨e0, e1, e2, e3⟩
          all_goals
            go_wp2_with fail
            go_quiet (fail)
            go_wp2_with fail
            go_ret
            rw [hR.out]
            exact ⟨rfl, below_drewN hB _⟩
      · have hR := Lib.hid (show sameS L M = true by
          rw [sameS_iff]
          have h1 := hE.out
          rw [List.take_of_length_le (by omega), List.take_of_length_le (by rw [← hl.out]; omega)] at h1
          exact h1)
        go_wp2_with fail
        go_ret
        rw [hR.out]
        exact ⟨rfl, hB⟩
  · have t1 : ((L.length : Int) == (M.length : Int)) = false := by rw [beq_eq_false_iff_ne]; omega
    have t2 : ((L.length : Int) != (M.length : Int)) = true := by rw [bne, t1]; rfl
    have hR := Lib.hid (sameS_len hl)
    replace hl := Lib.hid hl
    go_enter Tryz.func13, Tryz.ntmps13
    go_wp2_with fail
    go_ret
    rw [hR.out]
    exact ⟨rfl, Below.refl _ _⟩

/-- marks -/
def markS (i k : Nat) : Sec := ⟨-1000 * (i : Int) - k - 1, ⟨#[]⟩, ⟨#[]⟩, ⟨#[]⟩⟩
def smarks (i m n : Nat) : List Sec := (List.range n).map fun j => markS i (m + j)
theorem smarks_len (i m n : Nat) : (smarks i m n).length = n := by simp [smarks]
theorem smarks_succ (i m n : Nat) : smarks i m (n + 1) = smarks i m n ++ [markS i (m + n)] := by simp [smarks, List.range_succ]
theorem smarks_add (i m n k : Nat) : smarks i m (n + k) = smarks i m n ++ smarks i (m + n) k := by
  induction k with
  | zero => simp [smarks]
  | succ k ih => rw [← Nat.add_assoc, smarks_succ, ih, smarks_succ, List.append_assoc, Nat.add_assoc]
theorem snews_at {w : World} {m : Nat} (hm : w.heap.size = m) (l : List Value) (E : TypeId) : ∀ ad, some (⟨m, 0, none⟩ : Addr) = some ad → ∀ j u, l[j]? = some u → (w.alloc (.cells l.toArray E)).cell? (ad.add j) = some u := by
  subst hm
  intro ad had j u hu
  cases had
  rw [Go.WideShapes.add_plain, Nat.zero_add, Lib.cell_of_heap (heap_alloc_new w _)]
  show (l.toArray : Array Value)[j]? = some u
  simpa using hu
theorem sone (l : List Sec) : ∀ u ∈ l.flatMap Sec.cells, u.oneCell' = true := by
  intro u hu
  obtain ⟨x, -, hx⟩ := List.mem_flatMap.1 hu
  simp only [Sec.cells, List.mem_cons, List.not_mem_nil, or_false] at hx
  rcases hx with rfl | rfl | rfl | rfl <;> rfl
theorem secs_cells {w : World} {v : Value} {L : List Sec} {a : Option Addr} {cap : Nat} (h : SecsW w v L) (hv : v = .slice a L.length cap) : ∀ ad, a = some ad → ∀ j u, (L.flatMap Sec.cells)[j]? = some u → w.cell? (ad.add j) = some u := by
  rintro ad rfl j u hu
  have hj : j < L.length * 4 := by rw [← secs_len4]; exact (List.getElem?_eq_some_iff.1 hu).1
  obtain ⟨b, o, he, -, hc⟩ := h.cells hv (by omega)
  cases he
  have hi : j / 4 < L.length := by omega
  have hg := secs_get L (j / 4) (j % 4) hi (by omega)
  rw [show j / 4 * 4 + j % 4 = j by omega, hu] at hg
  obtain ⟨c0, c1, c2, c3⟩ := hc (j / 4) hi
  rw [Go.WideShapes.add_plain]
  have h4 : j % 4 = 0 ∨ j % 4 = 1 ∨ j % 4 = 2 ∨ j % 4 = 3 := by omega
  rcases h4 with e | e | e | e
  · rw [e] at hg; rw [show o + j = o + j / 4 * 4 by omega, c0]; exact hg.symm
  · rw [e] at hg; rw [show o + j = o + j / 4 * 4 + 1 by omega, c1]; exact hg.symm
  · rw [e] at hg; rw [show o + j = o + j / 4 * 4 + 2 by omega, c2]; exact hg.symm
  · rw [e] at hg; rw [show o + j = o + j / 4 * 4 + 3 by omega, c3]; exact hg.symm
theorem secs_none {w : World} {v : Value} {L : List Sec} {cap : Nat} (h : SecsW w v L) (hv : v = .slice none L.length cap) : L.length = 0 := by
  rcases h with ⟨rfl, -⟩ | ⟨b, o, c, he, -⟩
  · rfl
  · rw [hv] at he; cases he

set_option maxRecDepth 100000 in
set_option maxHeartbeats 1000000 in
theorem mark_secs {w : World} (i m n : Nat) (hi : i ≤ 100000) (hmn : m + n ≤ 100000) :
    Calls Tryz.prog 73 #[.int .i64 i, .int .i64 m, .int .i64 n] w fun e w' => ∃ v, e = .returned v ∧ w'.ownsRow w.heap.size 52 4 v n ((smarks i m n).flatMap Sec.cells) ∧ Below w.heap.size w w' := by
  obtain ⟨i0, hi0, hz0, hz1, hz2⟩ := info_parts info_sec
  have HI0 : Hid (Tryz.prog.info? 52 = some i0 ∧ i0.zero = some (.agg #[.int .i64 0, .string ⟨#[]⟩, .string ⟨#[]⟩, .string ⟨#[]⟩]) ∧ i0.size = 4 ∧ i0.bytes = 56) := ⟨hi0, hz0, hz1, hz2⟩
  clear hi0 hz0 hz1 hz2
  have hmi : (m : Int) + n ≤ 100000 := by omega
  have hm0 : (0 : Int) ≤ (m : Int) := by omega
  have hn0 : (0 : Int) ≤ (n : Int) := by omega
  have e1 : IntKind.i64.wrap (-1000 * (i : Int)) = -1000 * (i : Int) := IntWalk.i64_in _ (by omega)
  go_enter Tryz.func73, Tryz.ntmps73
  go_wp2_with fail
  go_loopw [7, 8] (fun ou k wr => ∃ (q : Nat) (out : Value), q ≤ n ∧ k = .int .i64 ((m : Int) + (q : Int)) ∧ out = ou ∧ wr.ownsRow w.heap.size 52 4 out q ((smarks i m q).flatMap Sec.cells) ∧ Below w.heap.size w wr) (fun _ k _ => m + n - (RowKit.intOf k).toNat)
  case atStart => exact ⟨0, _, Nat.zero_le _, by simp, rfl, World.ownsRow_nil _ _ _ _, Below.refl _ _⟩
  case round =>
    obtain ⟨q, out, hq, rfl, rfl, hR, hB⟩ := hrel
    by_cases hlt : q < n
    · have t1 : decide ((m : Int) + (q : Int) < (m : Int) + (n : Int)) = true := by simp only [decide_eq_true_eq]; omega
      have hqi : (m : Int) + (q : Int) + 1 ≤ 100000 := by omega
      have hq0 : (0 : Int) ≤ (m : Int) + (q : Int) := by omega
      have e2 : IntKind.i64.wrap (-1000 * (i : Int) - ((m : Int) + (q : Int))) = -1000 * (i : Int) - ((m : Int) + (q : Int)) := IntWalk.i64_in _ (by omega)
      have e3 : IntKind.i64.wrap (-1000 * (i : Int) - ((m : Int) + (q : Int)) - 1) = -1000 * (i : Int) - ((m : Int) + (q : Int)) - 1 := IntWalk.i64_in _ (by omega)
      have hnx := Lib.hid (smarks_succ i m q)
      have hmk := Lib.hid (show (markS i (m + q)).cells = [.int .i64 (-1000 * (i : Int) - ((m : Int) + (q : Int)) - 1), .string ⟨#[]⟩, .string ⟨#[]⟩, .string ⟨#[]⟩] from by
        unfold markS Sec.cells
        rw [show (((m + q : Nat)) : Int) = (m : Int) + (q : Int) by omega])
      have HR := Lib.hid hR
      have hm1 : q + 1 ≤ maxLen := by unfold maxLen; omega
      have hm2 : (q + 1) * 56 ≤ 140737488355328 := by omega
      have hba : w.heap.size ≤ (wr.alloc (.cells #[.int .i64 (-1000 * (i : Int) - ((m : Int) + (q : Int)) - 1), .string ⟨#[]⟩, .string ⟨#[]⟩, .string ⟨#[]⟩] 52)).heap.size := by have := hB.size; simp; omega
      clear hR
      go_wp2_with (at_builtin; refine wpList_append_keep rfl (.tmp 17) (.tmp 24) 42 rfl w.heap.size 52 i0 (.agg #[.int .i64 0, .string ⟨#[]⟩, .string ⟨#[]⟩, .string ⟨#[]⟩]) 4 56 Tryz.underlying42 HI0.out.1 HI0.out.2.1 HI0.out.2.2.1 HI0.out.2.2.2 rfl (by decide) out q ((smarks i m q).flatMap Sec.cells) rfl (HR.out.alloc _) (some ⟨wr.heap.size, 0, none⟩) 1 1 [.int .i64 (-1000 * (i : Int) - ((m : Int) + (q : Int)) - 1), .string ⟨#[]⟩, .string ⟨#[]⟩, .string ⟨#[]⟩] rfl rfl (fun h => by cases h) (snews_at rfl _ _) (fun u hu => by simp only [List.mem_cons, List.not_mem_nil, or_false] at hu; rcases hu with rfl | rfl | rfl | rfl <;> rfl) hm1 hm2 hba ?_; intro v' w2 hown2 hkp2 hgr2 hblk2; have HO := Lib.hid hown2; have HG := Lib.hid hgr2; clear hown2 hkp2 hgr2 hblk2)
      go_roundw
      case rel => exact ⟨q + 1, v', by omega, by go_num, rfl, by rw [hnx.out, List.flatMap_append, List.flatMap_cons, List.flatMap_nil, List.append_nil, hmk.out]; exact HO.out, (hB.alloc hB.size _).grown HG.out hba (fun k hk => (HR.out.lt k hk).1)⟩
      case measure => simp only [RowKit.intOf]; omega
    · obtain rfl : q = n := by omega
      have HR := Lib.hid hR
      clear hR
      have t1 : decide ((m : Int) + (q : Int) < (m : Int) + (q : Int)) = false := by simp only [decide_eq_false_iff_not]; omega
      go_wp2_with fail
      go_ret
      exact ⟨out, rfl, HR.out, hB⟩

set_option maxHeartbeats 1000000 in
theorem copy_secs {w : World} (v : Value) (L : List Sec) (hv : SecsW w v L) (hL : L.length ≤ 100000) :
    Calls Tryz.prog 21 #[v] w fun e w' => ∃ u, e = .returned u ∧ w'.ownsRow w.heap.size 52 4 u L.length (L.flatMap Sec.cells) ∧ Below w.heap.size w w' := by
  obtain ⟨i0, hi0, hz0, hz1, hz2⟩ := info_parts info_sec
  have HI0 : Hid (Tryz.prog.info? 52 = some i0 ∧ i0.zero = some (.agg #[.int .i64 0, .string ⟨#[]⟩, .string ⟨#[]⟩, .string ⟨#[]⟩]) ∧ i0.size = 4 ∧ i0.bytes = 56) := ⟨hi0, hz0, hz1, hz2⟩
  obtain ⟨a, cap, rfl⟩ := hv.form
  have HV := Lib.hid hv
  have hll := Lib.hid (secs_len4 L)
  clear hv hi0 hz0 hz1 hz2
  go_enter Tryz.func21, Tryz.ntmps21
  go_wp2_with (at_builtin; refine wpList_append_keep rfl (.const (.slice none 0 0)) (.tmp 3) 42 rfl w.heap.size 52 i0 (.agg #[.int .i64 0, .string ⟨#[]⟩, .string ⟨#[]⟩, .string ⟨#[]⟩]) 4 56 Tryz.underlying42 HI0.out.1 HI0.out.2.1 HI0.out.2.2.1 HI0.out.2.2.2 rfl (by decide) (.slice none 0 0) 0 [] rfl (World.ownsRow_nil _ _ _ _) a L.length cap (L.flatMap Sec.cells) rfl hll.out (fun h => secs_none HV.out (by rw [h])) (secs_cells HV.out rfl) (sone L) (by unfold maxLen; omega) (by omega) (Nat.le_refl _) ?_; intro v' w2 hown2 hkp2 hgr2 hblk2; have HO := Lib.hid hown2; have HG := Lib.hid hgr2; clear hown2 hkp2 hgr2 hblk2)
  go_ret
  refine ⟨v', rfl, by simpa using HO.out, (Below.refl _ _).grown HG.out (Nat.le_refl _) (fun k hk => by simp [Value.ownBlock] at hk)⟩
end Go.Proofs.YtbblgnbafecdmaaGreatDoor.bk
