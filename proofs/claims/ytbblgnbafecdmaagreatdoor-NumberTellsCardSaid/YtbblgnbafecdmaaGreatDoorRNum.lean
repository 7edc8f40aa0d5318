/- bowdlerref14.Numbers: the walk. -/
import Derived.Test.YtbblgnbafecdmaaGreatDoorNumPlain
import Derived.Test.YtbblgnbafecdmaaGreatDoorAll
import Derived.Test.YtbblgnbafecdmaaGreatDoorDigits
namespace Go.Proofs.YtbblgnbafecdmaaGreatDoor
open Go.Lib

/-- counts of which those from k on, among the first p, have been set to none -/
def zr (c : List Nat) (k p : Nat) : List Nat := c.mapIdx fun q x => if q < p ∧ k ≤ q then 0 else x
theorem zr_len (c : List Nat) (k p : Nat) : (zr c k p).length = c.length := by simp [zr]
theorem zr_get {c : List Nat} {k p q x : Nat} (h : c[q]? = some x) : (zr c k p)[q]? = some (if q < p ∧ k ≤ q then 0 else x) := by
  simp [zr, h]
theorem zr_zero (c : List Nat) (k : Nat) : zr c k 0 = c := List.ext_getElem? (fun q => by simp [zr])
theorem zr_keep {c : List Nat} {k p x : Nat} (hp : c[p]? = some x) (hk : ¬ k ≤ p) : zr c k (p + 1) = zr c k p := by
  apply List.ext_getElem?
  intro q
  by_cases hq : q < c.length
  · have h := List.getElem?_eq_getElem hq
    rw [zr_get h, zr_get h]
    by_cases e : q = p
    · subst e; rw [if_neg (by omega), if_neg (by omega)]
    · by_cases h1 : q < p
      · by_cases h2 : k ≤ q
        · rw [if_pos ⟨by omega, h2⟩, if_pos ⟨h1, h2⟩]
        · rw [if_neg (by omega), if_neg (by omega)]
      · rw [if_neg (by omega), if_neg (by omega)]
  · rw [List.getElem?_eq_none (by rw [zr_len]; omega), List.getElem?_eq_none (by rw [zr_len]; omega)]
theorem zr_set {c : List Nat} {k p x : Nat} (hp : c[p]? = some x) (hk : k ≤ p) : zr c k (p + 1) = (zr c k p).set p 0 := by
  apply List.ext_getElem?
  intro q
  have hpl : p < c.length := (List.getElem?_eq_some_iff.1 hp).1
  by_cases hq : q < c.length
  · have h := List.getElem?_eq_getElem hq
    rw [zr_get h]
    by_cases e : p = q
    · subst e; rw [List.getElem?_set_self (by rw [zr_len]; exact hpl), if_pos ⟨by omega, hk⟩]
    · rw [List.getElem?_set_ne e, zr_get h]
      by_cases h1 : q < p
      · by_cases h2 : k ≤ q
        · rw [if_pos ⟨by omega, h2⟩, if_pos ⟨h1, h2⟩]
        · rw [if_neg (by omega), if_neg (by omega)]
      · rw [if_neg (by omega), if_neg (by omega)]
  · rw [List.getElem?_eq_none (by rw [zr_len]; omega), List.getElem?_eq_none (by rw [List.length_set, zr_len]; omega)]
theorem zr_take {c : List Nat} {k p x : Nat} (hp : c[p]? = some x) : (zr c k (p + 1)).take (p + 1) = (zr c k p).take p ++ [if k ≤ p then 0 else x] := by
  have hpl : p < c.length := (List.getElem?_eq_some_iff.1 hp).1
  have h1 : (zr c k (p + 1))[p]? = some (if k ≤ p then 0 else x) := by
    rw [zr_get hp]
    by_cases h : k ≤ p
    · rw [if_pos ⟨by omega, h⟩, if_pos h]
    · rw [if_neg (by omega), if_neg h]
  rw [List.take_add_one, h1]
  congr 1
  by_cases h : k ≤ p
  · rw [zr_set hp h, List.take_set_of_le (by omega)]
  · rw [zr_keep hp h]
theorem zr_bump {c : List Nat} {j n : Nat} (h : c.length = 6) (hj : j < 6) (hn : c[j]? = some n) : zr (c.set j (n + 1)) (j + 1) 6 = bump c (j + 1) := by
  match c, h with
  | [a, b, c, d, e, f], _ =>
    have : j = 0 ∨ j = 1 ∨ j = 2 ∨ j = 3 ∨ j = 4 ∨ j = 5 := by omega
    rcases this with rfl | rfl | rfl | rfl | rfl | rfl <;> (cases hn; rfl)
/-- zeros at the end change no number -/
theorem numF_zeros (c : List Nat) (m : Nat) (a : List UInt8) : numF a (c ++ List.replicate m 0) = numF a c := by
  induction m with
  | zero => simp
  | succ m ih => rw [List.replicate_succ', ← List.append_assoc, numF_snoc, if_neg (by omega), ih]
theorem numF_bump {c : List Nat} {k : Nat} (h : c.length = 6) (h1 : 1 ≤ k) (h6 : k ≤ 6) : numF [] (bump c k) = numF [] ((bump c k).take k) := by
  have e : bump c k = (bump c k).take k ++ List.replicate (6 - k) 0 := by
    rw [bump_take h h1 h6]
    unfold bump
    rw [List.append_assoc]; rfl
  conv => lhs; rw [e]
  exact numF_zeros _ _ _
/-- what the loop over the counts has written -/
theorem zr_text {c : List Nat} {k p x : Nat} (hp : c[p]? = some x) : numF [] ((zr c k (p + 1)).take (p + 1)) = if 0 < (if k ≤ p then 0 else x) then digs (numF [] ((zr c k p).take p)) (if k ≤ p then 0 else x) else numF [] ((zr c k p).take p) := by
  rw [zr_take hp, numF_snoc]
end Go.Proofs.YtbblgnbafecdmaaGreatDoor
namespace Go.Proofs.YtbblgnbafecdmaaGreatDoor
open Go.RowKit Go.Lib

/-- seven counts lie in block K (the first is never used) -/
def C7At (K : Nat) (c : List Nat) (w : World) : Prop := w.heap[K]? = some (.cells (c.map (fun n : Nat => Value.int .i64 n)).toArray 61 (0, 0))
theorem C7At.lt {K : Nat} {c : List Nat} {w : World} (h : C7At K c w) : K < w.heap.size := (Array.getElem?_eq_some_iff.1 h).1
theorem C7At.below {K : Nat} {c : List Nat} {w w' : World} (h : C7At K c w) (hb : Below w.heap.size w w') : C7At K c w' := (hb.block K h.lt).trans h
theorem C7At.cell {K : Nat} {c : List Nat} {w : World} (h : C7At K c w) {j x : Nat} (hj : c[j]? = some x) : w.cell? ⟨K, j, none⟩ = some (.int .i64 x) ∧ w.frozen? ⟨K, j, none⟩ = false := by
  obtain ⟨hl, he⟩ := List.getElem?_eq_some_iff.1 hj
  refine ⟨?_, frozen_of_row w K j _ _ h⟩
  rw [cell_of_row w K j _ _ _ h]
  simp [hl, he]
theorem C7At.set {K : Nat} {c : List Nat} {w : World} (h : C7At K c w) (j x : Nat) : C7At K (c.set j x) (w.setCell ⟨K, j, none⟩ (.int .i64 x)) := by
  unfold C7At
  rw [heap_setCell_same w K j _ _ _ h]
  congr 2
  rw [List.map_set]
  simp
/-- behind the headings l, with counts c -/
structure RSt (w0 : World) (K : Nat) (l : List Int) (c : List Nat) (out : Value) (w : World) : Prop where
  cnt : C7At K c w
  row : w.ownsRow w0.heap.size 9 1 out l.length ((texts (allN l)).map .string)
  below : Below w0.heap.size w0 w
theorem RSt.on {w0 : World} {K : Nat} {l : List Int} {c : List Nat} {out : Value} {w w' : World} (h : RSt w0 K l c out w) (hb : Below w.heap.size w w') : RSt w0 K l c out w' :=
  ⟨h.cnt.below hb, row_kept h.row (fun g hg => hb.block g (h.row.lt g hg).2), h.below.trans (hb.mono h.below.size)⟩
theorem RSt.put {w0 : World} {K : Nat} {l : List Int} {c : List Nat} {out : Value} {w : World} (h : RSt w0 K l c out w) (hK : w0.heap.size ≤ K) (j x : Nat) : RSt w0 K l (c.set j x) out (w.setCell ⟨K, j, none⟩ (.int .i64 x)) := by
  have hne := row_not_struct h.row h.cnt (by decide)
  refine ⟨h.cnt.set j x, row_kept h.row (fun g hgb => ?_), h.below.setCell hK _⟩
  exact Below.heap_setCell _ _ _ _ (fun e => hne (by rw [hgb, e]))
theorem RSt.next {w0 : World} {K : Nat} {l : List Int} {x : Int} {c : List Nat} {out v' : Value} {w w' : World} {X : ByteArray} {o : Obj} (h : RSt w0 K l c out w)
    (hX : X.data.toList = numK (stC l) x) (hown : w'.ownsRow w0.heap.size 9 1 v' (l.length + 1) ((texts (allN l)).map .string ++ [.string X])) (hg : (w.alloc o).grownBy w' out.ownBlock) : RSt w0 K (l ++ [x]) c v' w' := by
  have hc := h.cnt
  have hrow := h.row
  have hB := h.below
  refine ⟨?_, ?_, ?_⟩
  · show w'.heap[K]? = _
    rw [hg.block K (by have := hc.lt; simp; omega) (fun e => row_not_struct hrow hc (by decide) e.symm)]
    exact (Below.heap_alloc _ _ _ hc.lt).trans hc
  · rw [List.length_append, List.length_singleton]
    have e : (texts (allN (l ++ [x]))).map Value.string = (texts (allN l)).map .string ++ [.string X] := by
      rw [allN_snoc]
      have : X = ⟨(numK (stC l) x).toArray⟩ := ba_eq (by rw [hX])
      simp [texts, this]
    rw [e]
    exact hown
  · exact (hB.alloc hB.size o).grown hg (by have := hB.size; simp; omega) (fun k hk => (hrow.lt k hk).1)
theorem zr_end {c : List Nat} {m n : Nat} (h : c.length = 6) (h1 : 1 ≤ m) (h6 : m ≤ 6) (hn : (0 :: c)[m]? = some n) : zr ((0 :: c).set m (n + 1)) (m + 1) 7 = 0 :: bump c m := by
  match c, h with
  | [a, b, c, d, e, f], _ =>
    have : m = 1 ∨ m = 2 ∨ m = 3 ∨ m = 4 ∨ m = 5 ∨ m = 6 := by omega
    rcases this with rfl | rfl | rfl | rfl | rfl | rfl <;> (cases hn; rfl)
theorem zr_first {c : List Nat} {m n : Nat} : zr ((0 :: c).set m (n + 1)) (m + 1) 1 = (0 :: c).set m (n + 1) := by
  cases hx : ((0 :: c).set m (n + 1))[0]? with
  | none => simp at hx
  | some x => rw [zr_keep hx (by omega), zr_zero]
theorem numK_at {c : List Nat} {m : Nat} (h : c.length = 6) (h1 : 1 ≤ m) (h6 : m ≤ 6) : numK c (m : Int) = numF [] (0 :: bump c m) := by
  have hok : okLev (m : Int) = true := okLev_iff.2 ⟨by omega, by omega⟩
  unfold numK nextC
  rw [if_pos hok, if_pos hok, Int.toNat_natCast, ← numF_bump h h1 h6]
  rfl

theorem ba_nil_append (I : ByteArray) : (⟨#[]⟩ : ByteArray) ++ I = I := ba_eq (by simp)
theorem itoa_small (n : Nat) (h : n ≤ 1001) : (Lib.itoa (n : Int)).length ≤ 22 := by
  have := digs_len (a := []) (n := n) (by omega)
  unfold digs at this
  rw [if_pos rfl] at this
  simpa using this

set_option maxRecDepth 100000 in
set_option maxHeartbeats 2000000 in
theorem rnums_any {w : World} (v : Value) (l : List Int) (hv : IntsIn w v l) (hl : l.length ≤ 1000) :
    Calls Tryz.prog 11 #[v] w fun e w' => ∃ v', e = .returned v' ∧ w'.ownsRow w.heap.size 9 1 v' l.length ((texts (allN l)).map .string) ∧ Below w.heap.size w w' := by
  obtain ⟨a, cap, rfl⟩ := hv.form
  have HV := Lib.hid hv
  clear hv
  obtain ⟨i0, hi, hz0, hz1, hz2⟩ := info_parts info_str
  have HI0 : Hid (Tryz.prog.info? 9 = some i0 ∧ i0.zero = some (.string ⟨#[]⟩) ∧ i0.size = 1 ∧ i0.bytes = 16) := ⟨hi, hz0, hz1, hz2⟩
  clear hi hz0 hz1 hz2
  have hli : (l.length : Int) ≤ 1000 := by omega
  go_enter Tryz.func11, Tryz.ntmps11
  go_wp2_with fail
  go_loopw [3, 5] (fun ou i wr => ∃ (k : Nat) (out : Value), k ≤ l.length ∧ i = .int .i64 k ∧ out = ou ∧ Hid (RSt w w.heap.size (l.take k) (0 :: stC (l.take k)) out wr)) (fun _ i _ => l.length - (RowKit.intOf i).toNat)
  case atStart => exact ⟨0, _, Nat.zero_le _, rfl, rfl, Lib.hid ⟨heap_alloc_new w _, World.ownsRow_nil _ _ _ _, (Below.refl _ _).alloc (Nat.le_refl _) _⟩⟩
  case round =>
    obtain ⟨k, out, hk, rfl, rfl, hS⟩ := hrel
    have hkl : (l.take k).length = k := by rw [List.length_take]; omega
    by_cases hlt : k < l.length
    · obtain ⟨b, o, rfl, hb, hcell⟩ := HV.out.cells rfl (by omega)
      have cx := (hS.out.below.cell (p := ⟨b, o + k, none⟩) hb).trans (hcell k hlt)
      have hnx := Lib.hid (take_next hlt)
      clear hcell
      generalize l[k] = x at cx hnx
      generalize l.take k = L at hS hkl hnx
      have hm1 : L.length + 1 ≤ maxLen := by unfold maxLen; omega
      have hm2 : (L.length + 1) * 16 ≤ 140737488355328 := by omega
      have hLi : L.length ≤ 1000 := by omega
      have hLk := Lib.hid hkl
      clear hkl
      cases hok : okLev x with
      | false =>
        have hN0 := Lib.hid (numK_bad (c := stC L) hok)
        have hC0 := Lib.hid (show stC (L ++ [x]) = stC L by rw [stC_snoc, nextC_bad hok])
        have hcase : decide ((1 : Int) ≤ x) = false ∨ (decide ((1 : Int) ≤ x) = true ∧ decide (x ≤ 6) = false) := by
          unfold okLev at hok
          simp only [Bool.and_eq_false_iff, decide_eq_false_iff_not, decide_eq_true_eq] at hok ⊢
          omega
        have hba : w.heap.size ≤ (wr.alloc (.cells #[.string ⟨#[]⟩] 9)).heap.size := by have := hS.out.below.size; simp; omega
        clear hok
        rcases hcase with t1 | ⟨t1, t2⟩
        all_goals go_wp2_with (at_builtin; refine wpList_append_any rfl (.tmp 53) (.tmp 55) 23 rfl w.heap.size 9 i0 (.string ⟨#[]⟩) 1 16 Tryz.underlying23 HI0.out.1 HI0.out.2.1 HI0.out.2.2.1 HI0.out.2.2.2 rfl (by decide) out L.length ((texts (allN L)).map .string) rfl (hS.out.row.alloc _) (some ⟨wr.heap.size, 0, none⟩) 1 1 [.string ⟨#[]⟩] rfl rfl (fun h => by cases h) (news_at rfl _ _) (fun u hu => by rw [List.mem_singleton.1 hu]; rfl) hm1 hm2 hba ?_; intro v' w2 hown2 hgr2 hblk2; have HN := Lib.hid (hS.out.next (X := ⟨#[]⟩) hN0.out.symm hown2 hgr2); clear hown2 hgr2 hblk2)
        all_goals go_roundw
        case rel => exact ⟨k + 1, _, by omega, by go_num, rfl, Lib.hid (by rw [hnx.out, hC0.out]; exact HN.out)⟩
        case measure => simp only [RowKit.intOf]; omega
        case rel => exact ⟨k + 1, _, by omega, by go_num, rfl, Lib.hid (by rw [hnx.out, hC0.out]; exact HN.out)⟩
        case measure => simp only [RowKit.intOf]; omega
      | true =>
        obtain ⟨m, h1m, hm6, rfl⟩ : ∃ m : Nat, 1 ≤ m ∧ m ≤ 6 ∧ x = (m : Int) := by
          have := okLev_iff.1 hok
          exact ⟨x.toNat, by omega, by omega, by omega⟩
        have t1 : decide ((1 : Int) ≤ (m : Int)) = true := by simp only [decide_eq_true_eq]; omega
        have t2 : decide ((m : Int) ≤ 6) = true := by simp only [decide_eq_true_eq]; omega
        have hc6 := stC_len L
        obtain ⟨n0, hn0⟩ : ∃ n0 : Nat, (0 :: stC L)[m]? = some n0 := ⟨_, List.getElem?_eq_getElem (by rw [List.length_cons, hc6]; omega)⟩
        have hn0le : n0 ≤ 1000 := by
          rcases List.mem_cons.1 (List.mem_of_getElem? hn0) with e | e
          · omega
          · have := stC_le L _ e; omega
        obtain ⟨c1, f1⟩ := hS.out.cnt.cell hn0
        have hP := hS.out.put (Nat.le_refl _) m (n0 + 1)
        rw [show (((n0 + 1 : Nat)) : Int) = (n0 : Int) + 1 by omega] at hP
        have hz := zr_end hc6 h1m hm6 hn0
        have hzf := zr_first (c := stC L) (m := m) (n := n0)
        have hDl : ((0 :: stC L).set m (n0 + 1)).length = 7 := by rw [List.length_set, List.length_cons, hc6]
        have hDle : ∀ y ∈ (0 :: stC L).set m (n0 + 1), y ≤ 1001 := fun y hy => by
          rcases List.mem_or_eq_of_mem_set hy with h | h
          · rcases List.mem_cons.1 h with e | e
            · omega
            · have := stC_le L _ e; omega
          · omega
        have hNK := numK_at hc6 h1m hm6
        have hCN : stC (L ++ [(m : Int)]) = bump (stC L) m := by
          rw [stC_snoc]; unfold nextC; rw [if_pos hok, Int.toNat_natCast]
        have HNK := Lib.hid hNK
        have HCN := Lib.hid hCN
        have HZ := Lib.hid hz
        have hT0 : numF [] (((0 :: stC L).set m (n0 + 1)).take 1) = [] := by
          cases m with
          | zero => omega
          | succ m => rfl
        have HD1 : Hid (numF [] ((zr ((0 :: stC L).set m (n0 + 1)) (m + 1) 1).take 1) = []) := by rw [hzf]; exact hT0
        have HP : Hid (RSt w w.heap.size L (zr ((0 :: stC L).set m (n0 + 1)) (m + 1) 1) out (wr.setCell ⟨w.heap.size, m, none⟩ (.int .i64 ((n0 : Int) + 1)))) := by rw [hzf]; exact hP
        generalize (0 :: stC L).set m (n0 + 1) = D at *
        have HDL := Lib.hid hDl
        have HDLE := Lib.hid hDle
        have hm0 : (0 : Int) ≤ (m : Int) := by omega
        have hm7 : (m : Int) < 7 := by omega
        have hn0i : (n0 : Int) ≤ 1000 := by omega
        clear hn0 hP hz hzf hDl hDle hNK hCN hc6 hok hT0
        go_wp2_with fail
        go_loopw [7, 8] (fun s j wx => ∃ (q : Nat) (X : ByteArray), 1 ≤ q ∧ q ≤ 7 ∧ j = .int .i64 q ∧ s = .string X ∧ Hid (X.data.toList = numF [] ((zr D (m + 1) q).take q)) ∧ X.size ≤ 23 * q ∧ Hid (RSt w w.heap.size L (zr D (m + 1) q) out wx)) (fun _ j _ => 7 - (RowKit.intOf j).toNat)
        case atStart => exact ⟨1, ⟨#[]⟩, Nat.le_refl _, by omega, rfl, rfl, Lib.hid HD1.out.symm, by decide, HP⟩
        case round =>
          obtain ⟨q, X, hq1, hq7, rfl, rfl, HX, hXs, HR⟩ := hrel
          clear HP HD1 c1 f1 cx
          by_cases hq : q < 7
          · have b0 : decide ((q : Int) ≤ 6) = true := by simp only [decide_eq_true_eq]; omega
            obtain ⟨y, hy⟩ : ∃ y, D[q]? = some y := ⟨_, List.getElem?_eq_getElem (by rw [HDL.out]; omega)⟩
            have hyle : y ≤ 1001 := HDLE.out y (List.mem_of_getElem? hy)
            have hget := zr_get (k := m + 1) (p := q) hy
            rw [if_neg (by omega)] at hget
            obtain ⟨c2, f2⟩ := HR.out.cnt.cell hget
            have hq0 : (0 : Int) ≤ (q : Int) := by omega
            have hqi : (q : Int) < 7 := by omega
            have hyi : (y : Int) ≤ 1001 := by omega
            by_cases hmq : m < q
            · have b1 : decide (m < q) = true := by simp only [decide_eq_true_eq]; omega
              have b1' : decide ((m : Int) < (q : Int)) = true := by simp only [decide_eq_true_eq]; omega
              have hP := HR.out.put (Nat.le_refl _) q 0
              rw [← zr_set hy (by omega)] at hP
              have hzt : numF [] ((zr D (m + 1) (q + 1)).take (q + 1)) = numF [] ((zr D (m + 1) q).take q) := by rw [zr_text hy, if_pos (show m + 1 ≤ q by omega), if_neg (by omega)]
              have HP2 : Hid (RSt w w.heap.size L (zr D (m + 1) (q + 1)) out (wr.setCell ⟨w.heap.size, q, none⟩ (.int .i64 0))) := hP
              have HX2 := Lib.hid (HX.out.trans hzt.symm)
              clear hP hzt hget HX hmq
              go_wp2_with fail
              go_roundw
              case rel => exact ⟨q + 1, X, by omega, by omega, by go_num, rfl, HX2, by omega, HP2⟩
              case measure => simp only [RowKit.intOf]; omega
            · have b1 : decide (m < q) = false := by simp only [decide_eq_false_iff_not]; omega
              have b1' : decide ((m : Int) < (q : Int)) = false := by simp only [decide_eq_false_iff_not]; omega
              have HP2 : Hid (RSt w w.heap.size L (zr D (m + 1) (q + 1)) out wr) := by rw [zr_keep hy (by omega)]; exact HR.out
              have hzt : numF [] ((zr D (m + 1) (q + 1)).take (q + 1)) = if 0 < y then digs (numF [] ((zr D (m + 1) q).take q)) y else numF [] ((zr D (m + 1) q).take q) := by rw [zr_text hy, if_neg (show ¬ m + 1 ≤ q by omega)]
              rw [← HX.out] at hzt
              replace hmq := Lib.hid hmq
              by_cases hpos : 0 < y
              · have b2 : decide (0 < y) = true := by simp only [decide_eq_true_eq]; omega
                rw [if_pos hpos] at hzt
                have hil := itoa_small y hyle
                obtain ⟨I, hI⟩ : ∃ I : ByteArray, (⟨(Lib.itoa (y : Int)).toArray⟩ : ByteArray) = I := ⟨_, rfl⟩
                have hId : I.data.toList = Lib.itoa (y : Int) := by rw [← hI]
                have hIs : I.size ≤ 22 := by rw [ba_size, hId]; exact hil
                have cDg : Calls Tryz.prog 22 #[.int .i64 y] wr fun e w' => e = .returned (.string I) ∧ Below wr.heap.size wr w' := by
                  rw [← hI]; exact digits_nat (w0 := wr) (w := wr) y (by omega) (Below.refl _ _)
                replace hI := Lib.hid hI
                clear hil
                by_cases he : X = ⟨#[]⟩
                · subst he
                  have hX2 : I.data.toList = numF [] ((zr D (m + 1) (q + 1)).take (q + 1)) := by
                    rw [hzt, hId]; rfl
                  have HX2 := Lib.hid hX2
                  clear hX2 hzt hget HX hId hpos
                  go_wp2_with fail
                  refine cDg.mono ?_
                  rintro e w2 ⟨rfl, hb2⟩
                  have HP3 := Lib.hid (HP2.out.on hb2)
                  clear cDg hb2
                  go_wp2_with fail
                  go_roundw
                  case rel => exact ⟨q + 1, _, by omega, by omega, by go_num, rfl, Lib.hid (by rw [ba_nil_append]; exact HX2.out), by rw [ba_nil_append]; omega, HP3⟩
                  case measure => simp only [RowKit.intOf]; omega
                · have hne : X.toList.isEmpty = false := by
                    rw [Lib.toList_data]
                    cases hd : X.data.toList with
                    | nil => exact absurd (ba_eq hd) he
                    | cons a l => rfl
                  have hX2 : (X ++ ⟨#[46]⟩ ++ I).data.toList = numF [] ((zr D (m + 1) (q + 1)).take (q + 1)) := by
                    rw [hzt]
                    unfold digs
                    rw [if_neg (fun e => he (ba_eq e)), ← hId]
                    simp
                  have hsz : (X ++ ⟨#[46]⟩ ++ I : ByteArray).size ≤ 23 * (q + 1) := by
                    rw [ByteArray.size_append, ByteArray.size_append]; show X.size + 1 + I.size ≤ _; omega
                  have HX2 := Lib.hid hX2
                  have HSZ := Lib.hid hsz
                  clear hX2 hzt hget HX hId hpos he hsz
                  go_wp2_with fail
                  refine cDg.mono ?_
                  rintro e w2 ⟨rfl, hb2⟩
                  have HP3 := Lib.hid (HP2.out.on hb2)
                  clear cDg hb2
                  go_wp2_with fail
                  go_roundw
                  case rel => exact ⟨q + 1, _, by omega, by omega, by go_num, rfl, HX2, HSZ.out, HP3⟩
                  case measure => simp only [RowKit.intOf]; omega
              · have b2 : decide (0 < y) = false := by simp only [decide_eq_false_iff_not]; omega
                rw [if_neg hpos] at hzt
                have HX2 := Lib.hid (hzt.symm)
                clear hzt hget HX hpos
                go_wp2_with fail
                go_roundw
                case rel => exact ⟨q + 1, X, by omega, by omega, by go_num, rfl, HX2, by omega, HP2⟩
                case measure => simp only [RowKit.intOf]; omega
          · obtain rfl : q = 7 := by omega
            have hDz := HDL.out
            have HXK := Lib.hid (show X.data.toList = numK (stC L) (m : Int) by
              rw [HX.out, HNK.out, HZ.out, List.take_of_length_le (by have := zr_len D (m + 1) 7; rw [HZ.out] at this; omega)])
            have HR2 := HR.out
            rw [HZ.out] at HR2
            replace HR2 := Lib.hid HR2
            have hba : w.heap.size ≤ (wr.alloc (.cells #[.string X] 9)).heap.size := by have := HR2.out.below.size; simp; omega
            clear HR HX HNK hDz
            go_wp2_with (at_builtin; refine wpList_append_any rfl (.tmp 53) (.tmp 55) 23 rfl w.heap.size 9 i0 (.string ⟨#[]⟩) 1 16 Tryz.underlying23 HI0.out.1 HI0.out.2.1 HI0.out.2.2.1 HI0.out.2.2.2 rfl (by decide) out L.length ((texts (allN L)).map .string) rfl (HR2.out.row.alloc _) (some ⟨wr.heap.size, 0, none⟩) 1 1 [.string X] rfl rfl (fun h => by cases h) (news_at rfl _ _) (fun u hu => by rw [List.mem_singleton.1 hu]; rfl) hm1 hm2 hba ?_; intro v' w4 hown4 hgr4 hblk4; have HN := Lib.hid (HR2.out.next (X := X) HXK.out hown4 hgr4); clear hown4 hgr4 hblk4)
            go_roundw
            case rel => exact ⟨k + 1, _, by omega, by go_num, rfl, Lib.hid (by rw [hnx.out, HCN.out]; exact HN.out)⟩
            case measure => simp only [RowKit.intOf]; omega
    · obtain rfl : k = l.length := by omega
      have HR := Lib.hid (show wr.ownsRow w.heap.size 9 1 out l.length ((texts (allN l)).map .string) by have := hS.out.row; rwa [List.take_length] at this)
      have HB := Lib.hid hS.out.below
      clear hS hkl
      go_wp2_with fail
      go_ret
      exact ⟨_, rfl, HR.out, HB.out⟩
end Go.Proofs.YtbblgnbafecdmaaGreatDoor
