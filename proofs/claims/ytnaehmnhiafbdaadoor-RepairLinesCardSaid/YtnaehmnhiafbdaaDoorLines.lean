/- RepairLines: the plain law and the walk. Printed by gen_lines.py. -/
import Derived.Test.YtnaehmnhiafbdaaDoorPlainFolds
import Derived.Test.YtnaehmnhiafbdaaDoorRow
namespace Go.Proofs.YtnaehmnhiafbdaaDoor
open Go.RowKit Go.Lib

def ascTok (b : UInt8) : Nat × List UInt8 := (b.toNat, [b])
theorem toks_ascs (x : List UInt8) (h : ∀ b ∈ x, b.toNat < 128) (r : List UInt8) : toks (x ++ r) = x.map ascTok ++ toks r := by
  induction x with
  | nil => rfl
  | cons b x ih =>
    rw [List.cons_append, toks_asc b _ (h b (List.mem_cons_self ..)), ih (fun c hc => h c (List.mem_cons_of_mem _ hc))]; rfl
theorem text_ascs (x : List UInt8) (h : ∀ b ∈ x, 32 ≤ b.toNat ∧ b.toNat < 127) (ts : List (Nat × List UInt8)) : ∀ cr, textT cr (x.map ascTok ++ ts) = x ++ textT (if x = [] then cr else false) ts := by
  induction x with
  | nil => intro cr; rfl
  | cons b x ih =>
    intro cr
    have hb := h b (List.mem_cons_self ..)
    have hh : decide ((ascTok b).1 = 13) = false := decide_eq_false (by show ¬ b.toNat = 13; omega)
    have ho : textOut cr (ascTok b).1 = [b] := by
      show textOut cr b.toNat = _
      unfold textOut
      rw [if_neg (by omega), if_neg (by omega), if_neg (by omega)]
      unfold encodeRune
      rw [encodeRuneZ_one (by omega) (by omega)]
      simp
    simp only [List.map_cons, List.cons_append, textT, hh, ho]
    rw [ih (fun c hc => h c (List.mem_cons_of_mem _ hc))]
    simp

/-- what the text so far comes to, whatever follows -/
def LinesInv (B W : List UInt8) (cr : Bool) : Prop := ∀ q, bnd q → textF (B ++ q) = W ++ textT cr (toks q)
theorem lines_start : LinesInv [] [] false := fun _ _ => rfl
theorem lines_end {B W : List UInt8} {cr : Bool} (h : LinesInv B W cr) : W = textF B := by
  have := h [] bnd_nil
  rw [List.append_nil, toks_nil] at this
  rw [this]; cases cr <;> simp [textT]
theorem bnd_asc {x r : List UInt8} (h : ∀ b ∈ x, 32 ≤ b.toNat ∧ b.toNat < 127) (hr : bnd r) : bnd (x ++ r) := by
  cases x with
  | nil => exact hr
  | cons b x => exact bnd_cons (by have := h b (List.mem_cons_self ..); omega)
theorem lines_lf {B W x : List UInt8} {cr : Bool} (h : LinesInv B W cr) (hx : ∀ b ∈ x, 32 ≤ b.toNat ∧ b.toNat < 127) (hc : cr = true → x ≠ []) : LinesInv (B ++ (x ++ [10])) (W ++ (x ++ [10])) false := by
  intro q hq
  have e : (B ++ (x ++ [10])) ++ q = B ++ (x ++ (10 :: q)) := by simp
  rw [e, h _ (bnd_asc hx (bnd_cons (by decide))), toks_ascs x (fun b hb => by have := hx b hb; omega), text_ascs x hx, toks_asc 10 q (by decide)]
  have hcr : (if x = [] then cr else false) = false := by
    split
    · next hn => cases cr with
      | false => rfl
      | true => exact absurd hn (hc rfl)
    · rfl
  rw [hcr]
  have ho : textOut false (10 : UInt8).toNat = [10] := by decide
  have hd : decide ((10 : UInt8).toNat = 13) = false := by decide
  simp only [textT, ho, hd, List.append_assoc]
theorem lines_crlf {B W x : List UInt8} {cr : Bool} (h : LinesInv B W cr) (hx : ∀ b ∈ x, 32 ≤ b.toNat ∧ b.toNat < 127) : LinesInv (B ++ (x ++ [13, 10])) (W ++ (x ++ [10])) false := by
  intro q hq
  have e : (B ++ (x ++ [13, 10])) ++ q = B ++ (x ++ (13 :: 10 :: q)) := by simp
  rw [e, h _ (bnd_asc hx (bnd_cons (by decide))), toks_ascs x (fun b hb => by have := hx b hb; omega), text_ascs x hx, toks_asc 13 _ (by decide), toks_asc 10 q (by decide)]
  generalize (if x = [] then cr else false) = c
  have ho : textOut c (13 : UInt8).toNat = [10] := by cases c <;> decide
  have hd : decide ((13 : UInt8).toNat = 13) = true := by decide
  have ho2 : textOut true (10 : UInt8).toNat = [] := by decide
  have hd2 : decide ((10 : UInt8).toNat = 13) = false := by decide
  simp only [textT, ho, hd, ho2, hd2, List.append_assoc, List.nil_append]
theorem lines_cr {B W x : List UInt8} {cr : Bool} (h : LinesInv B W cr) (hx : ∀ b ∈ x, 32 ≤ b.toNat ∧ b.toNat < 127) : LinesInv (B ++ (x ++ [13])) (W ++ (x ++ [10])) true := by
  intro q hq
  have e : (B ++ (x ++ [13])) ++ q = B ++ (x ++ (13 :: q)) := by simp
  rw [e, h _ (bnd_asc hx (bnd_cons (by decide))), toks_ascs x (fun b hb => by have := hx b hb; omega), text_ascs x hx, toks_asc 13 _ (by decide)]
  generalize (if x = [] then cr else false) = c
  have ho : textOut c (13 : UInt8).toNat = [10] := by cases c <;> decide
  have hd : decide ((13 : UInt8).toNat = 13) = true := by decide
  simp only [textT, ho, hd, List.append_assoc]

/-- the sign that ends the line k -/
def endOf (ends : List Int) (k : Nat) : Int := ((ends.getD k 0).tmod 3 + 3) % 3
theorem tmod_cases (z : Int) : z.tmod 3 = 0 ∨ z.tmod 3 = 1 ∨ z.tmod 3 = 2 ∨ z.tmod 3 = -1 ∨ z.tmod 3 = -2 := by
  have h1 := Int.tmod_lt_of_pos z (show (0 : Int) < 3 by decide)
  have h2 := Int.lt_tmod_of_pos z (show (0 : Int) < 3 by decide)
  omega
theorem getD_of {α : Type} (l : List α) (d : α) {k : Nat} (h : k < l.length) : l.getD k d = l[k] := by
  rw [List.getD_eq_getElem?_getD, List.getElem?_eq_getElem h]; rfl
theorem endOf_none {ends : List Int} {k : Nat} (h : ¬ k < ends.length) : endOf ends k = 0 := by
  unfold endOf
  rw [List.getD_eq_getElem?_getD, List.getElem?_eq_none (by omega)]; decide
theorem endOf_some {ends : List Int} {k : Nat} (h : k < ends.length) {t : Int} (ht : (ends[k]).tmod 3 = t) : endOf ends k = (t + 3) % 3 := by
  unfold endOf
  rw [getD_of _ _ h, ht]
/-- behind a CR stands no bare LF -/
def NextOk (l : List ByteArray) (ends : List Int) (cr : Bool) (k : Nat) : Prop := cr = true → k < l.length → ¬ ((l.getD k ByteArray.empty).data.toList = [] ∧ endOf ends k = 0)

theorem empty_iff {x : ByteArray} : x.toList.isEmpty = true ↔ x.data.toList = [] := by rw [Lib.toList_data, List.isEmpty_iff]

set_option maxRecDepth 100000 in
set_option maxHeartbeats 8000000 in
theorem lines_main (a a' : Option Addr) (cap cap' : Nat) (l : List ByteArray) (ends : List Int) (W : World) (hT : Tabs W) (hl : l.length ≤ 20) (hle : ends.length ≤ 20) (hsz : ∀ s ∈ l, s.size ≤ 9223372036854775807)
    (hr : l = [] ∨ ∃ b o, a = some ⟨b, o, none⟩ ∧ b < W.heap.size ∧ ∀ i (h : i < l.length), W.cell? ⟨b, o + i, none⟩ = some (.string l[i]))
    (hr2 : ends = [] ∨ ∃ b o, a' = some ⟨b, o, none⟩ ∧ b < W.heap.size ∧ ∀ i (h : i < ends.length), W.cell? ⟨b, o + i, none⟩ = some (.int .i64 ends[i])) :
    Calls Tryd.prog 5 #[.slice a l.length cap, .slice a' ends.length cap'] W fun e w' => e = .returned (.bool true) ∧ Below W.heap.size W w' := by
  have h0 := Below.refl W.heap.size W
  have hi : (l.length : Int) ≤ 20 := by omega
  have hi2 : (ends.length : Int) ≤ 20 := by omega
  have HR := Lib.hid hr
  have HR2 := Lib.hid hr2
  have HSZ := Lib.hid hsz
  clear hr hr2 hsz
  go_enter Tryd.func5, Tryd.ntmps5
  go_wp2_with fail
  refine (alive_from (by assumption) hT).mono ?_
  rintro e w1 ⟨rfl, hb1⟩
  go_wp2_with fail
  go_loopw [5, 6, 26] (fun vb vw vi wr => ∃ (k : Nat) (B S : ByteArray) (cr : Bool), k ≤ l.length ∧ vi = .int .i64 k ∧ vb = .string B ∧ vw = .string S ∧ Below W.heap.size W wr ∧ Hid (LinesInv B.data.toList S.data.toList cr) ∧ Hid (NextOk l ends cr k) ∧ B.size ≤ 42 * k ∧ S.size ≤ 42 * k) (fun _ _ vi _ => l.length - (RowKit.intOf vi).toNat)
  case atStart => exact ⟨0, _, _, false, Nat.zero_le _, rfl, rfl, rfl, by assumption, lines_start, by (intro h; cases h), Nat.le_refl 0, Nat.le_refl 0⟩
  case round =>
    obtain ⟨k, B, S, cr, hk, rfl, rfl, rfl, hB, HI, HN, hBs, hSs⟩ := hrel
    rename World => wo
    by_cases hlt : k < l.length
    · rcases HR.out with h9 | ⟨b, o, ha, hbl, hcell⟩
      · rw [h9] at hlt; simp at hlt
      subst ha
      have hbo : b < wo.heap.size := by have := hB.size; omega
      have hc := (hB.cell (p := ⟨b, o + k, none⟩) hbl).trans (hcell k hlt)
      have HC := Lib.hid hcell
      have HX0 := Lib.hid (getD_of l ByteArray.empty hlt)
      have hxs := HSZ.out l[k] (List.getElem_mem _)
      clear hcell
      generalize hxe : l[k] = x at *
      have HXE := Lib.hid hxe
      clear hxe
      by_cases hx40 : x.size ≤ 40
      · have hx40i : (x.size : Int) ≤ 40 := by omega
        go_wp2_with fail
        go_loop [9] (fun vj => ∃ j : Nat, j ≤ x.size ∧ vj = .int .i64 j ∧ Hid (∀ c ∈ x.data.toList.take j, 32 ≤ c.toNat ∧ c.toNat < 127)) (fun vj => x.size - (RowKit.intOf vj).toNat)
        case atStart => exact ⟨0, Nat.zero_le _, rfl, by (intro c hc; rw [List.take_zero] at hc; cases hc)⟩
        case round =>
          obtain ⟨j, hj, rfl, HF⟩ := hrel
          by_cases hjx : j < x.size
          · have HT := Lib.hid (List.take_succ_eq_append_getElem (l := x.data.toList) (i := j) (by rw [← ba_size]; exact hjx))
            have HG : Hid (x.data.toList[j]'(by rw [← ba_size]; exact hjx) = x[j]) := by show _ = _; simp [ByteArray.getElem_eq_getElem_data]
            go_wp2_with fail
            all_goals first
              | (go_ret; exact ⟨rfl, hB⟩)
              | (go_round
                 case rel =>
                   have q1 : 32 ≤ x[j].toNat := by omega
                   have q2 : x[j].toNat < 127 := by omega
                   exact ⟨j + 1, by omega, by go_num, by (intro c hc; rw [HT.out, HG.out] at hc; rcases List.mem_append.1 hc with hc | hc; exact HF.out c hc; rw [List.mem_singleton.1 hc]; exact ⟨q1, q2⟩)⟩
                 case measure => simp [RowKit.intOf]; omega)
          · have HXF : Hid (∀ c ∈ x.data.toList, 32 ≤ c.toNat ∧ c.toNat < 127) := by
              have := HF.out
              rw [List.take_of_length_le (by rw [← ba_size]; omega)] at this; exact this
            clear HF
            have hji : (x.size : Int) ≤ j := by omega
            have hBs2 : B.size ≤ 840 := by omega
            have hSs2 : S.size ≤ 840 := by omega
            have hBw := hB.size
            by_cases hke : k < ends.length
            · have hkei : (k : Int) < ends.length := by omega
              rcases HR2.out with h8 | ⟨eb, eo, ha2, hebl, hecell⟩
              · rw [h8] at hke; simp at hke
              have hebo : eb < wo.heap.size := by have := hB.size; omega
              have hec := (hB.cell (p := ⟨eb, eo + k, none⟩) hebl).trans (hecell k hke)
              clear hecell
              subst ha2
              rcases tmod_cases ends[k] with ht | ht | ht | ht | ht
              · have HE := Lib.hid (endOf_some hke ht)
                generalize ends[k] = z at *
                go_wp2_with fail
                go_roundw
                case rel => exact ⟨k + 1, _, _, false, by omega, by go_num, rfl, rfl, hB.alloc hBw _, by (show LinesInv _ _ _; rw [ba_append, ba_append, ba_append, ba_append]; exact lines_lf HI.out HXF.out (fun hcr hnil => HN.out hcr hlt ⟨by rw [HX0.out]; exact hnil, HE.out⟩)), by (intro h; cases h), by (rw [ByteArray.size_append, ByteArray.size_append]; show B.size + (x.size + 1) ≤ _; omega), by (rw [ByteArray.size_append, ByteArray.size_append]; show S.size + (x.size + 1) ≤ _; omega)⟩
                case measure => simp [RowKit.intOf]; omega
              · have HE := Lib.hid (endOf_some hke ht)
                generalize ends[k] = z at *
                go_wp2_with fail
                go_roundw
                case rel => exact ⟨k + 1, _, _, false, by omega, by go_num, rfl, rfl, hB.alloc hBw _, by (show LinesInv _ _ _; rw [ba_append, ba_append, ba_append, ba_append]; exact lines_crlf HI.out HXF.out), by (intro h; cases h), by (rw [ByteArray.size_append, ByteArray.size_append]; show B.size + (x.size + 2) ≤ _; omega), by (rw [ByteArray.size_append, ByteArray.size_append]; show S.size + (x.size + 1) ≤ _; omega)⟩
                case measure => simp [RowKit.intOf]; omega
              · have HE := Lib.hid (endOf_some hke ht)
                generalize ends[k] = z at *
                by_cases hk1 : k + 1 < l.length
                · have hk1i : (k : Int) + 1 < l.length := by omega
                  have hc1 := (hB.cell (p := ⟨b, o + (k + 1), none⟩) hbl).trans (HC.out (k + 1) hk1)
                  have HX1 := Lib.hid (getD_of l ByteArray.empty hk1)
                  generalize l[k + 1] = y at *
                  cases hye : y.toList.isEmpty with
                  | false =>
                    have HNX : Hid (NextOk l ends true (k + 1)) := by
                      intro _ _ h; rw [HX1.out] at h; have := empty_iff.2 h.1; rw [hye] at this; cases this
                    go_wp2_with fail
                    go_roundw
                    case rel => exact ⟨k + 1, _, _, true, by omega, by go_num, rfl, rfl, hB.alloc hBw _, by (show LinesInv _ _ _; rw [ba_append, ba_append, ba_append, ba_append]; exact lines_cr HI.out HXF.out), HNX.out, by (rw [ByteArray.size_append, ByteArray.size_append]; show B.size + (x.size + 1) ≤ _; omega), by (rw [ByteArray.size_append, ByteArray.size_append]; show S.size + (x.size + 1) ≤ _; omega)⟩
                    case measure => simp [RowKit.intOf]; omega
                  | true =>
                    by_cases hke1 : k + 1 < ends.length
                    · have hke1i : (k : Int) + 1 < ends.length := by omega
                      rcases HR2.out with h8 | ⟨eb, eo, ha2, hebl, hecell⟩
                      · rw [h8] at hke1; simp at hke1
                      have hebo : eb < wo.heap.size := by have := hB.size; omega
                      have hec1 := (hB.cell (p := ⟨eb, eo + (k + 1), none⟩) hebl).trans (hecell (k + 1) hke1)
                      clear hecell
                      first | subst ha2 | cases ha2
                      rcases tmod_cases ends[k + 1] with ht1 | ht1 | ht1 | ht1 | ht1
                      · generalize ends[k + 1] = z1 at *
                        go_wp2_with fail
                        go_ret
                        exact ⟨rfl, hB.alloc hBw _⟩
                      all_goals
                        have HNX : Hid (NextOk l ends true (k + 1)) := by
                          intro _ _ h; have := endOf_some hke1 ht1; rw [h.2] at this; revert this; decide
                        generalize ends[k + 1] = z1 at *
                        go_wp2_with fail
                        go_roundw
                        case rel => exact ⟨k + 1, _, _, true, by omega, by go_num, rfl, rfl, hB.alloc hBw _, by (show LinesInv _ _ _; rw [ba_append, ba_append, ba_append, ba_append]; exact lines_cr HI.out HXF.out), HNX.out, by (rw [ByteArray.size_append, ByteArray.size_append]; show B.size + (x.size + 1) ≤ _; omega), by (rw [ByteArray.size_append, ByteArray.size_append]; show S.size + (x.size + 1) ≤ _; omega)⟩
                        case measure => simp [RowKit.intOf]; omega
                    · have hke1i : (ends.length : Int) ≤ k + 1 := by omega
                      go_wp2_with fail
                      go_ret
                      exact ⟨rfl, hB.alloc hBw _⟩
                · have hk1i : (l.length : Int) ≤ k + 1 := by omega
                  have HNX : Hid (NextOk l ends true (k + 1)) := by intro _ h; exact absurd h hk1
                  go_wp2_with fail
                  go_roundw
                  case rel => exact ⟨k + 1, _, _, true, by omega, by go_num, rfl, rfl, hB.alloc hBw _, by (show LinesInv _ _ _; rw [ba_append, ba_append, ba_append, ba_append]; exact lines_cr HI.out HXF.out), HNX.out, by (rw [ByteArray.size_append, ByteArray.size_append]; show B.size + (x.size + 1) ≤ _; omega), by (rw [ByteArray.size_append, ByteArray.size_append]; show S.size + (x.size + 1) ≤ _; omega)⟩
                  case measure => simp [RowKit.intOf]; omega
              · have HE := Lib.hid (endOf_some hke ht)
                generalize ends[k] = z at *
                by_cases hk1 : k + 1 < l.length
                · have hk1i : (k : Int) + 1 < l.length := by omega
                  have hc1 := (hB.cell (p := ⟨b, o + (k + 1), none⟩) hbl).trans (HC.out (k + 1) hk1)
                  have HX1 := Lib.hid (getD_of l ByteArray.empty hk1)
                  generalize l[k + 1] = y at *
                  cases hye : y.toList.isEmpty with
                  | false =>
                    have HNX : Hid (NextOk l ends true (k + 1)) := by
                      intro _ _ h; rw [HX1.out] at h; have := empty_iff.2 h.1; rw [hye] at this; cases this
                    go_wp2_with fail
                    go_roundw
                    case rel => exact ⟨k + 1, _, _, true, by omega, by go_num, rfl, rfl, hB.alloc hBw _, by (show LinesInv _ _ _; rw [ba_append, ba_append, ba_append, ba_append]; exact lines_cr HI.out HXF.out), HNX.out, by (rw [ByteArray.size_append, ByteArray.size_append]; show B.size + (x.size + 1) ≤ _; omega), by (rw [ByteArray.size_append, ByteArray.size_append]; show S.size + (x.size + 1) ≤ _; omega)⟩
                    case measure => simp [RowKit.intOf]; omega
                  | true =>
                    by_cases hke1 : k + 1 < ends.length
                    · have hke1i : (k : Int) + 1 < ends.length := by omega
                      rcases HR2.out with h8 | ⟨eb, eo, ha2, hebl, hecell⟩
                      · rw [h8] at hke1; simp at hke1
                      have hebo : eb < wo.heap.size := by have := hB.size; omega
                      have hec1 := (hB.cell (p := ⟨eb, eo + (k + 1), none⟩) hebl).trans (hecell (k + 1) hke1)
                      clear hecell
                      first | subst ha2 | cases ha2
                      rcases tmod_cases ends[k + 1] with ht1 | ht1 | ht1 | ht1 | ht1
                      · generalize ends[k + 1] = z1 at *
                        go_wp2_with fail
                        go_ret
                        exact ⟨rfl, hB.alloc hBw _⟩
                      all_goals
                        have HNX : Hid (NextOk l ends true (k + 1)) := by
                          intro _ _ h; have := endOf_some hke1 ht1; rw [h.2] at this; revert this; decide
                        generalize ends[k + 1] = z1 at *
                        go_wp2_with fail
                        go_roundw
                        case rel => exact ⟨k + 1, _, _, true, by omega, by go_num, rfl, rfl, hB.alloc hBw _, by (show LinesInv _ _ _; rw [ba_append, ba_append, ba_append, ba_append]; exact lines_cr HI.out HXF.out), HNX.out, by (rw [ByteArray.size_append, ByteArray.size_append]; show B.size + (x.size + 1) ≤ _; omega), by (rw [ByteArray.size_append, ByteArray.size_append]; show S.size + (x.size + 1) ≤ _; omega)⟩
                        case measure => simp [RowKit.intOf]; omega
                    · have hke1i : (ends.length : Int) ≤ k + 1 := by omega
                      go_wp2_with fail
                      go_ret
                      exact ⟨rfl, hB.alloc hBw _⟩
                · have hk1i : (l.length : Int) ≤ k + 1 := by omega
                  have HNX : Hid (NextOk l ends true (k + 1)) := by intro _ h; exact absurd h hk1
                  go_wp2_with fail
                  go_roundw
                  case rel => exact ⟨k + 1, _, _, true, by omega, by go_num, rfl, rfl, hB.alloc hBw _, by (show LinesInv _ _ _; rw [ba_append, ba_append, ba_append, ba_append]; exact lines_cr HI.out HXF.out), HNX.out, by (rw [ByteArray.size_append, ByteArray.size_append]; show B.size + (x.size + 1) ≤ _; omega), by (rw [ByteArray.size_append, ByteArray.size_append]; show S.size + (x.size + 1) ≤ _; omega)⟩
                  case measure => simp [RowKit.intOf]; omega
              · have HE := Lib.hid (endOf_some hke ht)
                generalize ends[k] = z at *
                go_wp2_with fail
                go_roundw
                case rel => exact ⟨k + 1, _, _, false, by omega, by go_num, rfl, rfl, hB.alloc hBw _, by (show LinesInv _ _ _; rw [ba_append, ba_append, ba_append, ba_append]; exact lines_crlf HI.out HXF.out), by (intro h; cases h), by (rw [ByteArray.size_append, ByteArray.size_append]; show B.size + (x.size + 2) ≤ _; omega), by (rw [ByteArray.size_append, ByteArray.size_append]; show S.size + (x.size + 1) ≤ _; omega)⟩
                case measure => simp [RowKit.intOf]; omega
            · have hkei : (ends.length : Int) ≤ k := by omega
              have HE := Lib.hid (endOf_none hke)
              go_wp2_with fail
              go_roundw
              case rel => exact ⟨k + 1, _, _, false, by omega, by go_num, rfl, rfl, hB.alloc hBw _, by (show LinesInv _ _ _; rw [ba_append, ba_append, ba_append, ba_append]; exact lines_lf HI.out HXF.out (fun hcr hnil => HN.out hcr hlt ⟨by rw [HX0.out]; exact hnil, HE.out⟩)), by (intro h; cases h), by (rw [ByteArray.size_append, ByteArray.size_append]; show B.size + (x.size + 1) ≤ _; omega), by (rw [ByteArray.size_append, ByteArray.size_append]; show S.size + (x.size + 1) ≤ _; omega)⟩
              case measure => simp [RowKit.intOf]; omega
      · have hx40i : 40 < (x.size : Int) := by omega
        go_wp2_with fail
        go_ret
        exact ⟨rfl, hB⟩
    · have hF : S.data.toList = textF B.data.toList := lines_end HI.out
      have hBs2 : B.size ≤ 1000000 := by omega
      have c1 : ∀ {w : World}, Below W.heap.size W w → Calls Tryd.prog 10 #[.string B] w fun e w' => e = .returned (.string S) ∧ Below W.heap.size W w' := fun h => Text_as hF hBs2 h
      clear hF HR HR2
      go_wp2_with fail
      refine (c1 (by assumption)).mono ?_
      rintro e w3 ⟨rfl, hb3⟩
      go_wp2_with fail
      go_ret
      exact ⟨ret_bool (by first | rfl | simp), by assumption⟩

theorem repairLines_walk (v v' : Value) (W : World) (hT : Tabs W) (h : ∃ l : List ByteArray, RowIn W W.heap.size v (l.map Value.string) ∧ ∀ s ∈ l, s.size ≤ 9223372036854775807)
    (h' : ∃ l : List Int, RowIn W W.heap.size v' (l.map (Value.int .i64)) ∧ ∀ n ∈ l, (Lit.int .i64 n).wf = true) :
    Calls Tryd.prog 5 #[v, v'] W fun e w' => e = .returned (.bool true) ∧ Below W.heap.size W w' := by
  obtain ⟨l, ⟨a, cap, rfl, hlc, hcm, hr⟩, hs⟩ := h
  obtain ⟨m, ⟨a', cap', rfl, hlc', hcm', hr'⟩, -⟩ := h'
  simp only [List.length_map] at *
  by_cases hl : l.length ≤ 20 ∧ m.length ≤ 20
  · refine lines_main a a' cap cap' l m W hT hl.1 hl.2 hs ?_ ?_
    · rcases hr with hr | ⟨b, o, ha, hb, hc⟩
      · exact .inl (by simpa using hr)
      · exact .inr ⟨b, o, ha, hb, fun i h => by have := hc i (by simpa using h); simpa using this⟩
    · rcases hr' with hr | ⟨b, o, ha, hb, hc⟩
      · exact .inl (by simpa using hr)
      · exact .inr ⟨b, o, ha, hb, fun i h => by have := hc i (by simpa using h); simpa using this⟩
  · have h0 := Below.refl W.heap.size W
    have hi : 20 < (l.length : Int) ∨ ((l.length : Int) ≤ 20 ∧ 20 < (m.length : Int)) := by omega
    clear hr hr'
    rcases hi with hi | ⟨hi, hj⟩
    all_goals
      go_enter Tryd.func5, Tryd.ntmps5
      go_wp2_with fail
      refine (alive_from (by assumption) hT).mono ?_
      rintro e w1 ⟨rfl, hb1⟩
      go_wp2_with fail
      go_ret
      exact ⟨rfl, by assumption⟩
end Go.Proofs.YtnaehmnhiafbdaaDoor
