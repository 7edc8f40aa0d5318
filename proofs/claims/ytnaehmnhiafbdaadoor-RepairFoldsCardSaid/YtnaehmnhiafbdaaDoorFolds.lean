/- RepairFolds: the plain law and the walk. -/
import Derived.Test.YtnaehmnhiafbdaaDoorPlainFolds
import Derived.Test.YtnaehmnhiafbdaaDoorRow
import Derived.Laws.IdiomStrings
namespace Go.Proofs.YtnaehmnhiafbdaaDoor
open Go.RowKit Go.Lib

theorem alloc_new (w : World) (o : Obj) : (w.alloc o).heap[w.heap.size]? = some o := by
  have : (w.alloc o).heap = w.heap.push o := rfl
  rw [this]; simp
theorem conv1 (w : World) (c : UInt8) (n : Int) (h : n = (c.toNat : Int)) :
    (convert 34 9 (.slice (some ⟨w.heap.size, 0, none⟩) 1 1)).run Tryd.prog (w.alloc (.cells #[.int .u8 n] 5)) = .ok (.string ⟨#[c]⟩) (w.alloc (.cells #[.int .u8 n] 5)) := by
  subst h
  exact run_convert_bytes_back (P := Tryd.prog) _ _ _ _ ⟨w.heap.size, 0, none⟩ 1 [c] Tryd.underlying34 Tryd.underlying5 Tryd.underlying9 (fun j hj => by
    have : j = 0 := by simpa using hj
    subst this
    show World.cell? _ ⟨w.heap.size, 0, none⟩ = _
    simp only [World.cell?, alloc_new]; rfl)
theorem empty_iff {x : ByteArray} : x.toList.isEmpty = true ↔ x.data.toList = [] := by rw [Lib.toList_data, List.isEmpty_iff]

def sepL (p : Bool) : List UInt8 := if p = true then [32] else []
/-- what the text so far comes to, whatever follows: between two words -/
def FInv (A W : List UInt8) (p : Bool) : Prop := ∀ q, bnd q → foldF (A ++ q) = W ++ foldT p p (toks q)
/-- within a word -/
def KInv (A W xs : List UInt8) (p : Bool) : Prop := ∀ q, bnd q → foldF (A ++ q) = if xs = [] then W ++ foldT p p (toks q) else (W ++ (sepL p ++ xs)) ++ foldT true false (toks q)
theorem finv_start : FInv [] [] false := fun _ _ => rfl
theorem finv_end {A W : List UInt8} {p : Bool} (h : FInv A W p) : W = foldF A := by
  have := h [] bnd_nil
  rw [List.append_nil, toks_nil] at this
  rw [this]; simp [foldT]
theorem kinv_start {A W : List UInt8} {p : Bool} (h : FInv A W p) : KInv A W [] p := by
  intro q hq; rw [if_pos rfl]; exact h q hq
theorem letter_not (c : UInt8) (h : (97 ≤ c.toNat ∧ c.toNat ≤ 122) ∨ (65 ≤ c.toNat ∧ c.toNat ≤ 90)) : spaceI (c.toNat : Int) = false := by
  cases hs : spaceI (c.toNat : Int) with
  | false => rfl
  | true => have := (spaceI_iff _).1 hs; omega
theorem letter_fold (c d : UInt8) (h : 97 ≤ c.toNat ∧ c.toNat ≤ 122) (hd : d = c ∨ d.toNat + 32 = c.toNat) : spaceI (d.toNat : Int) = false ∧ foldTok (d.toNat, [d]) = [c] ∧ d.toNat < 128 := by
  rcases hd with rfl | hd
  · refine ⟨letter_not d (.inl h), ?_, by omega⟩
    have hg : greatI (d.toNat : Int) = false := by
      cases hs : greatI (d.toNat : Int) with
      | false => rfl
      | true => have := (greatI_iff _).1 hs; omega
    exact foldTok_same hg
  · refine ⟨letter_not d (.inr (by omega)), ?_, by omega⟩
    unfold foldTok
    have hg : greatI (d.toNat : Int) = true := (greatI_iff _).2 (.inl (by omega))
    rw [if_pos hg]
    unfold encodeRune
    rw [encodeRuneZ_one (by dsimp only; omega) (by dsimp only; omega)]
    have e : ((d.toNat : Int) + 32).toNat = c.toNat := by omega
    simp only [List.map_cons, List.map_nil, e]
    simp
theorem kinv_next {A W xs : List UInt8} {p : Bool} {c d : UInt8} (h : KInv A W xs p) (hc : 97 ≤ c.toNat ∧ c.toNat ≤ 122) (hd : d = c ∨ d.toNat + 32 = c.toNat) : KInv (A ++ [d]) W (xs ++ [c]) p := by
  obtain ⟨h1, h2, h3⟩ := letter_fold c d hc hd
  intro q hq
  rw [if_neg (by simp), List.append_assoc]
  show foldF (A ++ (d :: q)) = _
  rw [h _ (bnd_cons (by omega)), toks_asc d q h3]
  by_cases hx : xs = []
  · subst hx
    rw [if_pos rfl]
    simp only [foldT, h1, h2]
    cases p <;> simp [sepL]
  · rw [if_neg hx]
    simp only [foldT, h1, h2]
    simp
theorem enc160 : encodeRune ((160 : Nat) : Int) = [194, 160] := by decide
theorem kinv_blank {A W xs : List UInt8} {p : Bool} {b : List UInt8} (h : KInv A W xs p) (hx : xs ≠ []) (hb : b = [32, 9] ∨ b = [32, 9, 194, 160]) : FInv (A ++ b) (W ++ (sepL p ++ xs)) true := by
  intro q hq
  have h32 : spaceI (((32 : UInt8).toNat : Nat) : Int) = true := by decide
  have h9 : spaceI (((9 : UInt8).toNat : Nat) : Int) = true := by decide
  have h160 : spaceI ((160 : Nat) : Int) = true := by decide
  rcases hb with rfl | rfl
  · rw [List.append_assoc]
    show foldF (A ++ (32 :: 9 :: q)) = _
    rw [h _ (bnd_cons (by decide)), if_neg hx, toks_asc 32 _ (by decide), toks_asc 9 _ (by decide)]
    simp only [foldT, h32, h9, if_true]
  · rw [List.append_assoc]
    show foldF (A ++ (32 :: 9 :: ([194, 160] ++ q))) = _
    have hv : VTok (160, [194, 160]) := ⟨enc160.symm, by simp, by simp⟩
    rw [h _ (bnd_cons (by decide)), if_neg hx, toks_asc 32 _ (by decide), toks_asc 9 _ (by decide), toks_v hv q]
    simp only [foldT, h32, h9, h160, if_true]

set_option maxRecDepth 100000 in
set_option maxHeartbeats 8000000 in
theorem folds_main (a a' : Option Addr) (cap cap' : Nat) (l : List ByteArray) (up : List Bool) (W : World) (hT : Tabs W) (hl : l.length ≤ 20) (hle : up.length ≤ 40) (hsz : ∀ s ∈ l, s.size ≤ 9223372036854775807)
    (hr : l = [] ∨ ∃ b o, a = some ⟨b, o, none⟩ ∧ b < W.heap.size ∧ ∀ i (h : i < l.length), W.cell? ⟨b, o + i, none⟩ = some (.string l[i]))
    (hr2 : up = [] ∨ ∃ b o, a' = some ⟨b, o, none⟩ ∧ b < W.heap.size ∧ ∀ i (h : i < up.length), W.cell? ⟨b, o + i, none⟩ = some (.bool up[i])) :
    Calls Tryd.prog 8 #[.slice a l.length cap, .slice a' up.length cap'] W fun e w' => e = .returned (.bool true) ∧ Below W.heap.size W w' := by
  have h0 := Below.refl W.heap.size W
  have hi : (l.length : Int) ≤ 20 := by omega
  have hi2 : (up.length : Int) ≤ 40 := by omega
  have HR := Lib.hid hr
  have HR2 := Lib.hid hr2
  have HSZ := Lib.hid hsz
  clear hr hr2 hsz
  go_enter Tryd.func8, Tryd.ntmps8
  go_wp2_with fail
  refine (alive_from (by assumption) hT).mono ?_
  rintro e w1 ⟨rfl, hb1⟩
  go_wp2_with fail
  go_loopw [5, 6, 7, 27] (fun va vw vn vi wr => ∃ (k n : Nat) (A S : ByteArray), k ≤ l.length ∧ vi = .int .i64 k ∧ va = .string A ∧ vw = .string S ∧ vn = .int .i64 n ∧ Below W.heap.size W wr ∧ Hid (FInv A.data.toList S.data.toList (decide (0 < k))) ∧ A.size ≤ 34 * k ∧ S.size ≤ 31 * k ∧ n ≤ 30 * k) (fun _ _ _ vi _ => l.length - (RowKit.intOf vi).toNat)
  case atStart => exact ⟨0, 0, _, _, Nat.zero_le _, rfl, rfl, rfl, rfl, by assumption, finv_start, Nat.le_refl 0, Nat.le_refl 0, Nat.le_refl 0⟩
  case round =>
    obtain ⟨k, n, A, S, hk, rfl, rfl, rfl, rfl, hB, HI, hAs, hSs, hns⟩ := hrel
    rename World => wo
    by_cases hlt : k < l.length
    · rcases HR.out with h9 | ⟨b, o, ha, hbl, hcell⟩
      · rw [h9] at hlt; simp at hlt
      subst ha
      have hc := (hB.cell (p := ⟨b, o + k, none⟩) hbl).trans (hcell k hlt)
      have hxs := HSZ.out l[k] (List.getElem_mem _)
      clear hcell
      generalize l[k] = x at *
      cases hye : x.toList.isEmpty with
      | true =>
        go_wp2_with fail
        go_ret
        exact ⟨rfl, hB⟩
      | false =>
        have HNE : Hid (x.data.toList ≠ []) := by intro h; have := empty_iff.2 h; rw [hye] at this; cases this
        by_cases hx30 : x.size ≤ 30
        · have hx30i : (x.size : Int) ≤ 30 := by omega
          go_wp2_with fail
          go_loopw [5, 7, 10] (fun va vn vj w2 => ∃ (j m : Nat) (A2 : ByteArray), j ≤ x.size ∧ vj = .int .i64 j ∧ va = .string A2 ∧ vn = .int .i64 m ∧ Below W.heap.size W w2 ∧ Hid (KInv A2.data.toList S.data.toList (x.data.toList.take j) (decide (0 < k))) ∧ A2.size ≤ 34 * k + j ∧ m ≤ 30 * k + j) (fun _ _ vj _ => x.size - (RowKit.intOf vj).toNat)
          case atStart => exact ⟨0, n, A, Nat.zero_le _, rfl, rfl, rfl, hB, kinv_start HI.out, by omega, by omega⟩
          case round =>
            obtain ⟨j, m, A2, hj, rfl, rfl, rfl, hB2, HK, hA2, hm⟩ := hrel
            have hB2s := hB2.size
            have hA2s : A2.size ≤ 1000 := by omega
            have hms : m ≤ 1000 := by omega
            have hSs2 : S.size ≤ 1000 := by omega
            by_cases hjx : j < x.size
            · have HT := Lib.hid (List.take_succ_eq_append_getElem (l := x.data.toList) (i := j) (by rw [← ba_size]; exact hjx))
              have HG : Hid (x.data.toList[j]'(by rw [← ba_size]; exact hjx) = x[j]) := by show _ = _; simp [ByteArray.getElem_eq_getElem_data]
              by_cases hlow : 97 ≤ x[j].toNat ∧ x[j].toNat ≤ 122
              · obtain ⟨hl1, hl2⟩ := hlow
                have hl1i : 97 ≤ (x[j].toNat : Int) := by omega
                have hl2i : (x[j].toNat : Int) ≤ 122 := by omega
                have hsame := conv1 wr x[j] _ rfl
                have hdn : ((x[j] - 32).toNat : Int) = (x[j].toNat : Int) - 32 := by
                  rw [UInt8.toNat_sub_of_le _ _ (by rw [UInt8.le_iff_toNat_le]; show 32 ≤ _; omega)]
                  show ((x[j].toNat - 32 : Nat) : Int) = _
                  omega
                have hdn2 := Lib.hid (show (x[j] - 32).toNat + 32 = x[j].toNat by omega)
                have hup := conv1 wr (x[j] - 32) _ hdn.symm
                clear hdn
                by_cases hmu : m < up.length
                · have hmui : (m : Int) < up.length := by omega
                  rcases HR2.out with h8 | ⟨eb, eo, ha2, hebl, hecell⟩
                  · rw [h8] at hmu; simp at hmu
                  have hec := (hB2.cell (p := ⟨eb, eo + m, none⟩) hebl).trans (hecell m hmu)
                  clear hecell
                  subst ha2
                  generalize up[m] = u at *
                  cases u with
                  | true =>
                    go_wp2_with fail
                    go_roundw
                    case rel => exact ⟨j + 1, m + 1, _, by omega, by go_num, rfl, by go_num, hB2.alloc hB2s _, by (show KInv _ _ _ _; rw [ba_append, HT.out, HG.out]; exact kinv_next HK.out ⟨hl1, hl2⟩ (.inr hdn2.out)), by (rw [ByteArray.size_append]; show A2.size + 1 ≤ _; omega), by omega⟩
                    case measure => simp [RowKit.intOf]; omega
                  | false =>
                    go_wp2_with fail
                    go_roundw
                    case rel => exact ⟨j + 1, m + 1, _, by omega, by go_num, rfl, by go_num, hB2.alloc hB2s _, by (show KInv _ _ _ _; rw [ba_append, HT.out, HG.out]; exact kinv_next HK.out ⟨hl1, hl2⟩ (.inl rfl)), by (rw [ByteArray.size_append]; show A2.size + 1 ≤ _; omega), by omega⟩
                    case measure => simp [RowKit.intOf]; omega
                · have hmui : (up.length : Int) ≤ m := by omega
                  go_wp2_with fail
                  go_roundw
                  case rel => exact ⟨j + 1, m + 1, _, by omega, by go_num, rfl, by go_num, hB2.alloc hB2s _, by (show KInv _ _ _ _; rw [ba_append, HT.out, HG.out]; exact kinv_next HK.out ⟨hl1, hl2⟩ (.inl rfl)), by (rw [ByteArray.size_append]; show A2.size + 1 ≤ _; omega), by omega⟩
                  case measure => simp [RowKit.intOf]; omega
              · go_wp2_with fail
                all_goals first
                  | (go_ret; exact ⟨rfl, hB2⟩)
                  | (exfalso; omega)
            · have hjs : (x.size : Int) ≤ j := by omega
              have HK2 : Hid (KInv A2.data.toList S.data.toList x.data.toList (decide (0 < k))) := by
                have := HK.out
                rw [List.take_of_length_le (by rw [← ba_size]; omega)] at this; exact this
              have hpar : (k : Int) % 2 = 0 ∨ (k : Int) % 2 = 1 := by omega
              by_cases hk0 : k = 0
              · subst hk0
                have HF : ∀ b, b = [32, 9] ∨ b = [32, 9, 194, 160] → FInv (A2.data.toList ++ b) (S.data.toList ++ x.data.toList) true := fun b hb => kinv_blank HK2.out HNE.out hb
                have HF2 := Lib.hid HF
                clear HF hpar
                go_wp2_with fail
                go_roundw
                case rel => exact ⟨1, m, _, _, by omega, by go_num, rfl, rfl, rfl, hB2, by (show FInv _ _ _; rw [ba_append, ba_append]; exact HF2.out _ (.inl rfl)), by (rw [ByteArray.size_append]; show A2.size + 2 ≤ _; omega), by (rw [ByteArray.size_append]; omega), by omega⟩
                case measure => simp [RowKit.intOf]; omega
              · have hk0i : 0 < (k : Int) := by omega
                have HF : ∀ b, b = [32, 9] ∨ b = [32, 9, 194, 160] → FInv (A2.data.toList ++ b) (S.data.toList ++ ([32] ++ x.data.toList)) true := fun b hb => by
                  have := kinv_blank HK2.out HNE.out hb
                  rw [decide_eq_true (by omega : 0 < k)] at this; exact this
                have HF2 := Lib.hid HF
                have HD : Hid (decide (0 < k + 1) = true) := decide_eq_true (by omega)
                clear HF hk0
                rcases hpar with hpar | hpar
                · go_wp2_with fail
                  go_roundw
                  case rel => exact ⟨k + 1, m, _, _, by omega, by go_num, rfl, rfl, rfl, hB2, by (show FInv _ _ _; rw [HD.out, ba_append, ba_append, ba_append, List.append_assoc]; exact HF2.out _ (.inl rfl)), by (rw [ByteArray.size_append]; show A2.size + 2 ≤ _; omega), by (rw [ByteArray.size_append, ByteArray.size_append]; show S.size + 1 + _ ≤ _; omega), by omega⟩
                  case measure => simp [RowKit.intOf]; omega
                · go_wp2_with fail
                  go_roundw
                  case rel => exact ⟨k + 1, m, _, _, by omega, by go_num, rfl, rfl, rfl, hB2, by (show FInv _ _ _; rw [HD.out, ba_append, ba_append, ba_append, List.append_assoc]; exact HF2.out _ (.inr rfl)), by (rw [ByteArray.size_append]; show A2.size + 4 ≤ _; omega), by (rw [ByteArray.size_append, ByteArray.size_append]; show S.size + 1 + _ ≤ _; omega), by omega⟩
                  case measure => simp [RowKit.intOf]; omega
        · have hx30i : 30 < (x.size : Int) := by omega
          go_wp2_with fail
          go_ret
          exact ⟨rfl, hB⟩
    · have hF : S.data.toList = foldF A.data.toList := finv_end HI.out
      have hAs2 : A.size ≤ 1000000 := by omega
      have c1 : ∀ {w : World}, Below W.heap.size W w → Calls Tryd.prog 18 #[.string A] w fun e w' => e = .returned (.string S) ∧ Below W.heap.size W w' := fun h => Fold_as hF hT hAs2 h
      clear hF HR HR2
      go_wp2_with fail
      refine (c1 (by assumption)).mono ?_
      rintro e w3 ⟨rfl, hb3⟩
      go_wp2_with fail
      go_ret
      exact ⟨ret_bool (by first | rfl | simp), by assumption⟩

theorem repairFolds_walk (v v' : Value) (W : World) (hT : Tabs W) (h : ∃ l : List ByteArray, RowIn W W.heap.size v (l.map Value.string) ∧ ∀ s ∈ l, s.size ≤ 9223372036854775807)
    (h' : ∃ l : List Bool, RowIn W W.heap.size v' (l.map Value.bool)) :
    Calls Tryd.prog 8 #[v, v'] W fun e w' => e = .returned (.bool true) ∧ Below W.heap.size W w' := by
  obtain ⟨l, ⟨a, cap, rfl, hlc, hcm, hr⟩, hs⟩ := h
  obtain ⟨m, a', cap', rfl, hlc', hcm', hr'⟩ := h'
  simp only [List.length_map] at *
  by_cases hl : l.length ≤ 20 ∧ m.length ≤ 40
  · refine folds_main a a' cap cap' l m W hT hl.1 hl.2 hs ?_ ?_
    · rcases hr with hr | ⟨b, o, ha, hb, hc⟩
      · exact .inl (by simpa using hr)
      · exact .inr ⟨b, o, ha, hb, fun i h => by have := hc i (by simpa using h); simpa using this⟩
    · rcases hr' with hr | ⟨b, o, ha, hb, hc⟩
      · exact .inl (by simpa using hr)
      · exact .inr ⟨b, o, ha, hb, fun i h => by have := hc i (by simpa using h); simpa using this⟩
  · have h0 := Below.refl W.heap.size W
    have hi : 20 < (l.length : Int) ∨ ((l.length : Int) ≤ 20 ∧ 40 < (m.length : Int)) := by omega
    clear hr hr'
    rcases hi with hi | ⟨hi, hj⟩
    all_goals
      go_enter Tryd.func8, Tryd.ntmps8
      go_wp2_with fail
      refine (alive_from (by assumption) hT).mono ?_
      rintro e w1 ⟨rfl, hb1⟩
      go_wp2_with fail
      go_ret
      exact ⟨rfl, by assumption⟩
end Go.Proofs.YtnaehmnhiafbdaaDoor
