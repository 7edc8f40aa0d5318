/- SlugLong: words joined; the walk. -/
import Derived.Test.YtocgpaekaabmdaaDoorAlive
import Derived.Test.YtocgpaekaabmdaaDoorSlugLaws
import Derived.Test.YtocgpaekaabmdaaDoorRow
import Derived.Lib.TrimByte
namespace Go.Proofs.YtocgpaekaabmdaaDoor
open Go.RowKit Go.Lib

def joinB (sep : List UInt8) : List (List UInt8) → List UInt8
  | [] => []
  | w :: ws => if ws = [] then w else w ++ (sep ++ joinB sep ws)
theorem joinB_snoc (sep : List UInt8) (l : List (List UInt8)) (x : List UInt8) : joinB sep (l ++ [x]) = if l = [] then x else joinB sep l ++ sep ++ x := by
  induction l with
  | nil => rfl
  | cons w ws ih =>
    rw [List.cons_append]
    have e1 : joinB sep (w :: (ws ++ [x])) = w ++ (sep ++ joinB sep (ws ++ [x])) := by
      show (if ws ++ [x] = [] then w else _) = _
      rw [if_neg (by simp)]
    rw [e1, ih, if_neg (show ¬ w :: ws = [] by simp)]
    by_cases hws : ws = []
    · subst hws
      rw [if_pos rfl]
      show _ = (if [] = [] then w else _) ++ sep ++ x
      rw [if_pos rfl, List.append_assoc]
    · rw [if_neg hws]
      show _ = (if ws = [] then w else _) ++ sep ++ x
      rw [if_neg hws]
      simp only [List.append_assoc]
def lowB (b : UInt8) : Bool := decide (97 ≤ b.toNat ∧ b.toNat ≤ 122)
theorem low_alnum {b : UInt8} (h : lowB b = true) : alnum b = true := by
  unfold lowB at h; unfold alnum; simp at h ⊢; omega
/-- words: of small letters, none empty -/
def Words (ws : List (List UInt8)) : Prop := ∀ w ∈ ws, w ≠ [] ∧ ∀ b ∈ w, lowB b = true
theorem fold_word {w : List UInt8} (hl : ∀ b ∈ w, lowB b = true) (r : List UInt8) : ∀ a g, w ≠ [] → foldT a g (toks (w ++ r)) = (if g = true ∧ a = true then [32] else []) ++ (w ++ foldT true false (toks r)) := by
  induction w with
  | nil => intro a g h; exact absurd rfl h
  | cons b w ih =>
    intro a g _
    rw [List.cons_append, fold_flat1 (alnum_flat (.inl (low_alnum (hl b (by simp)))))]
    cases w with
    | nil => rfl
    | cons c w =>
      rw [ih (fun x hx => hl x (List.mem_cons_of_mem _ hx)) true false (by simp), if_neg (by simp : ¬ (false = true ∧ true = true))]
      rfl
theorem of_word {w : List UInt8} (hl : ∀ b ∈ w, lowB b = true) (r : List UInt8) : ∀ a g, w ≠ [] → ofB a g (w ++ r) = (if (g && a) = true then [45] else []) ++ (w ++ ofB true false r) := by
  induction w with
  | nil => intro a g h; exact absurd rfl h
  | cons b w ih =>
    intro a g _
    rw [List.cons_append, ofB_take b (low_alnum (hl b (by simp)))]
    cases w with
    | nil => cases hg : (g && a) <;> simp
    | cons c w =>
      rw [ih (fun x hx => hl x (List.mem_cons_of_mem _ hx)) true false (by simp)]
      cases hg : (g && a) <;> simp
theorem fold_words : ∀ {ws : List (List UInt8)}, Words ws → (∀ a, foldT a false (toks (joinB [32, 33, 32] ws)) = joinB [32, 33, 32] ws) ∧ (ws ≠ [] → foldT true true (toks (joinB [32, 33, 32] ws)) = 32 :: joinB [32, 33, 32] ws) := by
  intro ws
  induction ws with
  | nil => intro _; exact ⟨fun a => rfl, fun h => absurd rfl h⟩
  | cons w ws ih =>
    intro h
    obtain ⟨h1, h2⟩ := h w (by simp)
    have ih' := ih (fun x hx => h x (List.mem_cons_of_mem _ hx))
    have key : ∀ a g, foldT a g (toks (joinB [32, 33, 32] (w :: ws))) = (if g = true ∧ a = true then [32] else []) ++ joinB [32, 33, 32] (w :: ws) := by
      intro a g
      simp only [joinB]
      by_cases hws : ws = []
      · rw [if_pos hws]
        have := fold_word h2 [] a g h1
        rw [List.append_nil] at this
        rw [this]
        simp [toks_nil, foldT]
      · rw [if_neg hws, fold_word h2 _ a g h1]
        congr 2
        show foldT true false (toks (32 :: 33 :: 32 :: joinB [32, 33, 32] ws)) = _
        have h32 : spaceI ((UInt8.toNat 32 : Nat) : Int) = true := by decide
        rw [toks_asc 32 _ (by decide)]
        simp only [foldT]
        rw [if_pos h32, fold_flat1 (by decide), if_pos ⟨rfl, rfl⟩, toks_asc 32 _ (by decide)]
        simp only [foldT]
        rw [if_pos h32, ih'.2 hws]
        rfl
    exact ⟨fun a => by rw [key, if_neg (by simp)]; rfl, fun _ => by rw [key, if_pos ⟨rfl, rfl⟩]; rfl⟩
theorem of_words : ∀ {ws : List (List UInt8)}, Words ws → (∀ a, ofB a false (joinB [32, 33, 32] ws) = joinB [45] ws) ∧ (ws ≠ [] → ofB true true (joinB [32, 33, 32] ws) = 45 :: joinB [45] ws) := by
  intro ws
  induction ws with
  | nil => intro _; exact ⟨fun a => rfl, fun h => absurd rfl h⟩
  | cons w ws ih =>
    intro h
    obtain ⟨h1, h2⟩ := h w (by simp)
    have ih' := ih (fun x hx => h x (List.mem_cons_of_mem _ hx))
    have key : ∀ a g, ofB a g (joinB [32, 33, 32] (w :: ws)) = (if (g && a) = true then [45] else []) ++ joinB [45] (w :: ws) := by
      intro a g
      simp only [joinB]
      by_cases hws : ws = []
      · rw [if_pos hws, if_pos hws]
        have := of_word h2 [] a g h1
        rw [List.append_nil] at this
        rw [this]
        simp [ofB]
      · rw [if_neg hws, if_neg hws, of_word h2 _ a g h1]
        congr 2
        show ofB true false (32 :: 33 :: 32 :: joinB [32, 33, 32] ws) = _
        have h32 : alnum 32 = false := by decide
        have h33 : alnum 33 = false := by decide
        simp only [ofB, h32, h33]
        simpa using ih'.2 hws
    exact ⟨fun a => by rw [key, Bool.false_and, if_neg (by simp)]; rfl, fun _ => by rw [key, Bool.true_and, if_pos rfl]; rfl⟩
theorem slug_words {ws : List (List UInt8)} (h : Words ws) : slugL (joinB [32, 33, 32] ws) = cutB (joinB [45] ws) := by
  unfold slugL slugB
  have h1 : foldF (joinB [32, 33, 32] ws) = joinB [32, 33, 32] ws := (fold_words h).1 false
  rw [h1, (of_words h).1 false]
theorem join_head {ws : List (List UInt8)} (h : Words ws) : ws ≠ [] → ∃ c t, joinB [45] ws = c :: t ∧ lowB c = true := by
  intro hne
  cases ws with
  | nil => exact absurd rfl hne
  | cons w ws =>
    obtain ⟨h1, h2⟩ := h w (by simp)
    obtain ⟨c, t, rfl⟩ := List.exists_cons_of_ne_nil h1
    simp only [joinB]
    split
    · exact ⟨c, t, rfl, h2 c (by simp)⟩
    · exact ⟨c, t ++ _, rfl, h2 c (by simp)⟩

def wsOf (l : List ByteArray) (k : Nat) : List (List UInt8) := (l.take k).map fun b => b.data.toList
theorem wsOf_succ {l : List ByteArray} {k : Nat} (h : k < l.length) : wsOf l (k + 1) = wsOf l k ++ [l[k].data.toList] := by
  unfold wsOf
  rw [List.take_succ_eq_append_getElem h, List.map_append]; rfl
theorem wsOf_nil {l : List ByteArray} {k : Nat} (h : k ≤ l.length) : wsOf l k = [] ↔ k = 0 := by
  unfold wsOf
  rw [List.map_eq_nil_iff, List.take_eq_nil_iff]
  constructor
  · rintro (h1 | h1)
    · exact h1
    · rw [h1] at h; simpa using h
  · exact .inl
theorem words_snoc {ws : List (List UInt8)} {x : List UInt8} (h : Words ws) (h1 : x ≠ []) (h2 : ∀ b ∈ x, lowB b = true) : Words (ws ++ [x]) := by
  intro w hw
  rcases List.mem_append.1 hw with hw | hw
  · exact h w hw
  · rw [List.mem_singleton.1 hw]; exact ⟨h1, h2⟩
theorem slug_nil : slugL [] = section7 := by decide +kernel

set_option maxRecDepth 100000 in
set_option maxHeartbeats 4000000 in
theorem long_main (a : Option Addr) (cap : Nat) (l : List ByteArray) (W : World) (hT : Tabs W) (hl : l.length ≤ 20) (hsz : ∀ s ∈ l, s.size ≤ 9223372036854775807)
    (hr : l = [] ∨ ∃ b o, a = some ⟨b, o, none⟩ ∧ b < W.heap.size ∧ ∀ i (h : i < l.length), W.cell? ⟨b, o + i, none⟩ = some (.string l[i])) :
    Calls Tryd.prog 7 #[.slice a l.length cap] W fun e w' => e = .returned (.bool true) ∧ Below W.heap.size W w' := by
  have hi : (l.length : Int) ≤ 20 := by omega
  have HR := Lib.hid hr
  have HSZ := Lib.hid hsz
  have HT := Lib.hid hT
  clear hr hsz hT
  go_enter Tryd.func7, Tryd.ntmps7
  go_wp2_with fail
  refine (alive_any HT.out).mono ?_
  rintro e w1 ⟨rfl, hb1⟩
  have HB1 := Lib.hid hb1
  have HT1 := Lib.hid (HT.out.on hb1)
  clear hb1
  go_wp2_with fail
  go_loop [3, 4, 18] (fun s wt vi => ∃ (k : Nat) (S V : ByteArray), k ≤ l.length ∧ s = .string S ∧ wt = .string V ∧ vi = .int .i64 k ∧ Hid (S.data.toList = joinB [32, 33, 32] (wsOf l k)) ∧ Hid (V.data.toList = joinB [45] (wsOf l k)) ∧ Hid (Words (wsOf l k)) ∧ S.size ≤ 23 * k ∧ V.size ≤ 21 * k) (fun _ _ vi => l.length - (RowKit.intOf vi).toNat)
  case atStart => exact ⟨0, _, _, Nat.zero_le _, rfl, rfl, rfl, Lib.hid rfl, Lib.hid rfl, Lib.hid (fun w hw => by simp [wsOf] at hw), by decide, by decide⟩
  case round =>
    obtain ⟨k, S, V, hk, rfl, rfl, rfl, hS, hV, hW, hSs, hVs⟩ := hrel
    by_cases hlt : k < l.length
    · rcases HR.out with h9 | ⟨ab, ao, ha, hbl, hcell⟩
      · rw [h9] at hlt; simp at hlt
      subst ha
      have hc := (HB1.out.cell (p := ⟨ab, ao + k, none⟩) hbl).trans (hcell k hlt)
      have hxs := HSZ.out l[k] (List.getElem_mem _)
      have HWS := Lib.hid (wsOf_succ hlt)
      clear hcell
      generalize l[k] = x at *
      by_cases hx0 : x.size = 0
      · have he : x.toList.isEmpty = true := by rw [Lib.toList_data, List.isEmpty_iff_length_eq_zero, ← ba_size]; exact hx0
        replace hx0 := Lib.hid hx0
        go_wp2_with fail
        go_ret
        exact ⟨rfl, HB1.out⟩
      · have hxne : x.data.toList ≠ [] := fun e => hx0 (by rw [ba_size, e]; rfl)
        have he : x.toList.isEmpty = false := by rw [Lib.toList_data]; cases hq : x.data.toList with | nil => exact absurd hq hxne | cons a t => rfl
        by_cases hx20 : x.size ≤ 20
        · have f20 : decide ((20 : Int) < x.size) = false := by simp only [decide_eq_false_iff_not]; omega
          go_wp2_with fail
          go_loop [7] (fun j => ∃ q : Nat, q ≤ x.size ∧ j = .int .i64 q ∧ Hid (∀ i (h : i < x.size), i < q → lowB x[i] = true)) (fun j => x.size - (RowKit.intOf j).toNat)
          case atStart => exact ⟨0, Nat.zero_le _, rfl, Lib.hid (fun i _ h => by omega)⟩
          case round =>
            obtain ⟨q, hq, rfl, hlow⟩ := hrel
            by_cases hq2 : q < x.size
            · cases hlb : lowB x[q] with
              | true =>
                have t1 : decide ((x[q].toNat : Int) < 97) = false ∧ decide ((122 : Int) < x[q].toNat) = false := by
                  unfold lowB at hlb; simp at hlb; simp only [decide_eq_false_iff_not]; omega
                obtain ⟨t1, t2⟩ := t1
                replace hlb := Lib.hid hlb
                go_wp2_with fail
                go_round
                case rel =>
                  refine ⟨q + 1, by omega, by go_num, Lib.hid (fun i h1 h2 => ?_)⟩
                  rcases Nat.lt_or_ge i q with h3 | h3
                  · exact hlow.out i h1 h3
                  · obtain rfl : i = q := by omega
                    exact hlb.out
                case measure => simp only [RowKit.intOf]; omega
              | false =>
                have t1 : decide ((x[q].toNat : Int) < 97) = true ∨ (decide ((x[q].toNat : Int) < 97) = false ∧ decide ((122 : Int) < x[q].toNat) = true) := by
                  unfold lowB at hlb; simp at hlb; simp only [decide_eq_false_iff_not, decide_eq_true_eq]; omega
                replace hlb := Lib.hid hlb
                rcases t1 with t1 | ⟨t1, t2⟩
                all_goals go_wp2_with fail
                all_goals go_ret
                all_goals exact ⟨rfl, HB1.out⟩
            · have hall : ∀ b ∈ x.data.toList, lowB b = true := by
                intro b hb
                obtain ⟨i, hi', rfl⟩ := List.getElem_of_mem hb
                have hi2 : i < x.size := by rw [ba_size]; exact hi'
                exact hlow.out i hi2 (by omega)
              have HW2 := Lib.hid (show Words (wsOf l (k + 1)) by rw [HWS.out]; exact words_snoc hW.out hxne hall)
              replace hall := Lib.hid hall
              replace hxne := Lib.hid hxne
              by_cases hk0 : k = 0
              · have hws0 : wsOf l k = [] := (wsOf_nil hk).2 hk0
                have HS2 := Lib.hid (show (S ++ x).data.toList = joinB [32, 33, 32] (wsOf l (k + 1)) by rw [HWS.out, joinB_snoc, if_pos hws0, ba_append, hS.out, hws0]; rfl)
                have HV2 := Lib.hid (show (V ++ x).data.toList = joinB [45] (wsOf l (k + 1)) by rw [HWS.out, joinB_snoc, if_pos hws0, ba_append, hV.out, hws0]; rfl)
                replace hws0 := Lib.hid hws0
                subst hk0
                go_wp2_with fail
                go_round
                case rel => exact ⟨0 + 1, _, _, by omega, rfl, rfl, by go_num, HS2, HV2, HW2, by rw [ByteArray.size_append]; omega, by rw [ByteArray.size_append]; omega⟩
                case measure => simp only [RowKit.intOf]; omega
              · have hws0 : ¬ wsOf l k = [] := fun e => hk0 ((wsOf_nil hk).1 e)
                have HS2 := Lib.hid (show (S ++ ⟨#[32, 33, 32]⟩ ++ x).data.toList = joinB [32, 33, 32] (wsOf l (k + 1)) by rw [HWS.out, joinB_snoc, if_neg hws0, ba_append, ba_append, hS.out])
                have HV2 := Lib.hid (show (V ++ ⟨#[45]⟩ ++ x).data.toList = joinB [45] (wsOf l (k + 1)) by rw [HWS.out, joinB_snoc, if_neg hws0, ba_append, ba_append, hV.out])
                replace hws0 := Lib.hid hws0
                have hk1 : 0 < k := by omega
                have e3 : (⟨#[32, 33, 32]⟩ : ByteArray).size = 3 := rfl
                have e4 : (⟨#[45]⟩ : ByteArray).size = 1 := rfl
                go_wp2_with fail
                go_round
                case rel => exact ⟨k + 1, _, _, by omega, rfl, rfl, by go_num, HS2, HV2, HW2, by rw [ByteArray.size_append, ByteArray.size_append, e3]; omega, by rw [ByteArray.size_append, ByteArray.size_append, e4]; omega⟩
                case measure => simp only [RowKit.intOf]; omega
        · have f20 : decide ((20 : Int) < x.size) = true := by simp only [decide_eq_true_eq]; omega
          replace hxne := Lib.hid hxne
          go_wp2_with fail
          go_ret
          exact ⟨rfl, HB1.out⟩
    · have hkl : k = l.length := by omega
      by_cases hk0 : k = 0
      · have hws0 : wsOf l k = [] := (wsOf_nil hk).2 hk0
        have hS0 : S.data.toList = [] := by rw [hS.out, hws0]; rfl
        have hV0 : V.toList.isEmpty = true := by rw [Lib.toList_data, hV.out, hws0]; rfl
        have c1 : ∀ w, Tabs w → Calls Tryd.prog 10 #[.string S] w fun e w' => e = .returned (.string ⟨#[115, 101, 99, 116, 105, 111, 110]⟩) ∧ Below w.heap.size w w' := fun w hT => of_list S _ _ hS0 slug_nil (by simp) hT
        replace hS0 := Lib.hid hS0
        replace hws0 := Lib.hid hws0
        replace hkl := Lib.hid hkl
        subst hk0
        have hmin : (min (7 : Int) 40).toNat = 7 := by decide
        have hsec : (⟨#[115, 101, 99, 116, 105, 111, 110]⟩ : ByteArray).extract 0 7 = ⟨#[115, 101, 99, 116, 105, 111, 110]⟩ := rfl
        go_wp2_with fail
        go_loop [4] (fun v => v = .string ⟨#[115, 101, 99, 116, 105, 111, 110]⟩) (fun _ => 0)
        case atStart => rfl
        case round =>
          obtain rfl := hrel
          go_wp2_with fail
          refine (c1 _ HT1.out).mono ?_
          rintro e w2 ⟨rfl, hb2⟩
          go_wp2_with fail
          go_ret
          exact ⟨rfl, HB1.out.trans (hb2.mono HB1.out.size)⟩
      · have hws0 : ¬ wsOf l k = [] := fun e => hk0 ((wsOf_nil hk).1 e)
        obtain ⟨c0, t0, hct, hc0⟩ := join_head hW.out hws0
        have hV0 : V.toList.isEmpty = false := by rw [Lib.toList_data, hV.out, hct]; rfl
        obtain ⟨T, hTd⟩ : ∃ T : ByteArray, V.extract 0 (min (V.size : Int) 40).toNat = T := ⟨_, rfl⟩
        have hTl : T.data.toList = (joinB [45] (wsOf l k)).take 40 := by
          rw [← hTd, ba_extract, List.drop_zero, hV.out]
          have h8 : (min (V.size : Int) 40).toNat = min V.size 40 := by omega
          have h7 : V.size = (joinB [45] (wsOf l k)).length := by rw [ba_size, hV.out]
          rw [h8, h7]
          rcases Nat.le_total (joinB [45] (wsOf l k)).length 40 with h9 | h9
          · rw [Nat.min_eq_left h9, List.take_of_length_le (Nat.le_refl _), List.take_of_length_le h9]
          · rw [Nat.min_eq_right h9]
        have hT0 : ∃ t1, T.data.toList = c0 :: t1 := by rw [hTl, hct, List.take_succ_cons]; exact ⟨_, rfl⟩
        obtain ⟨t1, hT0⟩ := hT0
        have hTs : T.size ≤ 40 := by rw [ba_size, hTl, List.length_take]; omega
        have hTp : 0 < T.size := by rw [ba_size, hT0]; simp
        have hof : slugL S.data.toList = Lib.trimRightB T.data.toList 45 := by
          rw [hS.out, slug_words hW.out, hTl]
          unfold cutB
          rw [if_neg (by rw [hct]; simp)]
        have c1 : ∀ w, Tabs w → ∀ R : ByteArray, R.data.toList = Lib.trimRightB T.data.toList 45 → Calls Tryd.prog 10 #[.string S] w fun e w' => e = .returned (.string R) ∧ Below w.heap.size w w' := fun w hT R hR => by
          have := of_list (w := w) S _ _ rfl hof (by rw [← ba_size]; omega) hT
          rw [show (⟨(Lib.trimRightB T.data.toList 45).toArray⟩ : ByteArray) = R from ba_eq (by rw [hR])] at this
          exact this
        have C1 := Lib.hid c1
        have HT0 := Lib.hid hT0
        have HC0 := Lib.hid hc0
        clear c1 hof hTl hct hws0 hT0 hc0
        go_wp2_with fail
        replace hTd := Lib.hid hTd
        go_loop [4] (fun v => ∃ R : ByteArray, v = .string R ∧ 0 < R.size ∧ R.size ≤ T.size ∧ Hid (R.data.toList = T.data.toList.take R.size) ∧ Hid (∀ j b, R.size ≤ j → T.data.toList[j]? = some b → b = 45)) (fun v => match v with | .string R => R.size | _ => 0)
        case atStart => exact ⟨T, rfl, hTp, Nat.le_refl _, Lib.hid (by rw [ba_size, List.take_length]), Lib.hid (fun j b h1 h2 => by rw [ba_size] at h1; rw [List.getElem?_eq_none h1] at h2; cases h2)⟩
        case round =>
          obtain ⟨R, rfl, hRp, hRs, hRl, hRd⟩ := hrel
          cases hlast : ((R[R.size - 1]'(by omega)).toNat : Int) == 45 with
          | true =>
            have hR2 : 2 ≤ R.size := by
              rcases Nat.lt_or_ge 1 R.size with h9 | h9
              · exact h9
              · exfalso
                have h8 : R.size = 1 := by omega
                obtain ⟨c0', hc'⟩ : ∃ c0', R[R.size - 1]'(by omega) = c0' := ⟨_, rfl⟩
                have h7 : R.data.toList = [c0] := by rw [hRl.out, h8, HT0.out]; rfl
                have h6 : c0' = c0 := by
                  rw [← hc']
                  show R.data.toList[R.size - 1]'(by rw [← ba_size]; omega) = c0
                  simp only [h7, h8]; rfl
                rw [hc', h6] at hlast
                have h5 := HC0.out
                unfold lowB at h5
                simp at h5 hlast
                omega
            have HL := Lib.hid hlast
            have hRe : (R.extract 0 (R.size - 1)).data.toList = T.data.toList.take (R.size - 1) := by
              rw [ba_extract, List.drop_zero, hRl.out, List.take_take]; congr 1; omega
            have hRz : (R.extract 0 (R.size - 1)).size = R.size - 1 := by simp
            have HRD := Lib.hid (show ∀ j b, R.size - 1 ≤ j → T.data.toList[j]? = some b → b = 45 from fun j b h1 h2 => by
              rcases Nat.lt_or_ge j R.size with h3 | h3
              · have h4 : j = R.size - 1 := by omega
                have h5 := HL.out
                rw [beq_iff_eq] at h5
                have h6 : R.data.toList[j]? = some b := by rw [hRl.out, List.getElem?_take_of_lt h3, h2]
                have h7 : j < R.data.toList.length := by rw [← ba_size]; exact h3
                rw [List.getElem?_eq_getElem h7] at h6
                have h8 : R[R.size - 1]'(by omega) = b := by
                  show R.data.toList[R.size - 1]'(by rw [← ba_size]; omega) = b
                  simp only [← h4]; exact Option.some.inj h6
                rw [h8] at h5
                apply UInt8.toNat_inj.1
                show b.toNat = 45
                omega
              · exact hRd.out j b h3 h2)
            replace hRe := Lib.hid hRe
            replace hRz := Lib.hid hRz
            go_wp2_with fail
            go_round
            case rel => exact ⟨_, rfl, by rw [hRz.out]; omega, by rw [hRz.out]; omega, Lib.hid (by rw [hRz.out]; exact hRe.out), Lib.hid (by rw [hRz.out]; exact HRD.out)⟩
            case measure =>
              show (R.extract 0 (R.size - 1)).size < R.size
              rw [hRz.out]; omega
          | false =>
            have hfin : R.data.toList = Lib.trimRightB T.data.toList 45 := by
              rw [Lib.trimRightB_take T.data.toList 45 R.size (by rw [← ba_size]; exact hRs) hRd.out (fun b h1 h2 e => by
                have h6 : R.data.toList[R.size - 1]? = some b := by rw [hRl.out, List.getElem?_take_of_lt (by omega), h2]
                have h7 : R.size - 1 < R.data.toList.length := by rw [← ba_size]; omega
                rw [List.getElem?_eq_getElem h7] at h6
                have h8 : R[R.size - 1]'(by omega) = b := Option.some.inj h6
                rw [h8, e] at hlast
                revert hlast; decide)]
              exact hRl.out
            have c2 := C1.out _ HT1.out R hfin
            replace hfin := Lib.hid hfin
            go_wp2_with fail
            refine c2.mono ?_
            rintro e w2 ⟨rfl, hb2⟩
            clear c2
            go_wp2_with fail
            go_ret
            exact ⟨rfl, HB1.out.trans (hb2.mono HB1.out.size)⟩

theorem slugLong_walk (v : Value) (W : World) (hT : Tabs W) (h : ∃ l : List ByteArray, RowIn W W.heap.size v (l.map Value.string) ∧ ∀ s ∈ l, s.size ≤ 9223372036854775807) :
    Calls Tryd.prog 7 #[v] W fun e w' => e = .returned (.bool true) ∧ Below W.heap.size W w' := by
  obtain ⟨l, ⟨a, cap, rfl, hlc, hcm, hr⟩, hs⟩ := h
  simp only [List.length_map] at *
  by_cases hl : l.length ≤ 20
  · refine long_main a cap l W hT hl hs ?_
    rcases hr with hr | ⟨b, o, ha, hb, hc⟩
    · exact .inl (by simpa using hr)
    · exact .inr ⟨b, o, ha, hb, fun i h => by
      have h9 := hc i h
      rw [List.getElem_map] at h9
      exact h9⟩
  · have hi : 20 < (l.length : Int) := by omega
    have ha := fun w => @alive_any w
    have HT := Lib.hid hT
    clear hr hT
    go_enter Tryd.func7, Tryd.ntmps7
    go_wp2_with fail
    refine (ha _ HT.out).mono ?_
    rintro e w1 ⟨rfl, hb1⟩
    go_wp2_with fail
    go_ret
    exact ⟨rfl, hb1⟩
end Go.Proofs.YtocgpaekaabmdaaDoor
