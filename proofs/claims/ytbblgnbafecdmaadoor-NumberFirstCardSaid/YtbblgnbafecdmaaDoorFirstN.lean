/- NumberFirst: the walk. -/
import Derived.Test.YtbblgnbafecdmaaDoorNAlive
import Derived.Test.YtbblgnbafecdmaaDoorRow
import Derived.Deep.RegionHeld3
import Derived.Deep.AppendLies
import Derived.IntWalk
import Derived.Deep.Slices
import Derived.Deep.DeepCutAuto
import Derived.Deep.CutBlock
namespace Go.Proofs.YtbblgnbafecdmaaDoor
open Go.RowKit Go.Lib

theorem allC_bad (l : List Int) (bad : Int) (h : okLev bad = false) (c : List Nat) : allC c (bad :: l) = [] :: allC c l := by
  show numK c bad :: allC (nextC c bad) l = _
  rw [numK_bad h, nextC_bad h]
theorem allN_ins {l : List Int} {k : Nat} {bad : Int} (h : okLev bad = false) : allN (l.take k ++ [bad] ++ l.drop k) = allN (l.take k) ++ [] :: allC (stC (l.take k)) (l.drop k) := by
  rw [List.append_assoc, allN_app]
  show _ ++ allC _ (bad :: l.drop k) = _
  rw [allC_bad _ _ h]
theorem allN_parts (l : List Int) (k : Nat) : allN l = allN (l.take k) ++ allC (stC (l.take k)) (l.drop k) := by rw [← allN_app, List.take_append_drop]
theorem texts_app (a b : List (List UInt8)) : texts (a ++ b) = texts a ++ texts b := by simp [texts]
theorem texts_len (a : List (List UInt8)) : (texts a).length = a.length := by simp [texts]
/-- a cut of an owned row of texts -/
theorem names_take {w : World} {base : Nat} {v : Value} {L : List ByteArray} {a : Option Addr} {cap : Nat} (h : w.ownsRow base 9 1 v L.length (L.map .string)) (hv : v = .slice a L.length cap) (k : Nat) (hk : k ≤ L.length) (cap' : Nat) : NamesIn w (.slice a k cap') (L.take k) := by
  by_cases h0 : k = 0
  · subst h0; exact .inl ⟨by simp, _, _, rfl⟩
  · subst hv
    obtain ⟨g, c, he, -⟩ := row_some h (by rw [List.length_map]; omega)
    simp only [Value.slice.injEq, true_and] at he
    obtain ⟨rfl, rfl⟩ := he
    have hlt := (h.lt g rfl).2
    refine .inr ⟨g, 0, cap', by rw [List.length_take, Nat.min_eq_left hk], hlt, fun i hi => ?_⟩
    rw [List.length_take, Nat.min_eq_left hk] at hi
    rw [Nat.zero_add, h.cellAt i (by omega)]
    simp [show i < L.length by omega]
theorem ints_cells {w : World} {a : Option Addr} {cap : Nat} {l : List Int} (h : IntsIn w (.slice a l.length cap) l) : ∀ ad, a = some ad → ∀ j u, (l.map (Value.int .i64))[j]? = some u → w.cell? (ad.add j) = some u := by
  rintro ad rfl j u hu
  by_cases h0 : 0 < l.length
  · obtain ⟨b, o, he, -, hc⟩ := h.cells rfl h0
    cases he
    obtain ⟨hj, he⟩ := List.getElem?_eq_some_iff.1 hu
    rw [List.length_map] at hj
    rw [add_plain, hc j hj, ← he, List.getElem_map]
  · have : l = [] := List.eq_nil_of_length_eq_zero (by omega)
    subst this
    simp at hu
theorem ints_one (l : List Int) : ∀ u ∈ l.map (Value.int .i64), u.oneCell' = true := by
  intro u hu
  obtain ⟨x, -, rfl⟩ := List.mem_map.1 hu
  rfl
theorem below_nil_grown {w W w2 : World} (h : Below w.heap.size w W) (g : W.grownBy w2 (Value.ownBlock (.slice none 0 0))) : Below w.heap.size w w2 :=
  h.grown g h.size (fun k hk => by simp [Value.ownBlock] at hk)
theorem nil_block (k : Nat) : some k ≠ Value.ownBlock (.slice none 0 0) := by simp [Value.ownBlock]
theorem own_congr {w : World} {base : Nat} {e : TypeId} {size : Nat} {v : Value} {n m : Nat} {xs ys : List Value} (h : w.ownsRow base e size v n xs) (hy : xs = ys) (hn : n = m) : w.ownsRow base e size v m ys := hy ▸ hn ▸ h

theorem row_end {w8 w9 w10 : World} {base : Nat} {e : TypeId} {sz : Nat} {va v9 : Value} {n : Nat} {xs : List Value} {p : Prop} (h : w8.ownsRow base e sz va n xs) (g9 : w8.grownBy w9 (Value.ownBlock (.slice none 0 0))) (at9 : v9.ownBlock = Value.ownBlock (.slice none 0 0) ∨ (v9.ownBlock = some w8.heap.size ∧ p)) (g10 : w9.grownBy w10 v9.ownBlock) : w10.ownsRow base e sz va n xs := by
  have h9 := row_kept h (fun g hg => g9.block g (h.lt g hg).2 (nil_block _))
  refine row_kept h9 (fun g hg => g10.block g (h9.lt g hg).2 (fun e9 => ?_))
  rcases at9 with at9 | ⟨at9, -⟩
  · rw [at9] at e9; simp [Value.ownBlock] at e9
  · rw [at9] at e9
    have := (h.lt g hg).2
    cases e9; omega
theorem below_end {w0 w8 w9 w10 : World} {e : TypeId} {sz : Nat} {v9 : Value} {n : Nat} {xs : List Value} (hB : Below w0.heap.size w0 w8) (g9 : w8.grownBy w9 (Value.ownBlock (.slice none 0 0))) (own9 : w9.ownsRow w0.heap.size e sz v9 n xs) (g10 : w9.grownBy w10 v9.ownBlock) : Below w0.heap.size w0 w10 := by
  have h9 := hB.grown g9 hB.size (fun k hk => by simp [Value.ownBlock] at hk)
  exact h9.grown g10 h9.size (fun k hk => (own9.lt k hk).1)

set_option maxRecDepth 100000 in
set_option maxHeartbeats 8000000 in
theorem first_main (a : Option Addr) (cap : Nat) (l : List Int) (kk bad : Int) (W : World) (hT : Tabs W) (hv : IntsIn W (.slice a l.length cap) l) (hcap : l.length ≤ cap) (hanl : a = none → l = []) (hl : l.length ≤ 60) (hbad : okLev bad = false)
    (hk : -9223372036854775808 ≤ kk ∧ kk ≤ 9223372036854775807) (hb : -9223372036854775808 ≤ bad ∧ bad ≤ 9223372036854775807) :
    Calls Tryd.prog 3 #[.slice a l.length cap, .int .i64 kk, .int .i64 bad] W fun e w' => e = .returned (.bool true) ∧ Below W.heap.size W w' := by
  obtain ⟨ha1, ha2⟩ := hk
  obtain ⟨hb1', hb2'⟩ := hb
  have HV := Lib.hid hv
  have HT := Lib.hid hT
  have HLOW := Lib.hid hT.low
  have HAN := Lib.hid hanl
  have HBAD := Lib.hid hbad
  have g1 : decide ((60 : Int) < l.length) = false := by simp only [decide_eq_false_iff_not]; omega
  have hcase : decide ((1 : Int) ≤ bad) = false ∨ (decide ((1 : Int) ≤ bad) = true ∧ decide (bad ≤ 6) = false) := by
    unfold okLev at hbad
    simp only [Bool.and_eq_false_iff, decide_eq_false_iff_not, decide_eq_true_eq] at hbad ⊢
    omega
  have t1 : -(60 : Int) ≤ kk.tmod (l.length + 1) := by have := Int.tmod_lt_of_pos kk (b := (l.length : Int) + 1) (by omega); have := Int.lt_tmod_of_pos kk (b := (l.length : Int) + 1) (by omega); omega
  have t2 : kk.tmod (l.length + 1) ≤ 60 := by have := Int.tmod_lt_of_pos kk (b := (l.length : Int) + 1) (by omega); omega
  clear hv hT hanl hbad
  go_enter Tryd.func3, Tryd.ntmps3
  rcases hcase with c1 | ⟨c1, c2⟩
  · go_upto_region 3 with (go_at_call 5; refine (alive_any HT.out).mono ?_; rintro e w1 ⟨rfl, hb1⟩)
    have HB1 := Lib.hid hb1
    have hV1 := HV.out.below hb1
    have HV1 := Lib.hid hV1
    clear hV1 hb1
    go_wp2_with fail
    obtain ⟨k, hkk, hkl⟩ : ∃ k : Nat, (kk.tmod (↑l.length + 1) + ↑l.length + 1).tmod (↑l.length + 1) = k ∧ k ≤ l.length := by
      have h1 : 0 ≤ (kk.tmod (↑l.length + 1) + ↑l.length + 1) := by have := Int.lt_tmod_of_pos kk (b := (l.length : Int) + 1) (by omega); omega
      have h2 := Int.tmod_nonneg (↑l.length + 1) h1
      have h3 := Int.tmod_lt_of_pos (kk.tmod (↑l.length + 1) + ↑l.length + 1) (b := (l.length : Int) + 1) (by omega)
      exact ⟨((kk.tmod (↑l.length + 1) + ↑l.length + 1).tmod (↑l.length + 1)).toNat, by omega, by omega⟩
    rw [hkk]
    clear hkk t1 t2
    refine (all_any (HT.out.on HB1.out) _ l HV1.out (by omega)).mono ?_
    rintro e w2 ⟨va, rfl, hrow, hb2⟩
    obtain ⟨a2, cap2, rfl⟩ : ∃ a2 cap2, va = .slice a2 l.length cap2 := by
      rcases hrow.2 with ⟨rfl, h0⟩ | ⟨g, c, cur, rfl, _⟩
      · rw [h0]; exact ⟨_, _, rfl⟩
      · exact ⟨_, _, rfl⟩
    have HR2 := Lib.hid (row_base hrow HB1.out.size)
    have HB2 := Lib.hid (HB1.out.trans (hb2.mono HB1.out.size))
    have HV2 := Lib.hid (HV1.out.below hb2)
    clear hrow hb2
    have hk1 : (0 : Int) ≤ (k : Int) := by omega
    have hk2 : k ≤ cap := by omega
    have hk3 : (k : Int) ≤ cap := by omega
    have hk4 : (k : Int) ≤ l.length := by omega
    obtain ⟨i0, hi, hz0, hz1, hz2⟩ := info_parts info_int
    have HI0 : Hid (Tryd.prog.info? 3 = some i0 ∧ i0.zero = some (.int .i64 0) ∧ i0.size = 1 ∧ i0.bytes = 8) := ⟨hi, hz0, hz1, hz2⟩
    clear hi hz0 hz1 hz2
    have hcells : ∀ W', Below w2.heap.size w2 W' → ∀ ad, a = some ad → ∀ j u, (l.map (Value.int .i64))[j]? = some u → W'.cell? (ad.add j) = some u := fun W' hb => ints_cells (HV2.out.below hb)
    have HC := Lib.hid hcells
    have HNone := Lib.hid (show a = none → k = 0 from fun h => by have := HAN.out h; rw [this] at hkl; simpa using hkl)
    have HNone2 := Lib.hid (show a = none → l.length - k = 0 from fun h => by have := HAN.out h; rw [this]; simp)
    clear hcells
    have tok : True := trivial
    have tok2 : True := trivial
    have HL1 := Lib.hid (show ((l.take k).map (Value.int .i64)).length = k * 1 by rw [List.length_map, List.length_take]; omega)
    have HL3 := Lib.hid (show ((l.drop k).map (Value.int .i64)).length = (l.length - k) * 1 by rw [List.length_map, List.length_drop]; omega)
    have HT1 := Lib.hid (show ∀ j u, ((l.take k).map (Value.int .i64))[j]? = some u → (l.map (Value.int .i64))[j]? = some u from fun j u hu => by
      rw [List.map_take, List.getElem?_take] at hu
      split at hu
      · exact hu
      · cases hu)
    have HT3 := Lib.hid (show ∀ j u, ((l.drop k).map (Value.int .i64))[j]? = some u → (l.map (Value.int .i64))[k + j]? = some u from fun j u hu => by
      rw [List.map_drop, List.getElem?_drop] at hu; exact hu)
    go_upto_region 5 with fail
    go_cut [8] (fun s8 wx => IntsIn wx s8 (l.take k ++ [bad] ++ l.drop k) ∧ Below w2.heap.size w2 wx)
    case first =>
      obtain ⟨a3, ha3, hA3⟩ : ∃ a3, (if cap = k then a else a.map (·.add k)) = a3 ∧ ∀ W', Below w2.heap.size w2 W' → ∀ ad, a3 = some ad → ∀ j u, ((l.drop k).map (Value.int .i64))[j]? = some u → W'.cell? (ad.add j) = some u := by
        refine ⟨_, rfl, fun W' hb ad had j u hu => ?_⟩
        have h9 := HT3.out j u hu
        by_cases hc : cap = k
        · exfalso
          have := (List.getElem?_eq_some_iff.1 hu).1
          rw [List.length_map, List.length_drop] at this; omega
        · rw [if_neg hc] at had
          cases a with
          | none => cases had
          | some A =>
            cases had
            rw [Deep.add_add]
            exact HC.out W' hb A rfl _ u h9
      have HN3 := Lib.hid (show a3 = none → l.length - k = 0 from fun h => by
        rw [← ha3] at h
        cases a with
        | none => exact HNone2.out rfl
        | some A => split at h <;> cases h)
      have HA3 := Lib.hid hA3
      have hsl : ∀ w, (Instr.slice 22 (.slice a l.length cap) (some (.int .i64 (k : Int))) none none).run Tryd.prog w = .ok (.slice a3 (l.length - k) (cap - k)) w := by
        intro w
        rw [← ha3]
        have hs : (sizeOf (Tryd.prog.elem 22)).run Tryd.prog w = .ok 1 w := by kernel_rfl
        rw [run_slice_l (P := Tryd.prog) w 22 a l.length cap (by kernel_rfl) .i64 (k : Int) (by omega) (by omega)]
        simp [hs, sliced]
      replace ha3 := Lib.hid ha3
      clear hA3
      go_region_law (first
        | (have _g := tok; clear tok; refine step_append_any (wanted_none rfl) (.const (.slice none 0 0)) (.tmp 43) 22 rfl w2.heap.size 3 i0 _ 1 8 Tryd.underlying22 HI0.out.1 HI0.out.2.1 HI0.out.2.2.1 HI0.out.2.2.2 rfl (by decide) _ 0 [] rfl (World.ownsRow_nil _ _ _ _) a k cap ((l.take k).map (Value.int .i64)) (by simp [Act.eval, Act.put]) HL1.out HNone.out
            (fun ad had j u hu => HC.out _ (by first | exact (Below.refl _ _).drew | exact ((Below.refl _ _).alloc (Nat.le_refl _) _).drew) ad had j u (HT1.out j u hu)) (fun u hu => ints_one _ u hu) (by unfold maxLen; omega) (by omega) (by simp) ?_; intro v2 w3 own2 keep2 grow2 at2; have hB2 : Below w2.heap.size w2 w3 := (by first | exact below_nil_grown (Below.refl _ _).drew grow2 | exact below_nil_grown ((Below.refl _ _).alloc (Nat.le_refl _) _).drew grow2); have hkk := (fun h => grow2.block w2.heap.size h (nil_block _)))
        | (have _g := tok2; have _g2 := own2; clear tok2; refine step_append_any (wanted_none rfl) (.tmp 44) (.tmp 46) 22 rfl w2.heap.size 3 i0 _ 1 8 Tryd.underlying22 HI0.out.1 HI0.out.2.1 HI0.out.2.2.1 HI0.out.2.2.2 rfl (by decide) _ (0 + k) _ rfl (own2.alloc _) (some ⟨w3.heap.size, 0, none⟩) 1 1 [.int .i64 bad] rfl rfl (fun h => by cases h) (fun ad had j u hu => by cases had; exact World.news_of_block (heap_alloc_new _ _) j u hu) (fun u hu => ints_one [bad] u hu) (by unfold maxLen; omega) (by omega) (by have := hB2.size; simp; omega) ?_; intro v3 w4 own3 keep3 grow3 at3; have hB3 : Below w2.heap.size w2 w4 := (hB2.alloc hB2.size _).grown grow3 (by have := hB2.size; simp; omega) (fun k hk => (own2.lt k hk).1))
        | (have _g := tok2; have _g2 := own2; clear tok2; refine step_append_any (wanted_none rfl) (.tmp 44) (.tmp 46) 22 rfl w2.heap.size 3 i0 _ 1 8 Tryd.underlying22 HI0.out.1 HI0.out.2.1 HI0.out.2.2.1 HI0.out.2.2.2 rfl (by decide) _ (0 + k) _ rfl own2 (some ⟨w2.heap.size, 0, none⟩) 1 1 [.int .i64 bad] rfl rfl (fun h => by cases h) (fun ad had j u hu => by cases had; exact World.news_of_block ((hkk (by simp)).trans (heap_alloc_new w2 _)) j u hu) (fun u hu => ints_one [bad] u hu) (by unfold maxLen; omega) (by omega) hB2.size ?_; intro v3 w4 own3 keep3 grow3 at3; have hB3 : Below w2.heap.size w2 w4 := hB2.grown grow3 hB2.size (fun k hk => (own2.lt k hk).1))
        | (have _g2 := own3; refine step_append_any (wanted_none rfl) (.tmp 47) (.tmp 50) 22 rfl w2.heap.size 3 i0 _ 1 8 Tryd.underlying22 HI0.out.1 HI0.out.2.1 HI0.out.2.2.1 HI0.out.2.2.2 rfl (by decide) _ (0 + k + 1) _ rfl own3 a3 (l.length - k) (cap - k) ((l.drop k).map (Value.int .i64)) rfl HL3.out HN3.out (fun ad had j u hu => HA3.out _ hB3 ad had j u hu) (fun u hu => ints_one _ u hu) (by unfold maxLen; omega) (by omega) hB3.size ?_; intro v4 w5 own4 keep4 grow4 at4; have hB4 : Below w2.heap.size w2 w5 := hB3.grown grow4 hB3.size (fun k hk => (own3.lt k hk).1)))
      all_goals (have HO := Lib.hid own4; have HB := Lib.hid hB4; clear at2 at3 at4 hkk hB2 hB3 hB4 grow2 grow3 grow4 own2 own3 own4 keep2 keep3 keep4; go_wp2_with fail; go_meet)
      all_goals exact ⟨intsIn_row (own_congr HO.out (by simp) (by simp; omega)), HB.out⟩
    case rest =>
      obtain ⟨hI, hBc⟩ := hcut
      have hMl : (l.take k ++ [bad] ++ l.drop k).length = l.length + 1 := by simp; omega
      have hTBA := allN_ins (l := l) (k := k) HBAD.out
      have hTAA := allN_parts l k
      have hTKl : (allN (l.take k)).length = k := by rw [allN_len, List.length_take]; omega
      generalize l.take k ++ [bad] ++ l.drop k = M at hI hMl hTBA
      obtain ⟨a8, c8, rfl⟩ := hI.form
      have HI8 := Lib.hid hI
      have HMl := Lib.hid hMl
      have HTBA := Lib.hid hTBA
      have HTAA := Lib.hid hTAA
      have HTKl := Lib.hid hTKl
      have HBC := Lib.hid (HB2.out.trans (hBc.mono HB2.out.size))
      have HR2c := Lib.hid (row_kept HR2.out (fun g hg => hBc.block g (HR2.out.lt g hg).2))
      have HV2c := Lib.hid (HV2.out.below hBc)
      have hMle : M.length ≤ 61 := by omega
      clear hI hMl hTBA hTAA hTKl hBc tok tok2 HL1 HL3 HT1 HT3 HC
      go_wp2_with fail
      refine (all_any (HT.out.under HLOW.out HBC.out) _ M HI8.out (by omega)).mono ?_
      rintro e w6 ⟨vb, rfl, hrowb, hb6⟩
      obtain ⟨gb, cb, rfl, hcb⟩ := row_some hrowb (by rw [List.length_map]; unfold texts; rw [List.length_map, allN_len]; rw [HMl.out]; omega)
      have HB6 := Lib.hid (HBC.out.trans (hb6.mono HBC.out.size))
      have HB6d := Lib.hid HB6.out.drew
      have HR26 := Lib.hid (show w6.drew.ownsRow W.heap.size 9 1 (.slice a2 l.length cap2) l.length ((texts (allN l)).map .string) from row_kept HR2c.out (fun g hg => hb6.block g (HR2c.out.lt g hg).2))
      have HRB6 := Lib.hid (show w6.drew.ownsRow W.heap.size 9 1 (.slice (some ⟨gb, 0, none⟩) M.length cb) M.length ((texts (allN M)).map .string) from row_base hrowb HBC.out.size)
      have HV6 := Lib.hid (show IntsIn w6.drew (.slice a l.length cap) l from HV2c.out.below (hb6.drew))
      have hgb : gb < w6.heap.size := (hrowb.lt gb rfl).2
      clear hrowb hb6
      have hTA : ∃ TA : List ByteArray, texts (allN l) = TA := ⟨_, rfl⟩
      obtain ⟨TA, hTA⟩ := hTA
      have hTB : ∃ TB : List ByteArray, texts (allN M) = TB := ⟨_, rfl⟩
      obtain ⟨TB, hTB⟩ := hTB
      have hTK : ∃ TK : List ByteArray, texts (allN (l.take k)) = TK := ⟨_, rfl⟩
      obtain ⟨TK, hTK⟩ := hTK
      have lTK : TK.length = k := by rw [← hTK, texts_len]; exact HTKl.out
      have lTA : TA.length = l.length := by rw [← hTA, texts_len, allN_len]
      have lTB : TB.length = l.length + 1 := by rw [← hTB, texts_len, allN_len]; exact HMl.out
      have pTA : TA = TK ++ texts (allC (stC (l.take k)) (l.drop k)) := by rw [← hTA, HTAA.out, texts_app, hTK]
      have pTB : TB = TK ++ ⟨#[]⟩ :: texts (allC (stC (l.take k)) (l.drop k)) := by rw [← hTB, HTBA.out, texts_app, hTK]; rfl
      have f1 : TA.take k = TK := by rw [pTA, ← lTK, List.take_left]
      have f2 : TB.take k = TK := by rw [pTB, ← lTK, List.take_left]
      have f3 : TB[k]? = some ⟨#[]⟩ := by rw [pTB, List.getElem?_append_right (by omega), lTK, Nat.sub_self]; rfl
      have f4 : TB.take k ++ TB.drop (k + 1) = TA := by
        rw [f2, pTB, pTA]
        congr 1
        rw [List.drop_append, lTK, List.drop_of_length_le (by omega), show k + 1 - k = 1 by omega]; rfl
      rw [hTA] at HR26
      rw [hTB] at HRB6
      have cbk : w6.cell? ⟨gb, k, none⟩ = some (.string ⟨#[]⟩) := by
        have h9 := HRB6.out.cellAt k (by rw [HMl.out]; omega)
        rw [List.getElem?_map, f3] at h9
        exact h9
      have F1 := Lib.hid f1
      have F2 := Lib.hid f2
      have F4 := Lib.hid f4
      have F3 := Lib.hid f3
      have LTA := Lib.hid lTA
      have LTB := Lib.hid lTB
      have LTK := Lib.hid lTK
      have HTK := Lib.hid hTK
      clear hTA hTB hTK lTK lTA lTB pTA pTB f1 f2 f3 f4
      have hk5 : (k : Int) ≤ cap2 := by
        rcases HR26.out.2 with ⟨h, h0⟩ | ⟨g, c, cur, h, _, _, h9, _⟩
        · simp only [Value.slice.injEq] at h; omega
        · simp only [Value.slice.injEq] at h; omega
      have hk6 : (k : Int) ≤ cb := by have := HMl.out; omega
      have hk7 : (k : Int) < M.length := by have := HMl.out; omega
      have hNA : Hid (NamesIn w6.drew (.slice a2 k cap2) TK) := by
        have := names_take (L := TA) (a := a2) (cap := cap2) (by rw [LTA.out]; exact HR26.out) (by rw [LTA.out]) k (by rw [LTA.out]; exact hkl) cap2
        rw [F1.out] at this
        exact this
      have hIK : Hid (IntsIn w6.drew (.slice a k cap) (l.take k)) := by
        by_cases h0 : k = 0
        · subst h0; exact .inl ⟨by simp, _, _, rfl⟩
        · obtain ⟨b, o, he, hb, hc⟩ := HV6.out.cells rfl (by omega)
          subst he
          refine .inr ⟨b, o, cap, by rw [List.length_take, Nat.min_eq_left hkl], hb, fun i hi => ?_⟩
          rw [List.length_take, Nat.min_eq_left hkl] at hi
          rw [hc i (by omega)]
          simp
      obtain ⟨j0, hi, hz0, hz1, hz2⟩ := info_parts info_str
      have HJ0 : Hid (Tryd.prog.info? 9 = some j0 ∧ j0.zero = some (.string ⟨#[]⟩) ∧ j0.size = 1 ∧ j0.bytes = 16) := ⟨hi, hz0, hz1, hz2⟩
      clear hi hz0 hz1 hz2
      obtain ⟨a9, ha9⟩ : ∃ a9, (if cb = k + 1 then (⟨gb, 0, none⟩ : Addr) else ⟨gb, k + 1, none⟩) = a9 := ⟨_, rfl⟩
      have hslb : ∀ w, (Instr.slice 24 (.slice (some ⟨gb, 0, none⟩) M.length cb) (some (.int .i64 ((k : Int) + 1))) none none).run Tryd.prog w = .ok (.slice (some a9) (M.length - (k + 1)) (cb - (k + 1))) w := by
        intro w
        have hs : (sizeOf (Tryd.prog.elem 24)).run Tryd.prog w = .ok 1 w := by kernel_rfl
        have e : ((k : Int) + 1).toNat = k + 1 := by omega
        rw [run_slice_l (P := Tryd.prog) w 24 (some ⟨gb, 0, none⟩) M.length cb (by kernel_rfl) .i64 ((k : Int) + 1) (by omega) (by omega)]
        simp only [hs, sliced, e, Result.andThen_ok, ← ha9, Option.map_some, Nat.mul_one]
        congr 2
        split <;> simp [Addr.add]
      have hN9 : Hid (∀ W' : World, W'.ownsRow W.heap.size 9 1 (.slice (some ⟨gb, 0, none⟩) M.length cb) M.length (TB.map .string) → ∀ ad, some a9 = some ad → ∀ j u, ((TB.drop (k + 1)).map Value.string)[j]? = some u → W'.cell? (ad.add j) = some u) := by
        intro W' ho ad had j u hu
        cases had
        have hj := (List.getElem?_eq_some_iff.1 hu).1
        rw [List.length_map, List.length_drop, LTB.out] at hj
        rw [← ha9, if_neg (by have := HMl.out; omega), add_plain]
        rw [List.map_drop, List.getElem?_drop] at hu
        rw [ho.cellAt (k + 1 + j) (by rw [HMl.out]; omega)]
        exact hu
      have hN8 : Hid (∀ W' : World, W'.ownsRow W.heap.size 9 1 (.slice (some ⟨gb, 0, none⟩) M.length cb) M.length (TB.map .string) → ∀ ad, some (⟨gb, 0, none⟩ : Addr) = some ad → ∀ j u, ((TB.take k).map Value.string)[j]? = some u → W'.cell? (ad.add j) = some u) := by
        intro W' ho ad had j u hu
        cases had
        have hj := (List.getElem?_eq_some_iff.1 hu).1
        rw [List.length_map, List.length_take] at hj
        rw [add_plain, Nat.zero_add]
        rw [List.map_take, List.getElem?_take, if_pos (by omega)] at hu
        rw [ho.cellAt j (by rw [HMl.out]; omega)]
        exact hu
      have HBK : Hid (∀ W' : World, W'.ownsRow W.heap.size 9 1 (.slice (some ⟨gb, 0, none⟩) M.length cb) M.length (TB.map .string) → W'.cell? ⟨gb, k, none⟩ = some (.string ⟨#[]⟩)) := fun W' ho => by
        have h9 := ho.cellAt k (by omega)
        rw [List.getElem?_map, F3.out] at h9
        exact h9
      replace ha9 := Lib.hid ha9
      have l8 := Lib.hid (show ((TB.take k).map Value.string).length = k * 1 by rw [List.length_map, List.length_take, LTB.out]; omega)
      have l9 := Lib.hid (show ((TB.drop (k + 1)).map Value.string).length = (M.length - (k + 1)) * 1 by rw [List.length_map, List.length_drop, LTB.out, HMl.out]; omega)
      have ones := Lib.hid (show ∀ (L : List ByteArray) (u : Value), u ∈ L.map Value.string → u.oneCell' = true from fun L u hu => by obtain ⟨x, -, rfl⟩ := List.mem_map.1 hu; rfl)
      have hMi : (M.length : Int) ≤ 61 := by omega
      have cAll := Lib.hid (all_any (HT.out.under HLOW.out HB6d.out) _ (l.take k) hIK.out (by rw [List.length_take]; omega))
      rw [HTK.out, List.length_take, Nat.min_eq_left hkl] at cAll
      have ew : IntKind.i64.wrap ((k : Int) + 1) = (k : Int) + 1 := IntWalk.i64_in _ (by omega)
      have ew0 : (0 : Int) ≤ (k : Int) + 1 := by omega
      have ew1 : (k : Int) + 1 ≤ M.length := by have := HMl.out; omega
      have tokS : True := trivial
      have tokP : True := trivial
      go_wp2_with fail
      go_region_held3 (fun w' => w'.cell? ⟨gb, k, none⟩ = some (.string ⟨#[]⟩))
        (first | go_keep | exact (hb7.cell (p := ⟨gb, k, none⟩) hgb).trans (by assumption) | exact (hb8.cell (p := ⟨gb, k, none⟩) (by have := hb7.size; exact Nat.lt_of_lt_of_le hgb this)).trans (by assumption) | exact hc9 | exact hc10 | exact (hb11.cell (p := ⟨gb, k, none⟩) (World.block_lt_of_cell? _ _ hc10)).trans hc10)
        (first
          | (go_at_call 6; refine cAll.out.mono ?_; rintro e w7 ⟨v7, rfl, hrow7, hb7⟩)
          | (have _g := tokS; clear tokS; go_at_call 7; refine (same_any _ _ TK TK (hNA.out.below hb7) (namesIn_row (by rw [LTK.out]; exact hrow7)) (by have := LTK.out; omega) (by have := LTK.out; omega)).mono ?_; rw [sameL_refl]; rintro e w8 ⟨rfl, hb8⟩; have hbb := hb7.trans (hb8.mono hb7.size); have hRB8 := row_kept HRB6.out (fun g hg => hbb.block g (HRB6.out.lt g hg).2); have hsz8 : W.heap.size ≤ w8.heap.size := Nat.le_trans HB6d.out.size hbb.size)
          | (have _g := tokP; have _g2 := hRB8; clear tokP; refine step_append_any (by rfl) (.const (.slice none 0 0)) (.tmp 86) 24 rfl W.heap.size 9 j0 _ 1 16 Tryd.underlying24 HJ0.out.1 HJ0.out.2.1 HJ0.out.2.2.1 HJ0.out.2.2.2 rfl (by decide) _ 0 [] rfl (World.ownsRow_nil _ _ _ _) (some ⟨gb, 0, none⟩) k cb _ (by rfl) l8.out (fun h => by cases h) (hN8.out _ hRB8) (ones.out _) (by unfold maxLen; omega) (by omega) hsz8 ?_; intro v9 w9 own9 keep9 grow9 at9; have hc9 := HBK.out _ (row_kept hRB8 (fun g hg => grow9.block g (hRB8.lt g hg).2 (nil_block _))))
          | (have _g2 := own9; refine step_append_any (by rfl) (.tmp 87) (.tmp 91) 24 rfl W.heap.size 9 j0 _ 1 16 Tryd.underlying24 HJ0.out.1 HJ0.out.2.1 HJ0.out.2.2.1 HJ0.out.2.2.2 rfl (by decide) _ _ _ rfl own9 (some a9) (M.length - (k + 1)) (cb - (k + 1)) _ (by rfl) l9.out (fun h => by cases h) (hN9.out _ (row_kept hRB8 (fun g hg => grow9.block g (hRB8.lt g hg).2 (nil_block _)))) (ones.out _) (by unfold maxLen; omega) (by omega) (Nat.le_trans hsz8 grow9.size) ?_; intro v10 w10 own10 keep10 grow10 at10; have hc10 := HBK.out _ (row_end hRB8 grow9 at9 grow10); have hN10 := namesIn_row (L := TA) (own_congr own10 (by rw [← F4.out]; simp) (by rw [LTA.out, HMl.out]; omega)); have hA8 := row_kept HR26.out (fun g hg => hbb.block g (HR26.out.lt g hg).2); have hA10 := namesIn_row (L := TA) (by rw [LTA.out]; exact row_end hA8 grow9 at9 grow10))
          | (have _g2 := hA10; go_at_call 7; refine (same_any _ _ TA TA hN10 hA10 (by have := LTA.out; omega) (by have := LTA.out; omega)).mono ?_; rw [sameL_refl]; rintro e w11 ⟨rfl, hb11⟩))
      have hB10 := below_end (HB6d.out.trans (hbb.mono HB6d.out.size)) grow9 own9 grow10
      have HB11 := Lib.hid (hB10.trans (hb11.mono hB10.size))
      clear hB10 hb11 hA10 hA8 hN10 own10 keep10 grow10 at10 own9 keep9 grow9 at9
      go_wp2_with fail
      go_ret
      exact ⟨rfl, HB11.out⟩
  · go_upto_region 3 with (go_at_call 5; refine (alive_any HT.out).mono ?_; rintro e w1 ⟨rfl, hb1⟩)
    have HB1 := Lib.hid hb1
    have hV1 := HV.out.below hb1
    have HV1 := Lib.hid hV1
    clear hV1 hb1
    go_wp2_with fail
    obtain ⟨k, hkk, hkl⟩ : ∃ k : Nat, (kk.tmod (↑l.length + 1) + ↑l.length + 1).tmod (↑l.length + 1) = k ∧ k ≤ l.length := by
      have h1 : 0 ≤ (kk.tmod (↑l.length + 1) + ↑l.length + 1) := by have := Int.lt_tmod_of_pos kk (b := (l.length : Int) + 1) (by omega); omega
      have h2 := Int.tmod_nonneg (↑l.length + 1) h1
      have h3 := Int.tmod_lt_of_pos (kk.tmod (↑l.length + 1) + ↑l.length + 1) (b := (l.length : Int) + 1) (by omega)
      exact ⟨((kk.tmod (↑l.length + 1) + ↑l.length + 1).tmod (↑l.length + 1)).toNat, by omega, by omega⟩
    rw [hkk]
    clear hkk t1 t2
    refine (all_any (HT.out.on HB1.out) _ l HV1.out (by omega)).mono ?_
    rintro e w2 ⟨va, rfl, hrow, hb2⟩
    obtain ⟨a2, cap2, rfl⟩ : ∃ a2 cap2, va = .slice a2 l.length cap2 := by
      rcases hrow.2 with ⟨rfl, h0⟩ | ⟨g, c, cur, rfl, _⟩
      · rw [h0]; exact ⟨_, _, rfl⟩
      · exact ⟨_, _, rfl⟩
    have HR2 := Lib.hid (row_base hrow HB1.out.size)
    have HB2 := Lib.hid (HB1.out.trans (hb2.mono HB1.out.size))
    have HV2 := Lib.hid (HV1.out.below hb2)
    clear hrow hb2
    have hk1 : (0 : Int) ≤ (k : Int) := by omega
    have hk2 : k ≤ cap := by omega
    have hk3 : (k : Int) ≤ cap := by omega
    have hk4 : (k : Int) ≤ l.length := by omega
    obtain ⟨i0, hi, hz0, hz1, hz2⟩ := info_parts info_int
    have HI0 : Hid (Tryd.prog.info? 3 = some i0 ∧ i0.zero = some (.int .i64 0) ∧ i0.size = 1 ∧ i0.bytes = 8) := ⟨hi, hz0, hz1, hz2⟩
    clear hi hz0 hz1 hz2
    have hcells : ∀ W', Below w2.heap.size w2 W' → ∀ ad, a = some ad → ∀ j u, (l.map (Value.int .i64))[j]? = some u → W'.cell? (ad.add j) = some u := fun W' hb => ints_cells (HV2.out.below hb)
    have HC := Lib.hid hcells
    have HNone := Lib.hid (show a = none → k = 0 from fun h => by have := HAN.out h; rw [this] at hkl; simpa using hkl)
    have HNone2 := Lib.hid (show a = none → l.length - k = 0 from fun h => by have := HAN.out h; rw [this]; simp)
    clear hcells
    have tok : True := trivial
    have tok2 : True := trivial
    have HL1 := Lib.hid (show ((l.take k).map (Value.int .i64)).length = k * 1 by rw [List.length_map, List.length_take]; omega)
    have HL3 := Lib.hid (show ((l.drop k).map (Value.int .i64)).length = (l.length - k) * 1 by rw [List.length_map, List.length_drop]; omega)
    have HT1 := Lib.hid (show ∀ j u, ((l.take k).map (Value.int .i64))[j]? = some u → (l.map (Value.int .i64))[j]? = some u from fun j u hu => by
      rw [List.map_take, List.getElem?_take] at hu
      split at hu
      · exact hu
      · cases hu)
    have HT3 := Lib.hid (show ∀ j u, ((l.drop k).map (Value.int .i64))[j]? = some u → (l.map (Value.int .i64))[k + j]? = some u from fun j u hu => by
      rw [List.map_drop, List.getElem?_drop] at hu; exact hu)
    go_upto_region 5 with fail
    go_cut [8] (fun s8 wx => IntsIn wx s8 (l.take k ++ [bad] ++ l.drop k) ∧ Below w2.heap.size w2 wx)
    case first =>
      obtain ⟨a3, ha3, hA3⟩ : ∃ a3, (if cap = k then a else a.map (·.add k)) = a3 ∧ ∀ W', Below w2.heap.size w2 W' → ∀ ad, a3 = some ad → ∀ j u, ((l.drop k).map (Value.int .i64))[j]? = some u → W'.cell? (ad.add j) = some u := by
        refine ⟨_, rfl, fun W' hb ad had j u hu => ?_⟩
        have h9 := HT3.out j u hu
        by_cases hc : cap = k
        · exfalso
          have := (List.getElem?_eq_some_iff.1 hu).1
          rw [List.length_map, List.length_drop] at this; omega
        · rw [if_neg hc] at had
          cases a with
          | none => cases had
          | some A =>
            cases had
            rw [Deep.add_add]
            exact HC.out W' hb A rfl _ u h9
      have HN3 := Lib.hid (show a3 = none → l.length - k = 0 from fun h => by
        rw [← ha3] at h
        cases a with
        | none => exact HNone2.out rfl
        | some A => split at h <;> cases h)
      have HA3 := Lib.hid hA3
      have hsl : ∀ w, (Instr.slice 22 (.slice a l.length cap) (some (.int .i64 (k : Int))) none none).run Tryd.prog w = .ok (.slice a3 (l.length - k) (cap - k)) w := by
        intro w
        rw [← ha3]
        have hs : (sizeOf (Tryd.prog.elem 22)).run Tryd.prog w = .ok 1 w := by kernel_rfl
        rw [run_slice_l (P := Tryd.prog) w 22 a l.length cap (by kernel_rfl) .i64 (k : Int) (by omega) (by omega)]
        simp [hs, sliced]
      replace ha3 := Lib.hid ha3
      clear hA3
      go_region_law (first
        | (have _g := tok; clear tok; refine step_append_any (wanted_none rfl) (.const (.slice none 0 0)) (.tmp 43) 22 rfl w2.heap.size 3 i0 _ 1 8 Tryd.underlying22 HI0.out.1 HI0.out.2.1 HI0.out.2.2.1 HI0.out.2.2.2 rfl (by decide) _ 0 [] rfl (World.ownsRow_nil _ _ _ _) a k cap ((l.take k).map (Value.int .i64)) (by simp [Act.eval, Act.put]) HL1.out HNone.out
            (fun ad had j u hu => HC.out _ (by first | exact (Below.refl _ _).drew | exact ((Below.refl _ _).alloc (Nat.le_refl _) _).drew) ad had j u (HT1.out j u hu)) (fun u hu => ints_one _ u hu) (by unfold maxLen; omega) (by omega) (by simp) ?_; intro v2 w3 own2 keep2 grow2 at2; have hB2 : Below w2.heap.size w2 w3 := (by first | exact below_nil_grown (Below.refl _ _).drew grow2 | exact below_nil_grown ((Below.refl _ _).alloc (Nat.le_refl _) _).drew grow2); have hkk := (fun h => grow2.block w2.heap.size h (nil_block _)))
        | (have _g := tok2; have _g2 := own2; clear tok2; refine step_append_any (wanted_none rfl) (.tmp 44) (.tmp 46) 22 rfl w2.heap.size 3 i0 _ 1 8 Tryd.underlying22 HI0.out.1 HI0.out.2.1 HI0.out.2.2.1 HI0.out.2.2.2 rfl (by decide) _ (0 + k) _ rfl (own2.alloc _) (some ⟨w3.heap.size, 0, none⟩) 1 1 [.int .i64 bad] rfl rfl (fun h => by cases h) (fun ad had j u hu => by cases had; exact World.news_of_block (heap_alloc_new _ _) j u hu) (fun u hu => ints_one [bad] u hu) (by unfold maxLen; omega) (by omega) (by have := hB2.size; simp; omega) ?_; intro v3 w4 own3 keep3 grow3 at3; have hB3 : Below w2.heap.size w2 w4 := (hB2.alloc hB2.size _).grown grow3 (by have := hB2.size; simp; omega) (fun k hk => (own2.lt k hk).1))
        | (have _g := tok2; have _g2 := own2; clear tok2; refine step_append_any (wanted_none rfl) (.tmp 44) (.tmp 46) 22 rfl w2.heap.size 3 i0 _ 1 8 Tryd.underlying22 HI0.out.1 HI0.out.2.1 HI0.out.2.2.1 HI0.out.2.2.2 rfl (by decide) _ (0 + k) _ rfl own2 (some ⟨w2.heap.size, 0, none⟩) 1 1 [.int .i64 bad] rfl rfl (fun h => by cases h) (fun ad had j u hu => by cases had; exact World.news_of_block ((hkk (by simp)).trans (heap_alloc_new w2 _)) j u hu) (fun u hu => ints_one [bad] u hu) (by unfold maxLen; omega) (by omega) hB2.size ?_; intro v3 w4 own3 keep3 grow3 at3; have hB3 : Below w2.heap.size w2 w4 := hB2.grown grow3 hB2.size (fun k hk => (own2.lt k hk).1))
        | (have _g2 := own3; refine step_append_any (wanted_none rfl) (.tmp 47) (.tmp 50) 22 rfl w2.heap.size 3 i0 _ 1 8 Tryd.underlying22 HI0.out.1 HI0.out.2.1 HI0.out.2.2.1 HI0.out.2.2.2 rfl (by decide) _ (0 + k + 1) _ rfl own3 a3 (l.length - k) (cap - k) ((l.drop k).map (Value.int .i64)) rfl HL3.out HN3.out (fun ad had j u hu => HA3.out _ hB3 ad had j u hu) (fun u hu => ints_one _ u hu) (by unfold maxLen; omega) (by omega) hB3.size ?_; intro v4 w5 own4 keep4 grow4 at4; have hB4 : Below w2.heap.size w2 w5 := hB3.grown grow4 hB3.size (fun k hk => (own3.lt k hk).1)))
      all_goals (have HO := Lib.hid own4; have HB := Lib.hid hB4; clear at2 at3 at4 hkk hB2 hB3 hB4 grow2 grow3 grow4 own2 own3 own4 keep2 keep3 keep4; go_wp2_with fail; go_meet)
      all_goals exact ⟨intsIn_row (own_congr HO.out (by simp) (by simp; omega)), HB.out⟩
    case rest =>
      obtain ⟨hI, hBc⟩ := hcut
      have hMl : (l.take k ++ [bad] ++ l.drop k).length = l.length + 1 := by simp; omega
      have hTBA := allN_ins (l := l) (k := k) HBAD.out
      have hTAA := allN_parts l k
      have hTKl : (allN (l.take k)).length = k := by rw [allN_len, List.length_take]; omega
      generalize l.take k ++ [bad] ++ l.drop k = M at hI hMl hTBA
      obtain ⟨a8, c8, rfl⟩ := hI.form
      have HI8 := Lib.hid hI
      have HMl := Lib.hid hMl
      have HTBA := Lib.hid hTBA
      have HTAA := Lib.hid hTAA
      have HTKl := Lib.hid hTKl
      have HBC := Lib.hid (HB2.out.trans (hBc.mono HB2.out.size))
      have HR2c := Lib.hid (row_kept HR2.out (fun g hg => hBc.block g (HR2.out.lt g hg).2))
      have HV2c := Lib.hid (HV2.out.below hBc)
      have hMle : M.length ≤ 61 := by omega
      clear hI hMl hTBA hTAA hTKl hBc tok tok2 HL1 HL3 HT1 HT3 HC
      go_wp2_with fail
      refine (all_any (HT.out.under HLOW.out HBC.out) _ M HI8.out (by omega)).mono ?_
      rintro e w6 ⟨vb, rfl, hrowb, hb6⟩
      obtain ⟨gb, cb, rfl, hcb⟩ := row_some hrowb (by rw [List.length_map]; unfold texts; rw [List.length_map, allN_len]; rw [HMl.out]; omega)
      have HB6 := Lib.hid (HBC.out.trans (hb6.mono HBC.out.size))
      have HB6d := Lib.hid HB6.out.drew
      have HR26 := Lib.hid (show w6.drew.ownsRow W.heap.size 9 1 (.slice a2 l.length cap2) l.length ((texts (allN l)).map .string) from row_kept HR2c.out (fun g hg => hb6.block g (HR2c.out.lt g hg).2))
      have HRB6 := Lib.hid (show w6.drew.ownsRow W.heap.size 9 1 (.slice (some ⟨gb, 0, none⟩) M.length cb) M.length ((texts (allN M)).map .string) from row_base hrowb HBC.out.size)
      have HV6 := Lib.hid (show IntsIn w6.drew (.slice a l.length cap) l from HV2c.out.below (hb6.drew))
      have hgb : gb < w6.heap.size := (hrowb.lt gb rfl).2
      clear hrowb hb6
      have hTA : ∃ TA : List ByteArray, texts (allN l) = TA := ⟨_, rfl⟩
      obtain ⟨TA, hTA⟩ := hTA
      have hTB : ∃ TB : List ByteArray, texts (allN M) = TB := ⟨_, rfl⟩
      obtain ⟨TB, hTB⟩ := hTB
      have hTK : ∃ TK : List ByteArray, texts (allN (l.take k)) = TK := ⟨_, rfl⟩
      obtain ⟨TK, hTK⟩ := hTK
      have lTK : TK.length = k := by rw [← hTK, texts_len]; exact HTKl.out
      have lTA : TA.length = l.length := by rw [← hTA, texts_len, allN_len]
      have lTB : TB.length = l.length + 1 := by rw [← hTB, texts_len, allN_len]; exact HMl.out
      have pTA : TA = TK ++ texts (allC (stC (l.take k)) (l.drop k)) := by rw [← hTA, HTAA.out, texts_app, hTK]
      have pTB : TB = TK ++ ⟨#[]⟩ :: texts (allC (stC (l.take k)) (l.drop k)) := by rw [← hTB, HTBA.out, texts_app, hTK]; rfl
      have f1 : TA.take k = TK := by rw [pTA, ← lTK, List.take_left]
      have f2 : TB.take k = TK := by rw [pTB, ← lTK, List.take_left]
      have f3 : TB[k]? = some ⟨#[]⟩ := by rw [pTB, List.getElem?_append_right (by omega), lTK, Nat.sub_self]; rfl
      have f4 : TB.take k ++ TB.drop (k + 1) = TA := by
        rw [f2, pTB, pTA]
        congr 1
        rw [List.drop_append, lTK, List.drop_of_length_le (by omega), show k + 1 - k = 1 by omega]; rfl
      rw [hTA] at HR26
      rw [hTB] at HRB6
      have cbk : w6.cell? ⟨gb, k, none⟩ = some (.string ⟨#[]⟩) := by
        have h9 := HRB6.out.cellAt k (by rw [HMl.out]; omega)
        rw [List.getElem?_map, f3] at h9
        exact h9
      have F1 := Lib.hid f1
      have F2 := Lib.hid f2
      have F4 := Lib.hid f4
      have F3 := Lib.hid f3
      have LTA := Lib.hid lTA
      have LTB := Lib.hid lTB
      have LTK := Lib.hid lTK
      have HTK := Lib.hid hTK
      clear hTA hTB hTK lTK lTA lTB pTA pTB f1 f2 f3 f4
      have hk5 : (k : Int) ≤ cap2 := by
        rcases HR26.out.2 with ⟨h, h0⟩ | ⟨g, c, cur, h, _, _, h9, _⟩
        · simp only [Value.slice.injEq] at h; omega
        · simp only [Value.slice.injEq] at h; omega
      have hk6 : (k : Int) ≤ cb := by have := HMl.out; omega
      have hk7 : (k : Int) < M.length := by have := HMl.out; omega
      have hNA : Hid (NamesIn w6.drew (.slice a2 k cap2) TK) := by
        have := names_take (L := TA) (a := a2) (cap := cap2) (by rw [LTA.out]; exact HR26.out) (by rw [LTA.out]) k (by rw [LTA.out]; exact hkl) cap2
        rw [F1.out] at this
        exact this
      have hIK : Hid (IntsIn w6.drew (.slice a k cap) (l.take k)) := by
        by_cases h0 : k = 0
        · subst h0; exact .inl ⟨by simp, _, _, rfl⟩
        · obtain ⟨b, o, he, hb, hc⟩ := HV6.out.cells rfl (by omega)
          subst he
          refine .inr ⟨b, o, cap, by rw [List.length_take, Nat.min_eq_left hkl], hb, fun i hi => ?_⟩
          rw [List.length_take, Nat.min_eq_left hkl] at hi
          rw [hc i (by omega)]
          simp
      obtain ⟨j0, hi, hz0, hz1, hz2⟩ := info_parts info_str
      have HJ0 : Hid (Tryd.prog.info? 9 = some j0 ∧ j0.zero = some (.string ⟨#[]⟩) ∧ j0.size = 1 ∧ j0.bytes = 16) := ⟨hi, hz0, hz1, hz2⟩
      clear hi hz0 hz1 hz2
      obtain ⟨a9, ha9⟩ : ∃ a9, (if cb = k + 1 then (⟨gb, 0, none⟩ : Addr) else ⟨gb, k + 1, none⟩) = a9 := ⟨_, rfl⟩
      have hslb : ∀ w, (Instr.slice 24 (.slice (some ⟨gb, 0, none⟩) M.length cb) (some (.int .i64 ((k : Int) + 1))) none none).run Tryd.prog w = .ok (.slice (some a9) (M.length - (k + 1)) (cb - (k + 1))) w := by
        intro w
        have hs : (sizeOf (Tryd.prog.elem 24)).run Tryd.prog w = .ok 1 w := by kernel_rfl
        have e : ((k : Int) + 1).toNat = k + 1 := by omega
        rw [run_slice_l (P := Tryd.prog) w 24 (some ⟨gb, 0, none⟩) M.length cb (by kernel_rfl) .i64 ((k : Int) + 1) (by omega) (by omega)]
        simp only [hs, sliced, e, Result.andThen_ok, ← ha9, Option.map_some, Nat.mul_one]
        congr 2
        split <;> simp [Addr.add]
      have hN9 : Hid (∀ W' : World, W'.ownsRow W.heap.size 9 1 (.slice (some ⟨gb, 0, none⟩) M.length cb) M.length (TB.map .string) → ∀ ad, some a9 = some ad → ∀ j u, ((TB.drop (k + 1)).map Value.string)[j]? = some u → W'.cell? (ad.add j) = some u) := by
        intro W' ho ad had j u hu
        cases had
        have hj := (List.getElem?_eq_some_iff.1 hu).1
        rw [List.length_map, List.length_drop, LTB.out] at hj
        rw [← ha9, if_neg (by have := HMl.out; omega), add_plain]
        rw [List.map_drop, List.getElem?_drop] at hu
        rw [ho.cellAt (k + 1 + j) (by rw [HMl.out]; omega)]
        exact hu
      have hN8 : Hid (∀ W' : World, W'.ownsRow W.heap.size 9 1 (.slice (some ⟨gb, 0, none⟩) M.length cb) M.length (TB.map .string) → ∀ ad, some (⟨gb, 0, none⟩ : Addr) = some ad → ∀ j u, ((TB.take k).map Value.string)[j]? = some u → W'.cell? (ad.add j) = some u) := by
        intro W' ho ad had j u hu
        cases had
        have hj := (List.getElem?_eq_some_iff.1 hu).1
        rw [List.length_map, List.length_take] at hj
        rw [add_plain, Nat.zero_add]
        rw [List.map_take, List.getElem?_take, if_pos (by omega)] at hu
        rw [ho.cellAt j (by rw [HMl.out]; omega)]
        exact hu
      have HBK : Hid (∀ W' : World, W'.ownsRow W.heap.size 9 1 (.slice (some ⟨gb, 0, none⟩) M.length cb) M.length (TB.map .string) → W'.cell? ⟨gb, k, none⟩ = some (.string ⟨#[]⟩)) := fun W' ho => by
        have h9 := ho.cellAt k (by omega)
        rw [List.getElem?_map, F3.out] at h9
        exact h9
      replace ha9 := Lib.hid ha9
      have l8 := Lib.hid (show ((TB.take k).map Value.string).length = k * 1 by rw [List.length_map, List.length_take, LTB.out]; omega)
      have l9 := Lib.hid (show ((TB.drop (k + 1)).map Value.string).length = (M.length - (k + 1)) * 1 by rw [List.length_map, List.length_drop, LTB.out, HMl.out]; omega)
      have ones := Lib.hid (show ∀ (L : List ByteArray) (u : Value), u ∈ L.map Value.string → u.oneCell' = true from fun L u hu => by obtain ⟨x, -, rfl⟩ := List.mem_map.1 hu; rfl)
      have hMi : (M.length : Int) ≤ 61 := by omega
      have cAll := Lib.hid (all_any (HT.out.under HLOW.out HB6d.out) _ (l.take k) hIK.out (by rw [List.length_take]; omega))
      rw [HTK.out, List.length_take, Nat.min_eq_left hkl] at cAll
      have ew : IntKind.i64.wrap ((k : Int) + 1) = (k : Int) + 1 := IntWalk.i64_in _ (by omega)
      have ew0 : (0 : Int) ≤ (k : Int) + 1 := by omega
      have ew1 : (k : Int) + 1 ≤ M.length := by have := HMl.out; omega
      have tokS : True := trivial
      have tokP : True := trivial
      go_wp2_with fail
      go_region_held3 (fun w' => w'.cell? ⟨gb, k, none⟩ = some (.string ⟨#[]⟩))
        (first | go_keep | exact (hb7.cell (p := ⟨gb, k, none⟩) hgb).trans (by assumption) | exact (hb8.cell (p := ⟨gb, k, none⟩) (by have := hb7.size; exact Nat.lt_of_lt_of_le hgb this)).trans (by assumption) | exact hc9 | exact hc10 | exact (hb11.cell (p := ⟨gb, k, none⟩) (World.block_lt_of_cell? _ _ hc10)).trans hc10)
        (first
          | (go_at_call 6; refine cAll.out.mono ?_; rintro e w7 ⟨v7, rfl, hrow7, hb7⟩)
          | (have _g := tokS; clear tokS; go_at_call 7; refine (same_any _ _ TK TK (hNA.out.below hb7) (namesIn_row (by rw [LTK.out]; exact hrow7)) (by have := LTK.out; omega) (by have := LTK.out; omega)).mono ?_; rw [sameL_refl]; rintro e w8 ⟨rfl, hb8⟩; have hbb := hb7.trans (hb8.mono hb7.size); have hRB8 := row_kept HRB6.out (fun g hg => hbb.block g (HRB6.out.lt g hg).2); have hsz8 : W.heap.size ≤ w8.heap.size := Nat.le_trans HB6d.out.size hbb.size)
          | (have _g := tokP; have _g2 := hRB8; clear tokP; refine step_append_any (by rfl) (.const (.slice none 0 0)) (.tmp 86) 24 rfl W.heap.size 9 j0 _ 1 16 Tryd.underlying24 HJ0.out.1 HJ0.out.2.1 HJ0.out.2.2.1 HJ0.out.2.2.2 rfl (by decide) _ 0 [] rfl (World.ownsRow_nil _ _ _ _) (some ⟨gb, 0, none⟩) k cb _ (by rfl) l8.out (fun h => by cases h) (hN8.out _ hRB8) (ones.out _) (by unfold maxLen; omega) (by omega) hsz8 ?_; intro v9 w9 own9 keep9 grow9 at9; have hc9 := HBK.out _ (row_kept hRB8 (fun g hg => grow9.block g (hRB8.lt g hg).2 (nil_block _))))
          | (have _g2 := own9; refine step_append_any (by rfl) (.tmp 87) (.tmp 91) 24 rfl W.heap.size 9 j0 _ 1 16 Tryd.underlying24 HJ0.out.1 HJ0.out.2.1 HJ0.out.2.2.1 HJ0.out.2.2.2 rfl (by decide) _ _ _ rfl own9 (some a9) (M.length - (k + 1)) (cb - (k + 1)) _ (by rfl) l9.out (fun h => by cases h) (hN9.out _ (row_kept hRB8 (fun g hg => grow9.block g (hRB8.lt g hg).2 (nil_block _)))) (ones.out _) (by unfold maxLen; omega) (by omega) (Nat.le_trans hsz8 grow9.size) ?_; intro v10 w10 own10 keep10 grow10 at10; have hc10 := HBK.out _ (row_end hRB8 grow9 at9 grow10); have hN10 := namesIn_row (L := TA) (own_congr own10 (by rw [← F4.out]; simp) (by rw [LTA.out, HMl.out]; omega)); have hA8 := row_kept HR26.out (fun g hg => hbb.block g (HR26.out.lt g hg).2); have hA10 := namesIn_row (L := TA) (by rw [LTA.out]; exact row_end hA8 grow9 at9 grow10))
          | (have _g2 := hA10; go_at_call 7; refine (same_any _ _ TA TA hN10 hA10 (by have := LTA.out; omega) (by have := LTA.out; omega)).mono ?_; rw [sameL_refl]; rintro e w11 ⟨rfl, hb11⟩))
      have hB10 := below_end (HB6d.out.trans (hbb.mono HB6d.out.size)) grow9 own9 grow10
      have HB11 := Lib.hid (hB10.trans (hb11.mono hB10.size))
      clear hB10 hb11 hA10 hA8 hN10 own10 keep10 grow10 at10 own9 keep9 grow9 at9
      go_wp2_with fail
      go_ret
      exact ⟨rfl, HB11.out⟩
--WALK
set_option maxRecDepth 100000 in
set_option maxHeartbeats 1000000 in
theorem numberFirst_walk (v : Value) (k bad : Int) (W : World) (hT : Tabs W) (h : ∃ l : List Int, RowIn W W.heap.size v (l.map (.int .i64)) ∧ ∀ z ∈ l, (Lit.int .i64 z).wf = true)
    (hk : -9223372036854775808 ≤ k ∧ k ≤ 9223372036854775807) (hb : -9223372036854775808 ≤ bad ∧ bad ≤ 9223372036854775807) :
    Calls Tryd.prog 3 #[v, .int .i64 k, .int .i64 bad] W fun e w' => e = .returned (.bool true) ∧ Below W.heap.size W w' := by
  obtain ⟨l, ⟨a, cap, rfl, hlc, hcm, hr⟩, -⟩ := h
  simp only [List.length_map] at *
  by_cases hl : l.length ≤ 60 ∧ okLev bad = false
  · obtain ⟨hl, hbad⟩ := hl
    have hI : IntsIn W (.slice a l.length cap) l := by
      rcases hr with hr | ⟨b, o, ha, hb, hc⟩
      · have hr' : l = [] := by simpa using hr
        subst hr'
        exact .inl ⟨rfl, _, _, rfl⟩
      · subst ha
        exact .inr ⟨b, o, cap, rfl, hb, fun i h => by
          have h9 := hc i h
          rw [List.getElem_map] at h9
          exact h9⟩
    refine first_main a cap l k bad W hT hI hlc (fun ha => ?_) hl hbad hk hb
    rcases hr with hr | ⟨b, o, ha', -, -⟩
    · simpa using hr
    · rw [ha'] at ha; cases ha
  · have hcase : decide ((60 : Int) < l.length) = true ∨ (decide ((60 : Int) < l.length) = false ∧ decide ((1 : Int) ≤ bad) = true ∧ decide (bad ≤ 6) = true) := by
      unfold okLev at hl
      simp only [Bool.and_eq_false_iff, decide_eq_false_iff_not, decide_eq_true_eq] at hl ⊢
      omega
    have ha := fun w => @alive_any w
    have HT := Lib.hid hT
    clear hr hT hl hk hb
    rcases hcase with t1 | ⟨t1, t2, t3⟩
    all_goals go_enter Tryd.func3, Tryd.ntmps3
    all_goals go_wp2_with fail
    all_goals refine (ha _ HT.out).mono ?_
    all_goals rintro e w1 ⟨rfl, hb1⟩
    all_goals go_wp2_with fail
    all_goals go_ret
    all_goals exact ⟨rfl, hb1⟩
end Go.Proofs.YtbblgnbafecdmaaDoor
