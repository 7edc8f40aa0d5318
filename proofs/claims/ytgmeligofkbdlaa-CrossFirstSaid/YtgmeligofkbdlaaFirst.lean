/- The walk of CrossFirst. -/
import Derived.Test.YtgmeligofkbdlaaLaws
import Derived.Test.YtgmeligofkbdlaaAppend
import Derived.Deep.DeepCutAuto
import Derived.Lib.QuietBelow
import Derived.Deep.AppendLies
import Derived.Deep.Slices
namespace Go.Proofs.Ytgmeligofkbdlaa
open Go.RowKit

set_option maxHeartbeats 1000000 in
theorem first_long (v : Value) (anchor : ByteArray) (at' : Int) (a : Option Addr) (len cap : Nat) (w : World) (hv : v = .slice a len cap) (hlen : 40 < len) (hm : len ≤ 9223372036854775807) :
    Calls Try.prog 4 #[v, .string anchor, .int .i64 at'] w fun e w' => e = .returned (.bool true) ∧ Below w.heap.size w w' := by
  subst hv
  go_enter Try.func4, Try.ntmps4
  go_wp2_with fail
  refine (alive_any _).mono ?_
  rintro e w1 ⟨rfl, hb⟩
  go_wp2_with fail
  go_ret
  exact ⟨rfl, hb⟩

set_option maxHeartbeats 1000000 in
theorem first_name (v : Value) (anchor : ByteArray) (at' : Int) (a : Option Addr) (len cap : Nat) (w : World) (hv : v = .slice a len cap) (hlen : len ≤ 40) (ha : 60 < anchor.size) (hm : anchor.size ≤ 9223372036854775807) :
    Calls Try.prog 4 #[v, .string anchor, .int .i64 at'] w fun e w' => e = .returned (.bool true) ∧ Below w.heap.size w w' := by
  subst hv
  go_enter Try.func4, Try.ntmps4
  go_wp2_with fail
  refine (alive_any _).mono ?_
  rintro e w1 ⟨rfl, hb⟩
  go_wp2_with fail
  go_ret
  exact ⟨rfl, hb⟩

theorem info_sec : (Try.prog.info? 25).map (fun i => (i.zero, i.size, i.bytes)) = some (some (.agg #[.int .i64 0, .string ⟨#[]⟩, .string ⟨#[]⟩, .string ⟨#[]⟩]), 4, 56) := by kernel_rfl

theorem take_cells (l : List Sec) (k : Nat) {j : Nat} {u : Value} (h : ((l.take k).flatMap Sec.cells)[j]? = some u) : (l.flatMap Sec.cells)[j]? = some u := by
  rw [flat_take, List.getElem?_take] at h
  split at h
  · exact h
  · cases h

theorem drop_cells (l : List Sec) (k : Nat) {j : Nat} {u : Value} (h : ((l.drop k).flatMap Sec.cells)[j]? = some u) : (l.flatMap Sec.cells)[k * 4 + j]? = some u := by
  rwa [flat_drop, List.getElem?_drop] at h

theorem _root_.Go.World.ownsRow.congr {w : World} {base : Nat} {e : TypeId} {size : Nat} {v : Value} {n : Nat} {xs ys : List Value} (h : w.ownsRow base e size v n xs) (hy : xs = ys) : w.ownsRow base e size v n ys := hy ▸ h

theorem below_nil_grown {w W w2 : World} (h : Below w.heap.size w W) (g : W.grownBy w2 (Value.ownBlock (.slice none 0 0))) : Below w.heap.size w w2 :=
  h.grown g h.size (fun k hk => by simp [Value.ownBlock] at hk)
theorem nil_block (k : Nat) : some k ≠ Value.ownBlock (.slice none 0 0) := by simp [Value.ownBlock]

abbrev mineT : ByteArray := ⟨#[109, 105, 110, 101]⟩

set_option maxRecDepth 100000 in
set_option maxHeartbeats 4000000 in
theorem first_main (v : Value) (l : List Sec) (anchor : ByteArray) (at' : Int) (w : World) (h : SecsIn w w.heap.size v l) (hlen : l.length ≤ 40) (ha : anchor.size ≤ 60) (hat : -9223372036854775808 ≤ at' ∧ at' ≤ 9223372036854775807) :
    Calls Try.prog 4 #[v, .string anchor, .int .i64 at'] w fun e w' => e = .returned (.bool true) ∧ Below w.heap.size w w' := by
  have h0 := h
  obtain ⟨a, cap, rfl, hc, hm, hnil, h⟩ := h
  obtain ⟨ha1, ha2⟩ := hat
  have t1 : -(40 : Int) ≤ at'.tmod (l.length + 1) := by have := Int.tmod_lt_of_pos at' (b := (l.length : Int) + 1) (by omega); have := Int.lt_tmod_of_pos at' (b := (l.length : Int) + 1) (by omega); omega
  have t2 : at'.tmod (l.length + 1) ≤ 40 := by have := Int.tmod_lt_of_pos at' (b := (l.length : Int) + 1) (by omega); omega
  go_enter Try.func4, Try.ntmps4
  go_wp2_with fail
  refine (alive_any _).mono ?_
  rintro e w1 ⟨rfl, hb1⟩
  have h1 := h0.below hb1
  go_wp2_with fail
  obtain ⟨k, hk, hkl⟩ : ∃ k : Nat, (at'.tmod (↑l.length + 1) + ↑l.length + 1).tmod (↑l.length + 1) = k ∧ k ≤ l.length := by
    have h1 : 0 ≤ (at'.tmod (↑l.length + 1) + ↑l.length + 1) := by have := Int.lt_tmod_of_pos at' (b := (l.length : Int) + 1) (by omega); omega
    have h2 := Int.tmod_nonneg (↑l.length + 1) h1
    have h3 := Int.tmod_lt_of_pos (at'.tmod (↑l.length + 1) + ↑l.length + 1) (b := (l.length : Int) + 1) (by omega)
    exact ⟨((at'.tmod (↑l.length + 1) + ↑l.length + 1).tmod (↑l.length + 1)).toNat, by omega, by omega⟩
  rw [hk]
  clear hk t1 t2
  have H1 := Lib.hid h1
  have H0 := Lib.hid h0
  clear h1 h h0
  have hk1 : (0 : Int) ≤ (k : Int) := by omega
  have hk2 : k ≤ cap := by omega
  have hk3 : (k : Int) ≤ cap := by omega
  have hk4 : (k : Int) ≤ l.length := by omega
  obtain ⟨i0, hi, hz0, hz1, hz2⟩ := info_parts info_sec
  have hcells : ∀ W', Below w1.heap.size w1 W' → ∀ ad, a = some ad → ∀ j u, (l.flatMap Sec.cells)[j]? = some u → W'.cell? (ad.add j) = some u := by
    rintro W' hb ad rfl
    exact (H1.out.below (hb.mono hb1.size)).cell
  have HC := Lib.hid hcells
  have HI := Lib.hid hi
  have HZ0 := Lib.hid hz0
  have HZ1 := Lib.hid hz1
  have HZ2 := Lib.hid hz2
  clear hcells hi hz0 hz1 hz2
  have tok : True := trivial
  have tok2 : True := trivial
  go_cut [8] (fun s8 wx => SecsIn wx wx.heap.size s8 (l.take k ++ ⟨0, b0, anchor, mineT⟩ :: l.drop k) ∧ Below w.heap.size w wx)
  case first =>
    have HL1 := Lib.hid (show ((l.take k).flatMap Sec.cells).length = k * 4 by rw [flat_length, List.length_take, Nat.min_eq_left hkl])
    cases a with
    | none =>
      have hc0 : cap = 0 := hnil rfl
      have hl0 : l = [] := List.eq_nil_of_length_eq_zero (by omega)
      have hk0 : k = 0 := by omega
      subst hl0 hc0 hk0
      have HN1 := Lib.hid (show ((none : Option Addr) = none → 0 = 0 ∧ 0 = 0) from fun _ => ⟨rfl, rfl⟩)
      have HL3 := Lib.hid (show ((List.drop 0 ([] : List Sec)).flatMap Sec.cells).length = 0 * 4 from rfl)
      have HN3 := HN1
      have HC3 := Lib.hid (show ∀ W', Below w1.heap.size w1 W' → ∀ ad, (none : Option Addr) = some ad → ∀ j u, ((List.drop 0 ([] : List Sec)).flatMap Sec.cells)[j]? = some u → W'.cell? (ad.add j) = some u from fun W' hb ad had => by cases had)
      go_region_law (first
        | (have _g := tok; clear tok; refine step_append_any rfl (.const (.slice none 0 0)) (.tmp 43) 22 rfl w1.heap.size 25 i0 _ 4 56 Try.underlying22 HI.out HZ0.out HZ1.out HZ2.out rfl (by decide) _ 0 [] rfl (World.ownsRow_nil _ _ _ _) none 0 0 ((List.take 0 ([] : List Sec)).flatMap Sec.cells) (by simp [Act.eval, Act.put]) HL1.out HN1.out
            (fun ad had j u hu => HC.out _ (by first | exact (Below.refl _ _).drew | exact ((Below.refl _ _).alloc (Nat.le_refl _) _).drew) ad had j u (take_cells [] 0 hu)) (fun u hu => flat_one _ u hu) (by unfold maxLen; omega) (by omega) (by simp) ?_; intro v2 w2 own2 grow2 at2; have hB2 : Below w1.heap.size w1 w2 := (by first | exact below_nil_grown (Below.refl _ _).drew grow2 | exact below_nil_grown ((Below.refl _ _).alloc (Nat.le_refl _) _).drew grow2); have hkk := (fun h => grow2.block w1.heap.size h (nil_block _)))
        | (have _g := tok2; have _g2 := own2; clear tok2; refine step_append_any rfl (.tmp 44) (.tmp 47) 22 rfl w1.heap.size 25 i0 _ 4 56 Try.underlying22 HI.out HZ0.out HZ1.out HZ2.out rfl (by decide) _ (0 + 0) _ rfl (own2.alloc _) (some ⟨w2.heap.size, 0, none⟩) 1 1 (Sec.cells ⟨0, b0, anchor, mineT⟩) rfl rfl (fun h => by cases h) (fun ad had j u hu => by cases had; exact World.news_of_block (heap_alloc_new _ _) j u hu) (fun u hu => flat_one [⟨0, b0, anchor, mineT⟩] u (by simpa using hu)) (by unfold maxLen; omega) (by omega) (by have := hB2.size; simp; omega) ?_; intro v3 w3 own3 grow3 at3; have hB3 : Below w1.heap.size w1 w3 := (hB2.alloc hB2.size _).grown grow3 (by have := hB2.size; simp; omega) (fun k hk => (own2.lt k hk).1))
        | (have _g := tok2; have _g2 := own2; clear tok2; refine step_append_any rfl (.tmp 44) (.tmp 47) 22 rfl w1.heap.size 25 i0 _ 4 56 Try.underlying22 HI.out HZ0.out HZ1.out HZ2.out rfl (by decide) _ (0 + 0) _ rfl own2 (some ⟨w1.heap.size, 0, none⟩) 1 1 (Sec.cells ⟨0, b0, anchor, mineT⟩) rfl rfl (fun h => by cases h) (fun ad had j u hu => by cases had; exact World.news_of_block ((hkk (by simp)).trans (heap_alloc_new w1 _)) j u hu) (fun u hu => flat_one [⟨0, b0, anchor, mineT⟩] u (by simpa using hu)) (by unfold maxLen; omega) (by omega) hB2.size ?_; intro v3 w3 own3 grow3 at3; have hB3 : Below w1.heap.size w1 w3 := hB2.grown grow3 hB2.size (fun k hk => (own2.lt k hk).1))
        | (have _g2 := own3; refine step_append_any rfl (.tmp 48) (.tmp 51) 22 rfl w1.heap.size 25 i0 _ 4 56 Try.underlying22 HI.out HZ0.out HZ1.out HZ2.out rfl (by decide) _ (0 + 0 + 1) _ rfl own3 none 0 0 ((List.drop 0 ([] : List Sec)).flatMap Sec.cells) rfl HL3.out HN3.out (fun ad had j u hu => HC3.out _ hB3 ad had j u hu) (fun u hu => flat_one _ u hu) (by unfold maxLen; omega) (by omega) hB3.size ?_; intro v4 w4 own4 grow4 at4; have hB4 : Below w1.heap.size w1 w4 := hB3.grown grow4 hB3.size (fun k hk => (own3.lt k hk).1)))
      all_goals (have HO := Lib.hid own4; have HB := Lib.hid hB4; clear at2 at3 at4 hkk hB2 hB3 hB4 grow2 grow3 grow4 own2 own3 own4; go_wp2_with fail; go_meet)
      all_goals exact ⟨secsIn_own (HO.out.congr (by simp [Sec.cells])) (by first | (simp; done) | (simp; omega)) (by omega) (Nat.le_refl _), hb1.trans (HB.out.mono hb1.size)⟩
    | some A =>
      have HN1 := Lib.hid (show (some A = none → k = 0 ∧ cap = 0) from fun h => by cases h)
      have HL3 := Lib.hid (show ((l.drop k).flatMap Sec.cells).length = (l.length - k) * 4 by rw [flat_length, List.length_drop])
      by_cases hck : cap = k
      · subst hck
        have HL3 := Lib.hid (show ((l.drop cap).flatMap Sec.cells).length = 0 * 4 by rw [flat_length, List.length_drop]; omega)
        have HN3 := Lib.hid (show (some A = none → 0 = 0 ∧ 0 = 0) from fun h => by cases h)
        have HC3 := Lib.hid (show ∀ W', Below w1.heap.size w1 W' → ∀ ad, some A = some ad → ∀ j u, ((l.drop cap).flatMap Sec.cells)[j]? = some u → W'.cell? (ad.add j) = some u from fun W' hb ad had j u hu => by
          rw [List.drop_of_length_le (by omega)] at hu; simp at hu)
        go_region_law (first
          | (have _g := tok; clear tok; refine step_append_any rfl (.const (.slice none 0 0)) (.tmp 43) 22 rfl w1.heap.size 25 i0 _ 4 56 Try.underlying22 HI.out HZ0.out HZ1.out HZ2.out rfl (by decide) _ 0 [] rfl (World.ownsRow_nil _ _ _ _) (some A) cap cap ((l.take cap).flatMap Sec.cells) (by simp [Act.eval, Act.put]) HL1.out HN1.out
              (fun ad had j u hu => HC.out _ (by first | exact (Below.refl _ _).drew | exact ((Below.refl _ _).alloc (Nat.le_refl _) _).drew) ad had j u (take_cells l cap hu)) (fun u hu => flat_one _ u hu) (by unfold maxLen; omega) (by omega) (by simp) ?_; intro v2 w2 own2 grow2 at2; have hB2 : Below w1.heap.size w1 w2 := (by first | exact below_nil_grown (Below.refl _ _).drew grow2 | exact below_nil_grown ((Below.refl _ _).alloc (Nat.le_refl _) _).drew grow2); have hkk := (fun h => grow2.block w1.heap.size h (nil_block _)))
          | (have _g := tok2; have _g2 := own2; clear tok2; refine step_append_any rfl (.tmp 44) (.tmp 47) 22 rfl w1.heap.size 25 i0 _ 4 56 Try.underlying22 HI.out HZ0.out HZ1.out HZ2.out rfl (by decide) _ (0 + cap) _ rfl (own2.alloc _) (some ⟨w2.heap.size, 0, none⟩) 1 1 (Sec.cells ⟨0, b0, anchor, mineT⟩) rfl rfl (fun h => by cases h) (fun ad had j u hu => by cases had; exact World.news_of_block (heap_alloc_new _ _) j u hu) (fun u hu => flat_one [⟨0, b0, anchor, mineT⟩] u (by simpa using hu)) (by unfold maxLen; omega) (by omega) (by have := hB2.size; simp; omega) ?_; intro v3 w3 own3 grow3 at3; have hB3 : Below w1.heap.size w1 w3 := (hB2.alloc hB2.size _).grown grow3 (by have := hB2.size; simp; omega) (fun k hk => (own2.lt k hk).1))
          | (have _g := tok2; have _g2 := own2; clear tok2; refine step_append_any rfl (.tmp 44) (.tmp 47) 22 rfl w1.heap.size 25 i0 _ 4 56 Try.underlying22 HI.out HZ0.out HZ1.out HZ2.out rfl (by decide) _ (0 + cap) _ rfl own2 (some ⟨w1.heap.size, 0, none⟩) 1 1 (Sec.cells ⟨0, b0, anchor, mineT⟩) rfl rfl (fun h => by cases h) (fun ad had j u hu => by cases had; exact World.news_of_block ((hkk (by simp)).trans (heap_alloc_new w1 _)) j u hu) (fun u hu => flat_one [⟨0, b0, anchor, mineT⟩] u (by simpa using hu)) (by unfold maxLen; omega) (by omega) hB2.size ?_; intro v3 w3 own3 grow3 at3; have hB3 : Below w1.heap.size w1 w3 := hB2.grown grow3 hB2.size (fun k hk => (own2.lt k hk).1))
          | (have _g2 := own3; refine step_append_any rfl (.tmp 48) (.tmp 51) 22 rfl w1.heap.size 25 i0 _ 4 56 Try.underlying22 HI.out HZ0.out HZ1.out HZ2.out rfl (by decide) _ (0 + cap + 1) _ rfl own3 (some A) 0 0 ((l.drop cap).flatMap Sec.cells) rfl HL3.out HN3.out (fun ad had j u hu => HC3.out _ hB3 ad had j u hu) (fun u hu => flat_one _ u hu) (by unfold maxLen; omega) (by omega) hB3.size ?_; intro v4 w4 own4 grow4 at4; have hB4 : Below w1.heap.size w1 w4 := hB3.grown grow4 hB3.size (fun k hk => (own3.lt k hk).1)))
        all_goals (have HO := Lib.hid own4; have HB := Lib.hid hB4; clear at2 at3 at4 hkk hB2 hB3 hB4 grow2 grow3 grow4 own2 own3 own4; go_wp2_with fail; go_meet)
        all_goals exact ⟨secsIn_own (HO.out.congr (by simp [Sec.cells])) (by first | (simp; done) | (simp; omega)) (by omega) (Nat.le_refl _), hb1.trans (HB.out.mono hb1.size)⟩
      · have HN3 := Lib.hid (show (some (A.add (k * 4)) = none → l.length - k = 0 ∧ cap - k = 0) from fun h => by cases h)
        have HC3 := Lib.hid (show ∀ W', Below w1.heap.size w1 W' → ∀ ad, some (A.add (k * 4)) = some ad → ∀ j u, ((l.drop k).flatMap Sec.cells)[j]? = some u → W'.cell? (ad.add j) = some u from fun W' hb ad had j u hu => by
          cases had
          rw [Deep.add_add]
          exact HC.out W' hb A rfl _ u (drop_cells l k hu))
        go_region_law (first
          | (have _g := tok; clear tok; refine step_append_any rfl (.const (.slice none 0 0)) (.tmp 43) 22 rfl w1.heap.size 25 i0 _ 4 56 Try.underlying22 HI.out HZ0.out HZ1.out HZ2.out rfl (by decide) _ 0 [] rfl (World.ownsRow_nil _ _ _ _) (some A) k cap ((l.take k).flatMap Sec.cells) (by simp [Act.eval, Act.put]) HL1.out HN1.out
              (fun ad had j u hu => HC.out _ (by first | exact (Below.refl _ _).drew | exact ((Below.refl _ _).alloc (Nat.le_refl _) _).drew) ad had j u (take_cells l k hu)) (fun u hu => flat_one _ u hu) (by unfold maxLen; omega) (by omega) (by simp) ?_; intro v2 w2 own2 grow2 at2; have hB2 : Below w1.heap.size w1 w2 := (by first | exact below_nil_grown (Below.refl _ _).drew grow2 | exact below_nil_grown ((Below.refl _ _).alloc (Nat.le_refl _) _).drew grow2); have hkk := (fun h => grow2.block w1.heap.size h (nil_block _)))
          | (have _g := tok2; have _g2 := own2; clear tok2; refine step_append_any rfl (.tmp 44) (.tmp 47) 22 rfl w1.heap.size 25 i0 _ 4 56 Try.underlying22 HI.out HZ0.out HZ1.out HZ2.out rfl (by decide) _ (0 + k) _ rfl (own2.alloc _) (some ⟨w2.heap.size, 0, none⟩) 1 1 (Sec.cells ⟨0, b0, anchor, mineT⟩) rfl rfl (fun h => by cases h) (fun ad had j u hu => by cases had; exact World.news_of_block (heap_alloc_new _ _) j u hu) (fun u hu => flat_one [⟨0, b0, anchor, mineT⟩] u (by simpa using hu)) (by unfold maxLen; omega) (by omega) (by have := hB2.size; simp; omega) ?_; intro v3 w3 own3 grow3 at3; have hB3 : Below w1.heap.size w1 w3 := (hB2.alloc hB2.size _).grown grow3 (by have := hB2.size; simp; omega) (fun k hk => (own2.lt k hk).1))
          | (have _g := tok2; have _g2 := own2; clear tok2; refine step_append_any rfl (.tmp 44) (.tmp 47) 22 rfl w1.heap.size 25 i0 _ 4 56 Try.underlying22 HI.out HZ0.out HZ1.out HZ2.out rfl (by decide) _ (0 + k) _ rfl own2 (some ⟨w1.heap.size, 0, none⟩) 1 1 (Sec.cells ⟨0, b0, anchor, mineT⟩) rfl rfl (fun h => by cases h) (fun ad had j u hu => by cases had; exact World.news_of_block ((hkk (by simp)).trans (heap_alloc_new w1 _)) j u hu) (fun u hu => flat_one [⟨0, b0, anchor, mineT⟩] u (by simpa using hu)) (by unfold maxLen; omega) (by omega) hB2.size ?_; intro v3 w3 own3 grow3 at3; have hB3 : Below w1.heap.size w1 w3 := hB2.grown grow3 hB2.size (fun k hk => (own2.lt k hk).1))
          | (have _g2 := own3; refine step_append_any rfl (.tmp 48) (.tmp 51) 22 rfl w1.heap.size 25 i0 _ 4 56 Try.underlying22 HI.out HZ0.out HZ1.out HZ2.out rfl (by decide) _ (0 + k + 1) _ rfl own3 (some (A.add (k * 4))) (l.length - k) (cap - k) ((l.drop k).flatMap Sec.cells) rfl HL3.out HN3.out (fun ad had j u hu => HC3.out _ hB3 ad had j u hu) (fun u hu => flat_one _ u hu) (by unfold maxLen; omega) (by omega) hB3.size ?_; intro v4 w4 own4 grow4 at4; have hB4 : Below w1.heap.size w1 w4 := hB3.grown grow4 hB3.size (fun k hk => (own3.lt k hk).1)))
        all_goals (have HO := Lib.hid own4; have HB := Lib.hid hB4; clear at2 at3 at4 hkk hB2 hB3 hB4 grow2 grow3 grow4 own2 own3 own4; go_wp2_with fail; go_meet)
        all_goals exact ⟨secsIn_own (HO.out.congr (by simp [Sec.cells])) (by first | (simp; done) | (simp; omega)) (by omega) (Nat.le_refl _), hb1.trans (HB.out.mono hb1.size)⟩
  case rest =>
    obtain ⟨hs8, hBc⟩ := hcut
    have hF := find_mid anchor (l.take k) (l.drop k)
    generalize l.take k ++ ⟨0, b0, anchor, ⟨#[109, 105, 110, 101]⟩⟩ :: l.drop k = L at hs8 hF
    have HF := Lib.hid hF
    clear hF
    have HS8 := Lib.hid hs8
    obtain ⟨a8, cap8, h8, -, -, -, -⟩ := hs8
    subst h8
    have H1b := Lib.hid (H0.out.below hBc)
    clear tok tok2 HC HI HZ0 HZ1 HZ2 H1 hb1
    go_wp2_with fail
    refine (find_any anchor _ _ _ HS8.out).mono ?_
    rintro e w5 ⟨rfl, hb5⟩
    have hB5 := hBc.trans (hb5.mono hBc.size)
    clear hb5
    generalize findSec anchor L = fs at HF ⊢
    obtain ⟨⟨f0, f1, f2, f3⟩, fk⟩ := fs
    have hfk : fk = true := HF.out.1
    subst hfk
    simp only [Sec.val]
    have hb6 : Below w.heap.size w (w5.alloc (.cells #[.int .i64 f0, .string f1, .string f2, .string f3] 25)) := hB5.alloc hB5.size _
    have H6 := Lib.hid hb6
    clear hb6
    go_wp2_with fail
    go_loopw [11, 12] (fun s11 s12 wr => ∃ i : Nat, i ≤ k ∧ s12 = .int .i64 i ∧ s11 = .bool ((l.take i).any fun s => s.anchor.toList == anchor.toList) ∧ wr = w5.alloc (.cells #[.int .i64 f0, .string f1, .string f2, .string f3] 25)) (fun _ i _ => k - (intOf i).toNat)
    case atStart => exact ⟨0, Nat.zero_le _, rfl, rfl, rfl⟩
    case round =>
      obtain ⟨i, hik, rfl, rfl, rfl⟩ := hrel
      by_cases hlt : i < k
      · obtain ⟨a', c', he, -, -, -, hs⟩ := H0.out.below H6.out
        obtain ⟨b, o, rfl, hbl, hs⟩ := hs.resolve_left (by intro h; simp [h] at hkl; omega)
        simp only [Value.slice.injEq] at he
        obtain ⟨rfl, -, -⟩ := he
        have hs2 := (hs i (by omega)).c2
        have hil : i < l.length := by omega
        have hst : (l.take (i + 1)).any (fun s => s.anchor.toList == anchor.toList) = ((l.take i).any (fun s => s.anchor.toList == anchor.toList) || (l[i].anchor.toList == anchor.toList)) := by
          rw [List.take_succ_eq_append_getElem hil, List.any_append]; simp
        have HST := Lib.hid hst
        clear hs hst
        have hi0 : (0 : Int) ≤ (i : Int) := by omega
        generalize (l.take i).any (fun s => s.anchor.toList == anchor.toList) = hd at HST ⊢
        have hz5 : b < w5.heap.size := by have := hB5.size; omega
        have hs2' : w5.cell? ⟨b, o + i * 4 + 2, none⟩ = some (.string l[i].anchor) := by rw [← hs2]; exact (((Below.refl w5.heap.size w5).alloc (Nat.le_refl _) _).cell (p := ⟨b, o + i * 4 + 2, none⟩) hz5).symm
        clear hs2
        cases hd
        all_goals
          go_wp2_with fail
          go_roundw
          case rel => exact ⟨i + 1, by omega, by go_num, by rw [HST.out]; first | rfl | simp, by first | rfl | trivial⟩
          case measure => simp [intOf]; omega
      · have hik' : k = i := by omega
        subst hik'
        generalize hgd : (l.take k).any (fun s => s.anchor.toList == anchor.toList) = hd at HF ⊢
        have HT := HF.out.2.2
        have HA := HF.out.2.1
        clear hgd
        go_wp2_with fail
        refine (find_any anchor _ [] _ ⟨none, 0, rfl, Nat.le_refl _, by simp, fun _ => rfl, Or.inl rfl⟩).mono ?_
        rintro e w7 ⟨rfl, hb7⟩
        have hk7 := (hb7.block w5.heap.size (by simp)).trans (heap_alloc_new _ _)
        obtain ⟨c0, c1, c2, c3, -, -, -, -, hz7⟩ := block4 hk7
        have hB7 := H6.out.trans (hb7.mono H6.out.size)
        clear hb7 hk7
        simp only [findSec, Sec.zero, Sec.val]
        cases hd
        · have ht : f3 = mineT := HT rfl
          subst ht
          have ht2 : (ByteArray.toList mineT == ByteArray.toList mineT) = true := by simp
          go_wp2_with fail
          go_ret
          exact ⟨rfl, hB7.alloc hB7.size _⟩
        · go_wp2_with fail
          go_ret
          exact ⟨rfl, hB7.alloc hB7.size _⟩
end Go.Proofs.Ytgmeligofkbdlaa
