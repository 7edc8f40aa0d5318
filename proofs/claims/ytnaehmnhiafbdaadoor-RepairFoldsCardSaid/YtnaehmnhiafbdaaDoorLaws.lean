/- The laws of chapter 1: alive, RepairTells, RepairClasses: the walks. -/
import Derived.Test.YtnaehmnhiafbdaaDoorFoldRef
namespace Go.Proofs.YtnaehmnhiafbdaaDoor
open Go.RowKit Go.Lib

theorem Text_as {w0 w : World} {X Y : ByteArray} (hY : Y.data.toList = textF X.data.toList) (hs : X.size ≤ 1000000) (h : Below w0.heap.size w0 w) :
    Calls Tryd.prog 10 #[.string X] w fun e w' => e = .returned (.string Y) ∧ Below w0.heap.size w0 w' :=
  (text_from X h hs).mono fun e w' ⟨he, hb⟩ => ⟨by rw [he]; exact ret_string (ba_eq (by rw [ba_mk, hY])), hb⟩
theorem TextR_as {w0 w : World} {X Y : ByteArray} (hY : Y.data.toList = textF X.data.toList) (hT : Tabs w0) (hs : X.size ≤ 1000000) (h : Below w0.heap.size w0 w) :
    Calls Tryd.prog 11 #[.string X] w fun e w' => e = .returned (.string Y) ∧ Below w0.heap.size w0 w' :=
  (text_ref_from X h hT hs).mono fun e w' ⟨he, hb⟩ => ⟨by rw [he]; exact ret_string (ba_eq (by rw [ba_mk, hY])), hb⟩
theorem Fold_as {w0 w : World} {X Y : ByteArray} (hY : Y.data.toList = foldF X.data.toList) (hT : Tabs w0) (hs : X.size ≤ 1000000) (h : Below w0.heap.size w0 w) :
    Calls Tryd.prog 18 #[.string X] w fun e w' => e = .returned (.string Y) ∧ Below w0.heap.size w0 w' :=
  (fold_from X h hT hs).mono fun e w' ⟨he, hb⟩ => ⟨by rw [he]; exact ret_string (ba_eq (by rw [ba_mk, hY])), hb⟩
theorem FoldR_as {w0 w : World} {X Y : ByteArray} (hY : Y.data.toList = foldF X.data.toList) (hT : Tabs w0) (hs : X.size ≤ 1000000) (h : Below w0.heap.size w0 w) :
    Calls Tryd.prog 19 #[.string X] w fun e w' => e = .returned (.string Y) ∧ Below w0.heap.size w0 w' :=
  (fold_ref_from X h hT hs).mono fun e w' ⟨he, hb⟩ => ⟨by rw [he]; exact ret_string (ba_eq (by rw [ba_mk, hY])), hb⟩
theorem Space_as {w0 w : World} {r : Int} {v : Bool} (hv : spaceI r = v) (h : Below w0.heap.size w0 w) :
    Calls Tryd.prog 12 #[.int .i32 r] w fun e w' => e = .returned (.bool v) ∧ Below w0.heap.size w0 w' :=
  (space_any r w).mono fun e w' ⟨he, hb⟩ => ⟨by rw [he]; exact ret_bool hv, h.trans (hb.mono h.size)⟩
theorem Punct_as {w0 w : World} {r : Int} {v : Bool} (hv : punctI r = v) (h : Below w0.heap.size w0 w) :
    Calls Tryd.prog 14 #[.int .i32 r] w fun e w' => e = .returned (.bool v) ∧ Below w0.heap.size w0 w' :=
  (punct_any r w).mono fun e w' ⟨he, hb⟩ => ⟨by rw [he]; exact ret_bool hv, h.trans (hb.mono h.size)⟩
theorem Ascii_as {w0 w : World} {r : Int} {v : Bool} (hv : amongB r asciiSpans = v) (h0 : 0 ≤ r) (h1 : r ≤ 255) (h : Below w0.heap.size w0 w) :
    Calls Tryd.prog 16 #[.int .u8 r] w fun e w' => e = .returned (.bool v) ∧ Below w0.heap.size w0 w' :=
  (ascii_any r h0 h1 w).mono fun e w' ⟨he, hb⟩ => ⟨by rw [he]; exact ret_bool hv, h.trans (hb.mono h.size)⟩
theorem SpaceR_as {w0 w : World} {r : Int} {v : Bool} (hv : spaceI r = v) (h : Below w0.heap.size w0 w) :
    Calls Tryd.prog 13 #[.int .i32 r] w fun e w' => e = .returned (.bool v) ∧ Below w0.heap.size w0 w' :=
  (space_ref_any r w).mono fun e w' ⟨he, hb⟩ => ⟨by rw [he]; exact ret_bool hv, by rw [hb]; exact h⟩
theorem PunctR_as {w0 w : World} {r : Int} {v : Bool} (hv : punctI r = v) (h : Below w0.heap.size w0 w) :
    Calls Tryd.prog 15 #[.int .i32 r] w fun e w' => e = .returned (.bool v) ∧ Below w0.heap.size w0 w' :=
  (punct_ref_any r w).mono fun e w' ⟨he, hb⟩ => ⟨by rw [he]; exact ret_bool hv, by rw [hb]; exact h⟩
theorem AsciiR_as {w0 w : World} {r : Int} {v : Bool} (hv : amongB r asciiSpans = v) (h : Below w0.heap.size w0 w) :
    Calls Tryd.prog 17 #[.int .u8 r] w fun e w' => e = .returned (.bool v) ∧ Below w0.heap.size w0 w' :=
  (ascii_ref_any r w).mono fun e w' ⟨he, hb⟩ => ⟨by rw [he]; exact ret_bool hv, by rw [hb]; exact h⟩

theorem alive_t1 : [97, 239, 191, 189, 239, 191, 189, 10, 98, 10] = textF [97, 0, 255, 13, 10, 98, 13] := by decide +kernel
theorem alive_t2 : [195, 164, 32, 98] = foldF [32, 32, 195, 132, 32, 98] := by decide +kernel

set_option maxHeartbeats 1000000 in
theorem alive_from {w0 w : World} (h : Below w0.heap.size w0 w) (hT : Tabs w0) : Calls Tryd.prog 9 #[] w fun e w' => e = .returned (.bool true) ∧ Below w0.heap.size w0 w' := by
  have c1 : ∀ {w : World}, Below w0.heap.size w0 w → Calls Tryd.prog 10 #[.string ⟨#[97, 0, 255, 13, 10, 98, 13]⟩] w fun e w' => e = .returned (.string ⟨#[97, 239, 191, 189, 239, 191, 189, 10, 98, 10]⟩) ∧ Below w0.heap.size w0 w' := fun h => Text_as alive_t1 (by decide) h
  have c2 : ∀ {w : World}, Below w0.heap.size w0 w → Calls Tryd.prog 18 #[.string ⟨#[32, 32, 195, 132, 32, 98]⟩] w fun e w' => e = .returned (.string ⟨#[195, 164, 32, 98]⟩) ∧ Below w0.heap.size w0 w' := fun h => Fold_as alive_t2 hT (by decide) h
  have c3 : ∀ {w : World}, Below w0.heap.size w0 w → Calls Tryd.prog 12 #[.int .i32 160] w fun e w' => e = .returned (.bool true) ∧ Below w0.heap.size w0 w' := fun h => Space_as (by decide) h
  have c4 : ∀ {w : World}, Below w0.heap.size w0 w → Calls Tryd.prog 16 #[.int .u8 126] w fun e w' => e = .returned (.bool true) ∧ Below w0.heap.size w0 w' := fun h => Ascii_as (by decide) (by decide) (by decide) h
  have c5 : ∀ {w : World}, Below w0.heap.size w0 w → Calls Tryd.prog 14 #[.int .i32 8364] w fun e w' => e = .returned (.bool true) ∧ Below w0.heap.size w0 w' := fun h => Punct_as (by decide) h
  go_enter Tryd.func9, Tryd.ntmps9
  go_wp2_with fail
  refine (c1 (by assumption)).mono ?_
  rintro e w1 ⟨rfl, hb1⟩
  go_wp2_with fail
  refine (c2 (by assumption)).mono ?_
  rintro e w2 ⟨rfl, hb2⟩
  go_wp2_with fail
  refine (c3 (by assumption)).mono ?_
  rintro e w3 ⟨rfl, hb3⟩
  go_wp2_with fail
  refine (c4 (by assumption)).mono ?_
  rintro e w4 ⟨rfl, hb4⟩
  go_wp2_with fail
  refine (c5 (by assumption)).mono ?_
  rintro e w5 ⟨rfl, hb5⟩
  go_wp2_with fail
  go_ret
  exact ⟨rfl, by assumption⟩

theorem textOut_le (cr : Bool) {x : Nat × List UInt8} (hg : GoodTok x) : (textOut cr x.1).length ≤ 3 * x.2.length := by
  have h1 : 1 ≤ x.2.length := by
    rcases hg with ⟨_, b, e, _⟩ | ⟨_, _, h, _⟩ | ⟨_, b, e, _⟩
    · rw [e]; simp
    · omega
    · rw [e]; simp
  unfold textOut
  split
  · simp [badB]; omega
  · next hn =>
    split
    · simp; omega
    · split
      · simp
      · rw [good_enc hg (by omega)]; omega
theorem textT_le (ts : List (Nat × List UInt8)) (hg : ∀ x ∈ ts, GoodTok x) : ∀ cr, (textT cr ts).length ≤ 3 * (ts.flatMap (·.2)).length := by
  induction ts with
  | nil => intro cr; simp [textT]
  | cons x ts ih =>
    intro cr
    have := ih (fun y hy => hg y (List.mem_cons_of_mem _ hy)) (decide (x.1 = 13))
    have h2 := textOut_le cr (hg x (List.mem_cons_self ..))
    simp only [textT, List.flatMap_cons, List.length_append]
    omega
theorem textF_le (l : List UInt8) : (textF l).length ≤ 3 * l.length := by
  have := textT_le (toks l) (toks_good l) false
  rw [toks_flat] at this; exact this
theorem foldT_le (ts : List (Nat × List UInt8)) (hg : ∀ x ∈ ts, GoodTok x) : ∀ a g, (foldT a g ts).length ≤ 3 * (ts.flatMap (·.2)).length := by
  induction ts with
  | nil => intro a g; simp [foldT]
  | cons x ts ih =>
    intro a g
    have ih := ih (fun y hy => hg y (List.mem_cons_of_mem _ hy))
    have h2 := foldTok_length (hg x (List.mem_cons_self ..))
    simp only [foldT, List.flatMap_cons, List.length_append]
    split
    · have := ih a true; omega
    · have := ih true false
      simp only [List.length_append]
      have h3 : (if g = true ∧ a = true then [32] else ([] : List UInt8)).length ≤ 1 := by split <;> simp
      omega
theorem foldF_le (l : List UInt8) : (foldF l).length ≤ 3 * l.length := by
  have := foldT_le (toks l) (toks_good l) false false
  rw [toks_flat] at this; exact this

set_option maxHeartbeats 1000000 in
theorem repairTells_walk (b s : ByteArray) (r c : Int) (W : World) (hT : Tabs W) (_hb : b.size ≤ 9223372036854775807) (_hs : s.size ≤ 9223372036854775807) (_hr : -2147483648 ≤ r ∧ r ≤ 2147483647) (hc : 0 ≤ c ∧ c ≤ 255) :
    Calls Tryd.prog 3 #[.string b, .string s, .int .i32 r, .int .u8 c] W fun e w' => e = .returned (.bool true) ∧ Below W.heap.size W w' := by
  have h0 := Below.refl W.heap.size W
  by_cases hcc : b.size ≤ 400 ∧ s.size ≤ 200
  · obtain ⟨hb2, hs2⟩ := hcc
    have hi1 : (b.size : Int) ≤ 400 := by omega
    have hi2 : (s.size : Int) ≤ 200 := by omega
    obtain ⟨E, hE⟩ : ∃ E : ByteArray, E.data.toList = textF b.data.toList := ⟨⟨(textF b.data.toList).toArray⟩, ba_mk _⟩
    obtain ⟨F, hF⟩ : ∃ F : ByteArray, F.data.toList = foldF s.data.toList := ⟨⟨(foldF s.data.toList).toArray⟩, ba_mk _⟩
    obtain ⟨v1, hv1⟩ : ∃ v, spaceI r = v := ⟨_, rfl⟩
    obtain ⟨v2, hv2⟩ : ∃ v, punctI r = v := ⟨_, rfl⟩
    obtain ⟨v3, hv3⟩ : ∃ v, amongB c asciiSpans = v := ⟨_, rfl⟩
    have c1 : ∀ {w : World}, Below W.heap.size W w → Calls Tryd.prog 10 #[.string b] w fun e w' => e = .returned (.string E) ∧ Below W.heap.size W w' := fun h => Text_as hE (by omega) h
    have c2 : ∀ {w : World}, Below W.heap.size W w → Calls Tryd.prog 11 #[.string b] w fun e w' => e = .returned (.string E) ∧ Below W.heap.size W w' := fun h => TextR_as hE hT (by omega) h
    have c3 : ∀ {w : World}, Below W.heap.size W w → Calls Tryd.prog 12 #[.int .i32 r] w fun e w' => e = .returned (.bool v1) ∧ Below W.heap.size W w' := fun h => Space_as hv1 h
    have c4 : ∀ {w : World}, Below W.heap.size W w → Calls Tryd.prog 13 #[.int .i32 r] w fun e w' => e = .returned (.bool v1) ∧ Below W.heap.size W w' := fun h => SpaceR_as hv1 h
    have c5 : ∀ {w : World}, Below W.heap.size W w → Calls Tryd.prog 14 #[.int .i32 r] w fun e w' => e = .returned (.bool v2) ∧ Below W.heap.size W w' := fun h => Punct_as hv2 h
    have c6 : ∀ {w : World}, Below W.heap.size W w → Calls Tryd.prog 15 #[.int .i32 r] w fun e w' => e = .returned (.bool v2) ∧ Below W.heap.size W w' := fun h => PunctR_as hv2 h
    have c7 : ∀ {w : World}, Below W.heap.size W w → Calls Tryd.prog 16 #[.int .u8 c] w fun e w' => e = .returned (.bool v3) ∧ Below W.heap.size W w' := fun h => Ascii_as hv3 hc.1 hc.2 h
    have c8 : ∀ {w : World}, Below W.heap.size W w → Calls Tryd.prog 17 #[.int .u8 c] w fun e w' => e = .returned (.bool v3) ∧ Below W.heap.size W w' := fun h => AsciiR_as hv3 h
    have c9 : ∀ {w : World}, Below W.heap.size W w → Calls Tryd.prog 18 #[.string s] w fun e w' => e = .returned (.string F) ∧ Below W.heap.size W w' := fun h => Fold_as hF hT (by omega) h
    have c10 : ∀ {w : World}, Below W.heap.size W w → Calls Tryd.prog 19 #[.string s] w fun e w' => e = .returned (.string F) ∧ Below W.heap.size W w' := fun h => FoldR_as hF hT (by omega) h
    clear hE hF hv1 hv2 hv3
    go_enter Tryd.func3, Tryd.ntmps3
    go_wp2_with fail
    refine (alive_from (by assumption) hT).mono ?_
    rintro e w1 ⟨rfl, hb1⟩
    go_wp2_with fail
    refine (c1 (by assumption)).mono ?_
    rintro e w2 ⟨rfl, hb2⟩
    go_wp2_with fail
    refine (c2 (by assumption)).mono ?_
    rintro e w3 ⟨rfl, hb3⟩
    go_wp2_with fail
    refine (c3 (by assumption)).mono ?_
    rintro e w4 ⟨rfl, hb4⟩
    go_wp2_with fail
    refine (c4 (by assumption)).mono ?_
    rintro e w5 ⟨rfl, hb5⟩
    go_wp2_with fail
    refine (c5 (by assumption)).mono ?_
    rintro e w6 ⟨rfl, hb6⟩
    go_wp2_with fail
    refine (c6 (by assumption)).mono ?_
    rintro e w7 ⟨rfl, hb7⟩
    go_wp2_with fail
    refine (c7 (by assumption)).mono ?_
    rintro e w8 ⟨rfl, hb8⟩
    go_wp2_with fail
    refine (c8 (by assumption)).mono ?_
    rintro e w9 ⟨rfl, hb9⟩
    go_wp2_with fail
    refine (c9 (by assumption)).mono ?_
    rintro e w10 ⟨rfl, hb10⟩
    go_wp2_with fail
    refine (c10 (by assumption)).mono ?_
    rintro e w11 ⟨rfl, hb11⟩
    go_wp2_with fail
    go_ret
    exact ⟨ret_bool (by first | rfl | simp), by assumption⟩
  · have hi : 400 < (b.size : Int) ∨ ((b.size : Int) ≤ 400 ∧ 200 < (s.size : Int)) := by omega
    rcases hi with hi | ⟨hi, hj⟩
    all_goals
      go_enter Tryd.func3, Tryd.ntmps3
      go_wp2_with fail
      refine (alive_from (by assumption) hT).mono ?_
      rintro e w1 ⟨rfl, hb1⟩
      go_wp2_with fail
      go_ret
      exact ⟨rfl, by assumption⟩
end Go.Proofs.YtnaehmnhiafbdaaDoor
