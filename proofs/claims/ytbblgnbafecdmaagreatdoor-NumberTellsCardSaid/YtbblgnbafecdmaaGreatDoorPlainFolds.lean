/- What was folded stays so; blanks around, and between, do not matter. No program in this text. -/
import Derived.Test.YtbblgnbafecdmaaGreatDoorPlainTwice
import Derived.Test.YtbblgnbafecdmaaGreatDoorRefRunes
namespace Go.Proofs.YtbblgnbafecdmaaGreatDoor
open Go.Lib Go.RowKit

def contB (b : UInt8) : Bool := decide (b.toNat / 64 = 2)
/-- the continuation bytes that a text begins with -/
def contP (l : List UInt8) : List UInt8 := l.takeWhile contB

theorem dec_contP (b : UInt8) (l : List UInt8) : decodeL (b :: l) = decodeL (b :: contP l) := by
  have e : b :: l = (b :: contP l) ++ l.dropWhile contB := by simp [contP, List.takeWhile_append_dropWhile]
  rw [e]
  refine dec_app _ _ (by simp) ?_
  intro c hc h
  have h2 : ∀ m : List UInt8, (m.dropWhile contB).head? = some c → contB c = false := by
    intro m
    induction m with
    | nil => intro h; cases h
    | cons a m ih =>
      intro h
      by_cases ha : contB a = true
      · rw [List.dropWhile_cons_of_pos ha] at h; exact ih h
      · rw [List.dropWhile_cons_of_neg ha] at h
        cases h; simpa using ha
  have := h2 l hc
  unfold contB at this
  simp [h] at this

/-- a byte that is no rune -/
def BadTok (x : Nat × List UInt8) : Prop := x.1 = 65533 ∧ ∃ b : UInt8, x.2 = [b] ∧ 128 ≤ b.toNat
theorem good_or {x : Nat × List UInt8} (h : GoodTok x) : VTok x ∨ BadTok x := by
  rcases h with ⟨h, b, e, hb⟩ | ⟨h1, h2, _, h3, h4⟩ | h
  · left
    refine ⟨?_, by omega, by omega⟩
    rw [e]
    unfold encodeRune
    rw [encodeRuneZ_one (by omega) (by omega), ← hb]
    simp
  · exact .inl ⟨h2, h3, h4⟩
  · exact .inr h

theorem v_first {x : Nat × List UInt8} (h : VTok x) (q : List UInt8) : contP (x.2 ++ q) = [] := by
  obtain ⟨h1, h2, h3⟩ := h
  rw [h1]
  have key : ∃ a t, encodeRune (x.1 : Int) = a :: t ∧ contB a = false := by
    unfold encodeRune
    by_cases a1 : x.1 < 128
    · rw [encodeRuneZ_one (by omega) (by omega)]
      refine ⟨_, _, rfl, ?_⟩
      unfold contB; simp; omega
    by_cases a2 : x.1 < 2048
    · rw [encodeRuneZ_two (by omega) (by omega)]
      refine ⟨_, _, rfl, ?_⟩
      have : (192 + (x.1 : Int) / 64).toNat.toUInt8.toNat = 192 + x.1 / 64 := by
        have e : (192 + (x.1 : Int) / 64).toNat = 192 + x.1 / 64 := by omega
        rw [e]; exact u8_ofNat (by omega)
      unfold contB; rw [this]; simp; omega
    by_cases a3 : x.1 < 65536
    · rw [encodeRuneZ_three (by omega)]
      refine ⟨_, _, rfl, ?_⟩
      have : (224 + (x.1 : Int) / 4096).toNat.toUInt8.toNat = 224 + x.1 / 4096 := by
        have e : (224 + (x.1 : Int) / 4096).toNat = 224 + x.1 / 4096 := by omega
        rw [e]; exact u8_ofNat (by omega)
      unfold contB; rw [this]; simp; omega
    · have e4 : encodeRuneZ (x.1 : Int) = [240 + (x.1 : Int) / 262144, 128 + (x.1 : Int) / 4096 % 64, 128 + (x.1 : Int) / 64 % 64, 128 + (x.1 : Int) % 64] := by
        unfold encodeRuneZ
        rw [if_neg (by omega), if_neg (by omega), if_neg (by omega), if_pos (by omega)]
      rw [e4]
      refine ⟨_, _, rfl, ?_⟩
      have : (240 + (x.1 : Int) / 262144).toNat.toUInt8.toNat = 240 + x.1 / 262144 := by
        have e : (240 + (x.1 : Int) / 262144).toNat = 240 + x.1 / 262144 := by omega
        rw [e]; exact u8_ofNat (by omega)
      unfold contB; rw [this]; simp; omega
  obtain ⟨a, t, e, ha⟩ := key
  rw [e]
  unfold contP
  rw [List.cons_append, List.takeWhile_cons_of_neg (by simp [ha])]

/-- these runes stay when they are written and parted again -/
def Stable (ts : List (Nat × List UInt8)) : Prop := toks (flat ts) = ts
theorem stable_toks (l : List UInt8) : Stable (toks l) := by
  unfold Stable flat; rw [toks_flat]
theorem stable_nil : Stable [] := rfl
theorem stable_v {x : Nat × List UInt8} {ts : List (Nat × List UInt8)} (hx : VTok x) (h : Stable ts) : Stable (x :: ts) := by
  unfold Stable; rw [flat_cons, toks_v hx, h]
theorem stable_tail {x : Nat × List UInt8} {ts : List (Nat × List UInt8)} (hx : x.2 ≠ []) (h : Stable (x :: ts)) : Stable ts ∧ decodeL (flat (x :: ts)) = (x.1, x.2.length) := by
  unfold Stable at h
  rw [flat_cons] at h ⊢
  have hne : x.2 ++ flat ts ≠ [] := by simp [hx]
  have hle := decodeL_le _ hne
  rw [toks_step _ hne] at h
  injection h with h1 h2
  have e1 : (decodeL (x.2 ++ flat ts)).1 = x.1 := congrArg Prod.fst h1
  have e2 : (x.2 ++ flat ts).take (decodeL (x.2 ++ flat ts)).2 = x.2 := congrArg Prod.snd h1
  have e3 : (decodeL (x.2 ++ flat ts)).2 = x.2.length := by
    have := congrArg List.length e2
    rw [List.length_take] at this; omega
  rw [e3, List.drop_left'  rfl] at h2
  exact ⟨h2, Prod.ext e1 e3⟩
theorem stable_bad {x : Nat × List UInt8} {ts us : List (Nat × List UInt8)} (hx : BadTok x) (h : Stable (x :: ts)) (hu : Stable us) (hc : contP (flat ts) = contP (flat us)) : Stable (x :: us) := by
  obtain ⟨r, t⟩ := x
  obtain ⟨h1, b, h2, _⟩ := hx
  dsimp only at h1 h2
  subst h2
  have hd := (stable_tail (by simp) h).2
  rw [flat_cons, List.cons_append, List.nil_append, dec_contP, hc, ← dec_contP] at hd
  unfold Stable
  rw [flat_cons, List.cons_append, List.nil_append, toks_step _ (by simp), hd]
  simp only [List.length_cons, List.length_nil, Nat.zero_add, List.take_succ_cons, List.take_zero, List.drop_succ_cons, List.drop_zero]
  rw [hu]

/-- a rune as repair.Fold writes it -/
def foldOne (x : Nat × List UInt8) : Nat × List UInt8 := if greatI x.1 = true then (x.1 + 32, encodeRune ((x.1 : Int) + 32)) else x
theorem foldOne_snd (x : Nat × List UInt8) : (foldOne x).2 = foldTok x := by
  unfold foldOne foldTok
  by_cases h : greatI x.1 = true
  · rw [if_pos h, if_pos h]
  · rw [if_neg h, if_neg h]
def blank : Nat × List UInt8 := (32, [32])
def foldV : Bool → Bool → List (Nat × List UInt8) → List (Nat × List UInt8)
  | _, _, [] => []
  | any, gap, x :: ts =>
    if spaceI x.1 = true then foldV any true ts
    else (if gap = true ∧ any = true then [blank] else []) ++ (foldOne x :: foldV true false ts)
theorem foldV_flat (ts : List (Nat × List UInt8)) : ∀ a g, flat (foldV a g ts) = foldT a g ts := by
  induction ts with
  | nil => intro a g; rfl
  | cons x ts ih =>
    intro a g
    simp only [foldV, foldT]
    split
    · exact ih a true
    · rw [flat_append, flat_cons, foldOne_snd, ih]
      split <;> rfl
theorem greatI_iff (r : Int) : greatI r = true ↔ ((65 ≤ r ∧ r ≤ 90) ∨ (192 ≤ r ∧ r ≤ 214) ∨ (216 ≤ r ∧ r ≤ 222)) := by
  unfold greatI amongB greatSpans
  simp only [List.any_cons, List.any_nil, Bool.or_eq_true, Bool.and_eq_true, decide_eq_true_eq, Bool.or_false]
theorem blank_v : VTok blank := ⟨by decide, by simp [blank], by simp [blank]⟩
theorem foldOne_v {x : Nat × List UInt8} (h : VTok x) : VTok (foldOne x) := by
  unfold foldOne
  split
  · next hg =>
    have := (greatI_iff _).1 hg
    exact ⟨by rw [show ((x.1 + 32 : Nat) : Int) = (x.1 : Int) + 32 from by omega], by dsimp only; omega, by dsimp only; omega⟩
  · exact h
theorem foldOne_bad {x : Nat × List UInt8} (h : BadTok x) : foldOne x = x := by
  unfold foldOne
  rw [h.1, if_neg (by decide)]
theorem foldOne_not {x : Nat × List UInt8} (h : spaceI x.1 = false) : spaceI (foldOne x).1 = false ∧ greatI (foldOne x).1 = false := by
  unfold foldOne
  split
  · next hg =>
    have hg := (greatI_iff _).1 hg
    constructor
    · cases hq : spaceI (((x.1 + 32 : Nat)) : Int) with
      | false => rfl
      | true => have := (spaceI_iff _).1 hq; omega
    · cases hq : greatI (((x.1 + 32 : Nat)) : Int) with
      | false => rfl
      | true => have := (greatI_iff _).1 hq; omega
  · next hg => exact ⟨h, by simpa using hg⟩
theorem space_bad {x : Nat × List UInt8} (h : BadTok x) : spaceI x.1 = false := by rw [h.1]; decide

theorem fold_contP (ts : List (Nat × List UInt8)) (hg : ∀ x ∈ ts, GoodTok x) : contP (flat (foldV true false ts)) = contP (flat ts) ∧ contP (flat (foldV true true ts)) = [] := by
  induction ts with
  | nil => exact ⟨rfl, rfl⟩
  | cons x ts ih =>
    obtain ⟨i1, i2⟩ := ih (fun y hy => hg y (List.mem_cons_of_mem _ hy))
    rcases good_or (hg x (List.mem_cons_self ..)) with hv | hb
    · have hx : contP (flat (x :: ts)) = [] := v_first hv _
      rw [hx]
      simp only [foldV]
      split
      · exact ⟨i2, i2⟩
      · constructor
        · rw [if_neg (by simp), List.nil_append, flat_cons]; exact v_first (foldOne_v hv) _
        · rw [if_pos (by simp), List.cons_append, List.nil_append, flat_cons]; exact v_first blank_v _
    · have hs := space_bad hb
      simp only [foldV, hs]
      constructor
      · rw [if_neg (by simp), if_neg (by simp), List.nil_append, foldOne_bad hb, flat_cons, flat_cons]
        obtain ⟨_, b, e, _⟩ := hb
        rw [e]
        unfold contP at i1 ⊢
        simp only [List.cons_append, List.nil_append, List.takeWhile_cons, i1]
      · rw [if_neg (by simp), if_pos (by simp), List.cons_append, List.nil_append, flat_cons]; exact v_first blank_v _

theorem fold_stable (ts : List (Nat × List UInt8)) (hg : ∀ x ∈ ts, GoodTok x) : Stable ts → ∀ a g, Stable (foldV a g ts) := by
  induction ts with
  | nil => intro _ a g; exact stable_nil
  | cons x ts ih =>
    intro hs a g
    have hx := hg x (List.mem_cons_self ..)
    have hgt : ∀ y ∈ ts, GoodTok y := fun y hy => hg y (List.mem_cons_of_mem _ hy)
    have hxne : x.2 ≠ [] := by
      rcases hx with ⟨_, b, e, _⟩ | ⟨_, _, h, _⟩ | ⟨_, b, e, _⟩
      · rw [e]; simp
      · intro e; rw [e] at h; simp at h
      · rw [e]; simp
    have ih := ih hgt (stable_tail hxne hs).1
    simp only [foldV]
    split
    · exact ih a true
    · have h1 : Stable (foldOne x :: foldV true false ts) := by
        rcases good_or hx with hv | hb
        · exact stable_v (foldOne_v hv) (ih true false)
        · rw [foldOne_bad hb]
          exact stable_bad hb hs (ih true false) (fold_contP ts hgt).1.symm
      split
      · exact stable_v blank_v h1
      · exact h1

theorem foldTok_same {x : Nat × List UInt8} (h : greatI x.1 = false) : foldTok x = x.2 := by
  unfold foldTok; rw [if_neg (by simp [h])]
theorem fold_again (ts : List (Nat × List UInt8)) : ∀ g, foldT true false (foldV true g ts) = flat (foldV true g ts) := by
  induction ts with
  | nil => intro g; rfl
  | cons x ts ih =>
    intro g
    simp only [foldV]
    split
    · exact ih true
    · next hs =>
      obtain ⟨h1, h2⟩ := foldOne_not (by simpa using hs)
      split
      · show foldT true false (blank :: (foldOne x :: foldV true false ts)) = _
        have hb : spaceI (blank.1 : Int) = true := by decide
        rw [show ([blank] ++ (foldOne x :: foldV true false ts)) = blank :: foldOne x :: foldV true false ts from rfl, flat_cons, flat_cons]
        simp only [foldT, hb, h1, if_true]
        rw [foldTok_same h2, ih false]
        simp [blank]
      · show foldT true false (foldOne x :: foldV true false ts) = _
        rw [show (([] : List (Nat × List UInt8)) ++ (foldOne x :: foldV true false ts)) = foldOne x :: foldV true false ts from rfl, flat_cons]
        simp only [foldT, h1]
        rw [foldTok_same h2, ih false]
        simp
theorem fold_again0 (ts : List (Nat × List UInt8)) : ∀ g, foldT false false (foldV false g ts) = flat (foldV false g ts) := by
  induction ts with
  | nil => intro g; rfl
  | cons x ts ih =>
    intro g
    simp only [foldV]
    split
    · exact ih true
    · next hs =>
      obtain ⟨h1, h2⟩ := foldOne_not (by simpa using hs)
      rw [if_neg (by simp), List.nil_append, flat_cons]
      simp only [foldT, h1]
      rw [foldTok_same h2, fold_again ts false]
      simp

theorem foldF_twice (l : List UInt8) : foldF (foldF l) = foldF l := by
  have e : foldF l = flat (foldV false false (toks l)) := (foldV_flat _ _ _).symm
  have hs := fold_stable (toks l) (toks_good l) (stable_toks l) false false
  rw [e]
  unfold foldF
  rw [hs, fold_again0]

theorem fold_trail (us : List (Nat × List UInt8)) (hu : ∀ x ∈ us, spaceI x.1 = true) (ts : List (Nat × List UInt8)) : ∀ a g, foldT a g (ts ++ us) = foldT a g ts := by
  induction ts with
  | nil =>
    intro a g
    rw [List.nil_append]
    induction us generalizing g with
    | nil => rfl
    | cons x us ih =>
      have hx := hu x (List.mem_cons_self ..)
      simp only [foldT, hx, if_true]
      rw [ih (fun y hy => hu y (List.mem_cons_of_mem _ hy))]; rfl
  | cons x ts ih =>
    intro a g
    simp only [List.cons_append, foldT, ih]
theorem fold_mid (us vs : List (Nat × List UInt8)) (hu : ∀ x ∈ us, spaceI x.1 = true) (hne : us ≠ []) (ts : List (Nat × List UInt8)) : ∀ a g, foldT a g (ts ++ (us ++ vs)) = foldT a g (ts ++ (blank :: vs)) := by
  induction ts with
  | nil =>
    intro a g
    rw [List.nil_append, List.nil_append]
    have hb : spaceI (blank.1 : Int) = true := by decide
    have key : ∀ (us : List (Nat × List UInt8)), (∀ x ∈ us, spaceI x.1 = true) → foldT a true (us ++ vs) = foldT a true vs := by
      intro us
      induction us with
      | nil => intro _; rfl
      | cons x us ih =>
        intro hu
        have hx := hu x (List.mem_cons_self ..)
        simp only [List.cons_append, foldT, hx, if_true]
        exact ih (fun y hy => hu y (List.mem_cons_of_mem _ hy))
    cases us with
    | nil => exact absurd rfl hne
    | cons x us =>
      have hx := hu x (List.mem_cons_self ..)
      simp only [List.cons_append, foldT, hx, hb, if_true]
      exact key us (fun y hy => hu y (List.mem_cons_of_mem _ hy))
  | cons x ts ih =>
    intro a g
    simp only [List.cons_append, foldT, ih]

theorem toks_asc (b : UInt8) (q : List UInt8) (h : b.toNat < 128) : toks (b :: q) = (b.toNat, [b]) :: toks q := by
  rw [toks_step _ (by simp), decodeL_ascii b q h]; rfl
theorem foldF_around (s : List UInt8) : foldF ([32, 9] ++ s ++ [10, 32]) = foldF s := by
  have e1 : toks ([32, 9] ++ s ++ [10, 32]) = (32, [32]) :: (9, [9]) :: (toks s ++ [(10, [10]), (32, [32])]) := by
    rw [List.append_assoc]
    show toks (32 :: 9 :: (s ++ [10, 32])) = _
    rw [toks_asc 32 _ (by decide), toks_asc 9 _ (by decide), toks_app s _ (bnd_cons (by decide))]
    rfl
  unfold foldF
  rw [e1]
  have h32 : spaceI ((32 : Nat) : Int) = true := by decide
  have h9 : spaceI ((9 : Nat) : Int) = true := by decide
  simp only [foldT, h32, h9, if_true]
  rw [fold_gap, fold_trail _ (by intro x hx; simp at hx; rcases hx with rfl | rfl <;> decide)]
theorem foldF_mid (s t : List UInt8) : foldF (s ++ [32] ++ t) = foldF (s ++ [32, 10, 9, 32] ++ t) := by
  have e1 : toks (s ++ [32] ++ t) = toks s ++ (blank :: toks t) := by
    rw [List.append_assoc]
    show toks (s ++ (32 :: t)) = _
    rw [toks_app s _ (bnd_cons (by decide))]
    rw [toks_asc 32 _ (by decide)]; rfl
  have e2 : toks (s ++ [32, 10, 9, 32] ++ t) = toks s ++ ([(32, [32]), (10, [10]), (9, [9]), (32, [32])] ++ toks t) := by
    rw [List.append_assoc]
    show toks (s ++ (32 :: 10 :: 9 :: 32 :: t)) = _
    rw [toks_app s _ (bnd_cons (by decide))]
    rw [toks_asc 32 _ (by decide), toks_asc 10 _ (by decide), toks_asc 9 _ (by decide), toks_asc 32 _ (by decide)]; rfl
  unfold foldF
  rw [e1, e2, fold_mid _ _ (by intro x hx; simp at hx; rcases hx with rfl | rfl | rfl | rfl <;> decide) (by simp)]
end Go.Proofs.YtbblgnbafecdmaaGreatDoor
