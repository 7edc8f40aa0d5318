/- What anchors are like; anchors of anchors; texts with blanks around; words. No walk in this text. -/
import Derived.Test.YtbblgnbafecdmaaGreatDoorNext
namespace Go.Proofs.YtbblgnbafecdmaaGreatDoor
open Go.Lib

/-- of signs, and dashes between them; p: the last one was a sign -/
def dashOk : Bool → List UInt8 → Prop
  | p, [] => p = true
  | p, b :: l => (alnum b = true ∧ dashOk true l) ∨ (b = 45 ∧ p = true ∧ dashOk false l)
/-- .. of a beginning -/
def dashPre : Bool → List UInt8 → Prop
  | _, [] => True
  | p, b :: l => (alnum b = true ∧ dashPre true l) ∨ (b = 45 ∧ p = true ∧ dashPre false l)
theorem alnum_45 : alnum 45 = false := by decide
theorem dashOk_pre {l : List UInt8} : ∀ {p}, dashOk p l → dashPre p l := by
  induction l with
  | nil => intro p _; trivial
  | cons b l ih =>
    rintro p (⟨h1, h2⟩ | ⟨h1, h2, h3⟩)
    · exact .inl ⟨h1, ih h2⟩
    · exact .inr ⟨h1, h2, ih h3⟩
theorem dashPre_take {l : List UInt8} : ∀ {p} (n : Nat), dashPre p l → dashPre p (l.take n) := by
  induction l with
  | nil => intro p n _; simp [dashPre]
  | cons b l ih =>
    intro p n h
    cases n with
    | zero => trivial
    | succ n =>
      rw [List.take_succ_cons]
      rcases h with ⟨h1, h2⟩ | ⟨h1, h2, h3⟩
      · exact .inl ⟨h1, ih n h2⟩
      · exact .inr ⟨h1, h2, ih n h3⟩
theorem ofB_ok (l : List UInt8) : (∀ g, dashOk true (ofB true g l)) ∧ ∀ g, ofB false g l = [] ∨ dashOk false (ofB false g l) := by
  induction l with
  | nil => exact ⟨fun g => rfl, fun g => .inl rfl⟩
  | cons b l ih =>
    by_cases hb : alnum b = true
    · refine ⟨fun g => ?_, fun g => .inr ?_⟩
      · rw [ofB_take b hb]
        cases hg : (g && true) with
        | true => exact .inr ⟨rfl, rfl, .inl ⟨hb, ih.1 false⟩⟩
        | false => exact .inl ⟨hb, ih.1 false⟩
      · rw [ofB_take b hb, Bool.and_false]
        exact .inl ⟨hb, ih.1 false⟩
    · refine ⟨fun g => ?_, fun g => ?_⟩
      · simp only [ofB]; rw [if_neg hb]; exact ih.1 true
      · simp only [ofB]; rw [if_neg hb]; exact ih.2 true
/-- the last one is a sign -/
theorem dash_end {l : List UInt8} : ∀ {p}, dashPre p l → (∀ b, l.getLast? = some b → b ≠ 45) → (l = [] → p = true) → dashOk p l := by
  induction l with
  | nil => intro p _ _ h; exact h rfl
  | cons b l ih =>
    rintro p h hl _
    cases l with
    | nil =>
      have hb := hl b rfl
      rcases h with ⟨h1, h2⟩ | ⟨h1, -, -⟩
      · exact .inl ⟨h1, rfl⟩
      · exact absurd h1 hb
    | cons c l =>
      have hl2 : ∀ b, (c :: l).getLast? = some b → b ≠ 45 := fun x hx => hl x (by rw [List.getLast?_cons_cons]; exact hx)
      rcases h with ⟨h1, h2⟩ | ⟨h1, h2, h3⟩
      · exact .inl ⟨h1, ih h2 hl2 (by simp)⟩
      · exact .inr ⟨h1, h2, ih h3 hl2 (by simp)⟩
theorem trimR_pre (l : List UInt8) (c : UInt8) : ∃ n, Lib.trimRightB l c = l.take n ∧ (∀ b, (Lib.trimRightB l c).getLast? = some b → b ≠ c) ∧ ∀ b ∈ l.drop n, b = c := by
  have h := List.takeWhile_append_dropWhile (p := (· == c)) (l := l.reverse)
  have hp := List.all_takeWhile (p := (· == c)) (l := l.reverse)
  have hd0 := fun hn => List.head_dropWhile_not (p := (· == c)) (l := l.reverse) hn
  have e : Lib.trimRightB l c = (l.reverse.dropWhile (· == c)).reverse := rfl
  rw [e]
  generalize l.reverse.takeWhile (· == c) = T at h hp
  generalize l.reverse.dropWhile (· == c) = D at h hd0 ⊢
  have h2 := congrArg List.reverse h
  rw [List.reverse_append, List.reverse_reverse] at h2
  refine ⟨D.reverse.length, ?_, ?_, ?_⟩
  · rw [← h2, List.take_left]
  · intro b hb
    rw [List.getLast?_reverse] at hb
    cases D with
    | nil => cases hb
    | cons x t =>
      cases hb
      have := hd0 (by simp)
      intro e
      simp only [List.head_cons, e] at this
      simp at this
  · intro b hb
    rw [← h2, List.drop_left] at hb
    have hb := List.mem_reverse.1 hb
    rw [List.all_eq_true] at hp
    exact beq_iff_eq.1 (hp b hb)
theorem trimR_ne {b : UInt8} {l : List UInt8} (h : b ≠ 45) : Lib.trimRightB (b :: l) 45 ≠ [] := by
  obtain ⟨n, h1, -, h3⟩ := trimR_pre (b :: l) 45
  intro e
  rw [e] at h1
  have : n = 0 := by
    cases n with
    | zero => rfl
    | succ n => simp at h1
  subst this
  exact h (h3 b (by simp))
theorem cutB_ok {x : List UInt8} (h : x = [] ∨ dashOk false x) : dashOk false (cutB x) ∧ (cutB x).length ≤ 40 := by
  unfold cutB
  split
  · exact ⟨by unfold section7; simp [dashOk, alnum], by decide⟩
  · rename_i hx
    rcases h with h | h
    · exact absurd h hx
    · obtain ⟨n, h1, h2, -⟩ := trimR_pre (x.take 40) 45
      refine ⟨?_, Nat.le_trans (trimR_len _ _) (by rw [List.length_take]; omega)⟩
      refine dash_end ?_ h2 ?_
      · rw [h1]; exact dashPre_take n (dashPre_take 40 (dashOk_pre h))
      · intro e
        exfalso
        cases x with
        | nil => exact hx rfl
        | cons b l =>
          have hb : b ≠ 45 := by
            rcases h with ⟨h1, -⟩ | ⟨-, h2, -⟩
            · intro e; rw [e, alnum_45] at h1; cases h1
            · cases h2
          rw [List.take_succ_cons] at e
          exact trimR_ne hb e
/-- every anchor is of signs, with dashes between them, and not too long -/
theorem slugL_ok (l : List UInt8) : dashOk false (slugL l) ∧ (slugL l).length ≤ 40 := cutB_ok ((ofB_ok (foldF l)).2 false)
theorem dashOk_ne {l : List UInt8} (h : dashOk false l) : l ≠ [] := by
  rintro rfl; cases h
theorem ofB_same {l : List UInt8} : (dashOk true l → ofB true false l = l) ∧ (dashOk false l → ofB true true l = 45 :: l ∧ ∀ g, ofB false g l = l) := by
  induction l with
  | nil => exact ⟨fun _ => rfl, fun h => by cases h⟩
  | cons b l ih =>
    refine ⟨fun h => ?_, fun h => ?_⟩
    · rcases h with ⟨h1, h2⟩ | ⟨h1, -, h3⟩
      · rw [ofB_take b h1, Bool.false_and, if_neg (by simp), ih.1 h2]; rfl
      · subst h1
        simp only [ofB]
        rw [if_neg (by rw [alnum_45]; simp), (ih.2 h3).1]
    · rcases h with ⟨h1, h2⟩ | ⟨-, h3, -⟩
      · refine ⟨by rw [ofB_take b h1, Bool.true_and, if_pos rfl, ih.1 h2]; rfl, fun g => ?_⟩
        rw [ofB_take b h1, Bool.and_false, if_neg (by simp), ih.1 h2]; rfl
      · cases h3
theorem dash_bytes {l : List UInt8} : ∀ {p}, dashOk p l → ∀ b ∈ l, alnum b = true ∨ b = 45 := by
  induction l with
  | nil => intro p _ b hb; cases hb
  | cons a l ih =>
    rintro p h b hb
    rcases List.mem_cons.1 hb with rfl | hb
    · rcases h with ⟨h1, -⟩ | ⟨h1, -, -⟩
      · exact .inl h1
      · exact .inr h1
    · rcases h with ⟨-, h2⟩ | ⟨-, -, h3⟩
      · exact ih h2 b hb
      · exact ih h3 b hb
theorem dash_last {l : List UInt8} : ∀ {p}, dashOk p l → ∀ b, l.getLast? = some b → alnum b = true := by
  induction l with
  | nil => intro p _ b hb; cases hb
  | cons a l ih =>
    rintro p h b hb
    cases l with
    | nil =>
      cases hb
      rcases h with ⟨h1, -⟩ | ⟨-, -, h3⟩
      · exact h1
      · cases h3
    | cons c l =>
      rw [List.getLast?_cons_cons] at hb
      rcases h with ⟨-, h2⟩ | ⟨-, -, h3⟩
      · exact ih h2 b hb
      · exact ih h3 b hb

/-- texts without blanks and great letters fold to themselves -/
def flatB (b : UInt8) : Bool := decide (b.toNat < 128) && !spaceI (b.toNat : Int) && !greatI (b.toNat : Int)
theorem alnum_flat {b : UInt8} (h : alnum b = true ∨ b = 45) : flatB b = true := by
  have key : ∀ n : Fin 256, (alnum (UInt8.ofNat n.val) = true ∨ UInt8.ofNat n.val = 45) → flatB (UInt8.ofNat n.val) = true := by decide +kernel
  have := key ⟨b.toNat, b.toNat_lt⟩
  simp only [UInt8.ofNat_toNat] at this
  exact this h
theorem fold_flat1 {b : UInt8} (h : flatB b = true) (a g : Bool) (q : List UInt8) : foldT a g (toks (b :: q)) = (if g = true ∧ a = true then [32] else []) ++ b :: foldT true false (toks q) := by
  unfold flatB at h
  simp only [Bool.and_eq_true, decide_eq_true_eq, Bool.not_eq_true'] at h
  obtain ⟨⟨h1, h2⟩, h3⟩ := h
  rw [toks_asc b q h1]
  simp only [foldT, foldTok, h2, h3]
  simp
theorem foldF_flat {l : List UInt8} (h : ∀ b ∈ l, flatB b = true) : ∀ a, foldT a false (toks l) = l := by
  induction l with
  | nil => intro a; rfl
  | cons b l ih =>
    intro a
    rw [fold_flat1 (h b (by simp)), if_neg (by simp), ih (fun c hc => h c (List.mem_cons_of_mem _ hc))]; rfl
theorem slugL_anchor {l : List UInt8} (h : dashOk false l) (h40 : l.length ≤ 40) : slugL l = l := by
  unfold slugL
  have hf : foldF l = l := foldF_flat (fun b hb => alnum_flat (dash_bytes h b hb)) false
  rw [hf]
  unfold slugB
  rw [(ofB_same.2 h).2 false]
  unfold cutB
  rw [if_neg (dashOk_ne h), List.take_of_length_le h40]
  obtain ⟨n, h1, h2, h3⟩ := trimR_pre l 45
  rw [h1]
  have : l.drop n = [] := by
    cases hd : l.drop n with
    | nil => rfl
    | cons c t =>
      exfalso
      rw [hd] at h3
      have h4 : l.getLast? = (l.drop n).getLast? := by
        rw [List.getLast?_drop, if_neg]
        intro h5
        rw [List.drop_eq_nil_of_le h5] at hd; cases hd
      rw [hd] at h4
      have h5 : (c :: t).getLast? = some ((c :: t).getLast (by simp)) := List.getLast?_eq_some_getLast (by simp)
      have h6 := dash_last h _ (h4.trans h5)
      have h7 := h3 _ (List.getLast_mem (by simp : c :: t ≠ []))
      rw [h7, alnum_45] at h6
      cases h6
  rw [List.drop_eq_nil_iff] at this
  exact List.take_of_length_le this
theorem foldF_blanks (s : List UInt8) : foldF (32 :: (s ++ [9])) = foldF s := by
  have e1 : toks (32 :: (s ++ [9])) = (32, [32]) :: (toks s ++ [(9, [9])]) := by
    rw [toks_asc 32 _ (by decide), toks_app s _ (bnd_cons (by decide))]
    rfl
  unfold foldF
  rw [e1]
  have h32 : spaceI ((32 : Nat) : Int) = true := by decide
  simp only [foldT, h32, if_true]
  rw [fold_gap, fold_trail _ (by intro x hx; simp at hx; subst hx; decide)]
theorem slugL_blanks (s : List UInt8) : slugL (32 :: (s ++ [9])) = slugL s := by unfold slugL; rw [foldF_blanks]
end Go.Proofs.YtbblgnbafecdmaaGreatDoor
