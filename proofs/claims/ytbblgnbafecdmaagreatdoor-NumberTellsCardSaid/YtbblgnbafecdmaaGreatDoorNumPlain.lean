/- The numbers of headings, of bytes and counts. No walk in this text. -/
import Derived.Test.YtbblgnbafecdmaaGreatDoorItoa
import Derived.Test.YtbblgnbafecdmaaGreatDoorBuild
namespace Go.Proofs.YtbblgnbafecdmaaGreatDoor
open Go.Lib

/-- a number's digits, behind others -/
def digs (a : List UInt8) (n : Nat) : List UInt8 := if a = [] then Lib.itoa (n : Int) else a ++ 46 :: Lib.itoa (n : Int)
/-- counts written with dots between, those that are none left out -/
def numF (a : List UInt8) (c : List Nat) : List UInt8 := c.foldl (fun a n => if 0 < n then digs a n else a) a
/-- the counts behind a heading of level k -/
def bump (c : List Nat) (k : Nat) : List Nat := (c.take (k - 1)) ++ (c.getD (k - 1) 0 + 1) :: List.replicate (6 - k) 0
def okLev (k : Int) : Bool := decide (1 ≤ k) && decide (k ≤ 6)
def nextC (c : List Nat) (k : Int) : List Nat := if okLev k = true then bump c k.toNat else c
def numK (c : List Nat) (k : Int) : List UInt8 := if okLev k = true then numF [] ((nextC c k).take k.toNat) else []
def zeroC : List Nat := [0, 0, 0, 0, 0, 0]
def stC (l : List Int) : List Nat := l.foldl nextC zeroC
def allC : List Nat → List Int → List (List UInt8)
  | _, [] => []
  | c, k :: l => numK c k :: allC (nextC c k) l
def allN (l : List Int) : List (List UInt8) := allC zeroC l

theorem bump_len {c : List Nat} {k : Nat} (h : c.length = 6) (h1 : 1 ≤ k) (h6 : k ≤ 6) : (bump c k).length = 6 := by
  unfold bump
  rw [List.length_append, List.length_take, List.length_cons, List.length_replicate]; omega
theorem okLev_iff {k : Int} : okLev k = true ↔ 1 ≤ k ∧ k ≤ 6 := by unfold okLev; simp
theorem nextC_len {c : List Nat} {k : Int} (h : c.length = 6) : (nextC c k).length = 6 := by
  unfold nextC
  split
  · next hk =>
    have := okLev_iff.1 hk
    exact bump_len h (by omega) (by omega)
  · exact h
theorem nextC_bad {c : List Nat} {k : Int} (h : okLev k = false) : nextC c k = c := by unfold nextC; rw [if_neg (by rw [h]; simp)]
theorem numK_bad {c : List Nat} {k : Int} (h : okLev k = false) : numK c k = [] := by unfold numK; rw [if_neg (by rw [h]; simp)]
theorem stC_snoc (l : List Int) (k : Int) : stC (l ++ [k]) = nextC (stC l) k := by unfold stC; rw [List.foldl_append]; rfl
theorem stC_len (l : List Int) : (stC l).length = 6 := by
  have key : ∀ (l : List Int) (c : List Nat), c.length = 6 → (l.foldl nextC c).length = 6 := by
    intro l
    induction l with
    | nil => intro c h; exact h
    | cons k l ih => intro c h; exact ih _ (nextC_len h)
  exact key l _ rfl
theorem allC_len (l : List Int) : ∀ c, (allC c l).length = l.length := by
  induction l with
  | nil => intro c; rfl
  | cons k l ih => intro c; simp [allC, ih]
theorem allN_len (l : List Int) : (allN l).length = l.length := allC_len l _
theorem allC_app (l m : List Int) : ∀ c, allC c (l ++ m) = allC c l ++ allC (l.foldl nextC c) m := by
  induction l with
  | nil => intro c; rfl
  | cons k l ih => intro c; simp only [List.cons_append, allC, List.foldl_cons, ih]
theorem allN_app (l m : List Int) : allN (l ++ m) = allN l ++ allC (stC l) m := allC_app l m _
theorem allN_snoc (l : List Int) (k : Int) : allN (l ++ [k]) = allN l ++ [numK (stC l) k] := by rw [allN_app]; rfl
/-- the counts are not more than there were headings -/
theorem bump_le {c : List Nat} {k B : Nat} (h : ∀ x ∈ c, x ≤ B) : ∀ x ∈ bump c k, x ≤ B + 1 := by
  intro x hx
  unfold bump at hx
  rcases List.mem_append.1 hx with hx | hx
  · have := h x (List.mem_of_mem_take hx); omega
  · rcases List.mem_cons.1 hx with rfl | hx
    · rw [List.getD_eq_getElem?_getD]
      cases hg : c[k - 1]? with
      | none => simp
      | some y => have := h y (List.mem_of_getElem? hg); simp; exact this
    · rw [(List.mem_replicate.1 hx).2]; omega
theorem stC_le (l : List Int) : ∀ x ∈ stC l, x ≤ l.length := by
  have key : ∀ (l : List Int) (c : List Nat) (B : Nat), (∀ x ∈ c, x ≤ B) → ∀ x ∈ l.foldl nextC c, x ≤ B + l.length := by
    intro l
    induction l with
    | nil => intro c B h x hx; exact h x hx
    | cons k l ih =>
      intro c B h x hx
      have := ih (nextC c k) (B + 1) (fun y hy => by
        unfold nextC at hy
        split at hy
        · exact bump_le h y hy
        · have := h y hy; omega) x hx
      rw [List.length_cons]; omega
  intro x hx
  have := key l zeroC 0 (by intro y hy; unfold zeroC at hy; simp at hy; omega) x hx
  omega
theorem itoa_len21 (n : Nat) (h : n ≤ 100000) : (Lib.itoa (n : Int)).length ≤ 21 := Lib.itoa_length_le _ (by omega) (by omega)
theorem digs_len {a : List UInt8} {n : Nat} (h : n ≤ 100000) : (digs a n).length ≤ a.length + 22 := by
  have := itoa_len21 n h
  unfold digs
  split
  · omega
  · simp; omega
theorem numF_len (c : List Nat) : ∀ a : List UInt8, (∀ x ∈ c, x ≤ 100000) → (numF a c).length ≤ a.length + 22 * c.length := by
  induction c with
  | nil => intro a _; simp [numF]
  | cons n c ih =>
    intro a h
    unfold numF
    rw [List.foldl_cons]
    have h1 := ih (if 0 < n then digs a n else a) (fun x hx => h x (List.mem_cons_of_mem _ hx))
    have h2 := digs_len (a := a) (h n (List.mem_cons_self ..))
    unfold numF at h1
    rw [List.length_cons]
    split at h1
    · rw [if_pos ‹_›]; omega
    · rw [if_neg ‹_›]; omega
theorem numF_snoc (c : List Nat) (n : Nat) (a : List UInt8) : numF a (c ++ [n]) = if 0 < n then digs (numF a c) n else numF a c := by
  unfold numF; rw [List.foldl_append]; rfl
theorem bump_take {c : List Nat} {k : Nat} (h : c.length = 6) (h1 : 1 ≤ k) (h6 : k ≤ 6) : (bump c k).take k = c.take (k - 1) ++ [c.getD (k - 1) 0 + 1] := by
  unfold bump
  have hl : (c.take (k - 1)).length = k - 1 := by rw [List.length_take]; omega
  rw [List.take_append, hl, show k - (k - 1) = 1 by omega, List.take_of_length_le (by omega)]; rfl
end Go.Proofs.YtbblgnbafecdmaaGreatDoor
