/- A book whose sections are kept: the state, marks. No walk in this text. Printed by gen_secs.py. -/
import Derived.Test.YtbblgnbafecdmaaGreatDoorBkVs
import Derived.Test.YtbblgnbafecdmaaGreatDoorScRow
namespace Go.Proofs.YtbblgnbafecdmaaGreatDoor.bk
open Go.RowKit Go.Lib

/-- a list of texts as cells -/
def secX (L : List Sec) : Nat × List Value := (L.length, L.flatMap Sec.cells)
/-- a book of lists of texts; its blocks are of F -/
structure BookSc (base : Nat) (F : Nat → Prop) (b : Nat) (vS vX : Value) (vs : List Value) (Ls : List (List Sec)) (w : World) : Prop where
  st : ∃ vT vW, BookAt b vS vX vT vW w ∧ Kept 42 52 4 base F vT vW vs (Ls.map secX) w
  inb : F b
  lt : ∀ g, F g → base ≤ g ∧ g < w.heap.size
theorem BookSc.frame {base : Nat} {F G : Nat → Prop} {b : Nat} {vS vX : Value} {vs : List Value} {Ls : List (List Sec)} {w w' : World} (h : BookSc base F b vS vX vs Ls w) (hf : Frame G w w') (hd : ∀ g, F g → ¬ G g) : BookSc base F b vS vX vs Ls w' := by
  obtain ⟨vT, vW, hB, hK⟩ := h.st
  exact ⟨⟨vT, vW, hB.kept (hf.block b hB.lt (hd b h.inb)), hK.frame hf hd⟩, h.inb, fun g hg => ⟨(h.lt g hg).1, Nat.lt_of_lt_of_le (h.lt g hg).2 hf.size⟩⟩
theorem BookSc.below {base : Nat} {F : Nat → Prop} {b : Nat} {vS vX : Value} {vs : List Value} {Ls : List (List Sec)} {w w' : World} (h : BookSc base F b vS vX vs Ls w) (hb : Below w.heap.size w w') : BookSc base F b vS vX vs Ls w' :=
  h.frame (Frame.of_below (F := fun _ => False) hb) (fun _ _ h => h)
/-- a book whose texts are kept lists; F: its blocks -/
structure BookVc (base : Nat) (F : Nat → Prop) (b : Nat) (vT vW vS vX : Value) (vs : List Value) (Xs : List (Nat × List Value)) (w : World) : Prop where
  at_ : BookAt b vS vX vT vW w
  vs_ : Vs 42 52 4 base F vT vs Xs w
  inb : F b
  lt : ∀ g, F g → base ≤ g ∧ g < w.heap.size
theorem BookVc.frame {base : Nat} {F G : Nat → Prop} {b : Nat} {vT vW vS vX : Value} {vs : List Value} {Xs : List (Nat × List Value)} {w w' : World} (h : BookVc base F b vT vW vS vX vs Xs w) (hf : Frame G w w') (hd : ∀ g, F g → ¬ G g) : BookVc base F b vT vW vS vX vs Xs w' :=
  ⟨h.at_.kept (hf.block b h.at_.lt (hd b h.inb)), h.vs_.frame hf hd, h.inb, fun g hg => ⟨(h.lt g hg).1, Nat.lt_of_lt_of_le (h.lt g hg).2 hf.size⟩⟩
theorem BookVc.below {base : Nat} {F : Nat → Prop} {b : Nat} {vT vW vS vX : Value} {vs : List Value} {Xs : List (Nat × List Value)} {w w' : World} (h : BookVc base F b vT vW vS vX vs Xs w) (hb : Below w.heap.size w w') : BookVc base F b vT vW vS vX vs Xs w' :=
  h.frame (Frame.of_below (F := fun _ => False) hb) (fun _ _ h => h)
theorem BookVc.change {base : Nat} {F : Nat → Prop} {b : Nat} {vT vW vS vX : Value} {vs : List Value} {Xs : List (Nat × List Value)} {w w' : World} (h : BookVc base F b vT vW vS vX vs Xs w) {i : Nat} {v : Value} {X Y : Nat × List Value} (hv : vs[i]? = some v) (hX : Xs[i]? = some X) (hf : Frame (fun g => v.ownBlock = some g) w w') (hr : w'.ownsRow base 52 4 v Y.1 Y.2) : BookVc base F b vT vW vS vX vs (Xs.set i Y) w' :=
  ⟨h.at_.kept (hf.block b h.at_.lt (fun hG => row_not_struct (h.vs_.rows i v X hv hX) h.at_ (by decide) hG)), h.vs_.change (by decide) hv hX hf hr, h.inb, fun g hg => ⟨(h.lt g hg).1, Nat.lt_of_lt_of_le (h.lt g hg).2 hf.size⟩⟩

/-- lists of which the first k are smarked -/
def smarked (k : Nat) (Ls : List (List Sec)) : List (Nat × List Value) := (List.range Ls.length).map fun i => if i < k then secX (smarks i 0 (Ls.getD i []).length) else secX (Ls.getD i [])
theorem smarked_len (k : Nat) (Ls : List (List Sec)) : (smarked k Ls).length = Ls.length := by simp [smarked]
theorem smarked_at (k : Nat) (Ls : List (List Sec)) (i : Nat) (h : i < Ls.length) : (smarked k Ls)[i]? = some (if i < k then secX (smarks i 0 Ls[i].length) else secX Ls[i]) := by
  unfold smarked
  rw [List.getElem?_map, List.getElem?_range h, Option.map_some]
  simp [List.getD_eq_getElem?_getD, List.getElem?_eq_getElem h]
theorem smarked_zero (Ls : List (List Sec)) : smarked 0 Ls = Ls.map secX := by
  apply List.ext_getElem?
  intro i
  by_cases h : i < Ls.length
  · rw [smarked_at 0 Ls i h, if_neg (by omega), List.getElem?_map, List.getElem?_eq_getElem h]; rfl
  · rw [List.getElem?_eq_none (by rw [smarked_len]; omega), List.getElem?_eq_none (by rw [List.length_map]; omega)]
theorem smarked_succ (k : Nat) (Ls : List (List Sec)) (h : k < Ls.length) : smarked (k + 1) Ls = (smarked k Ls).set k (secX (smarks k 0 Ls[k].length)) := by
  apply List.ext_getElem?
  intro i
  by_cases hi : i < Ls.length
  · rw [smarked_at _ Ls i hi]
    by_cases hik : k = i
    · subst hik
      rw [List.getElem?_set_self (by rw [smarked_len]; exact h), if_pos (by omega)]
    · rw [List.getElem?_set_ne hik, smarked_at _ Ls i hi]
      by_cases h1 : i < k
      · rw [if_pos h1, if_pos (by omega)]
      · rw [if_neg h1, if_neg (by omega)]
  · rw [List.getElem?_eq_none (by rw [smarked_len]; omega), List.getElem?_eq_none (by rw [List.length_set, smarked_len]; omega)]
theorem smix_zero (M L : List Sec) : M.take 0 ++ L.drop 0 = L := by simp
theorem smix_succ (M L : List Sec) (k : Nat) (h : M.length = L.length) (hk : k < M.length) : (M.take k ++ L.drop k).set k M[k] = M.take (k + 1) ++ L.drop (k + 1) := by
  rw [List.set_append_right _ _ (by rw [List.length_take]; omega), List.length_take, Nat.min_eq_left (by omega), Nat.sub_self, List.drop_eq_getElem_cons (by omega : k < L.length), List.set_cons_zero, List.take_succ_eq_append_getElem hk, List.append_assoc]
  rfl
theorem smix_full (M L : List Sec) (k : Nat) (h : M.length = L.length) (hk : k = M.length) : M.take k ++ L.drop k = M := by
  subst hk
  rw [List.take_length, List.drop_of_length_le (by omega), List.append_nil]
theorem smix_len (M L : List Sec) (k : Nat) (h : M.length = L.length) (hk : k ≤ M.length) : (M.take k ++ L.drop k).length = L.length := by
  rw [List.length_append, List.length_take, List.length_drop]; omega
end Go.Proofs.YtbblgnbafecdmaaGreatDoor.bk
