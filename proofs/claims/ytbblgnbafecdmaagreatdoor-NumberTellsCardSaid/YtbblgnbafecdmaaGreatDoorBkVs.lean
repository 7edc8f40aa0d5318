/- Lists that are kept, without their copies: what is known of them while marks are put into them, and while they are grown. No walk in this text. -/
import Derived.Test.YtbblgnbafecdmaaGreatDoorBkSt
namespace Go.Proofs.YtbblgnbafecdmaaGreatDoor.bk
open Go.RowKit Go.Lib

/-- kept lists: their rows, each in a block of its own -/
structure Vs (T E : TypeId) (sz base : Nat) (F : Nat → Prop) (vT : Value) (vs : List Value) (Xs : List (Nat × List Value)) (w : World) : Prop where
  len : vs.length = Xs.length
  rowT : w.ownsRow base T 1 vT vs.length vs
  rows : ∀ (i : Nat) (v : Value) (X : Nat × List Value), vs[i]? = some v → Xs[i]? = some X → w.ownsRow base E sz v X.1 X.2
  apart : ∀ (i j : Nat) (v u : Value) (g : Nat), vs[i]? = some v → vs[j]? = some u → i ≠ j → v.ownBlock = some g → u.ownBlock ≠ some g
  inT : ∀ g, vT.ownBlock = some g → F g
  inV : ∀ v ∈ vs, ∀ g, v.ownBlock = some g → F g
theorem Kept.toVs {T E : TypeId} {sz base : Nat} {F : Nat → Prop} {vT vW : Value} {vs : List Value} {Xs : List (Nat × List Value)} {w : World} (h : Kept T E sz base F vT vW vs Xs w) : Vs T E sz base F vT vs Xs w :=
  ⟨h.len, h.rowT, h.rows, h.apart, h.inT, h.inV⟩
theorem Vs.frame {T E : TypeId} {sz base : Nat} {F G : Nat → Prop} {vT : Value} {vs : List Value} {Xs : List (Nat × List Value)} {w w' : World} (h : Vs T E sz base F vT vs Xs w) (hf : Frame G w w') (hd : ∀ g, F g → ¬ G g) : Vs T E sz base F vT vs Xs w' :=
  ⟨h.len, hf.row h.rowT (fun g hg => hd g (h.inT g hg)), fun i v X hv hX => hf.row (h.rows i v X hv hX) (fun g hg => hd g (h.inV v (List.mem_of_getElem? hv) g hg)), h.apart, h.inT, h.inV⟩
theorem Vs.below {T E : TypeId} {sz base : Nat} {F : Nat → Prop} {vT : Value} {vs : List Value} {Xs : List (Nat × List Value)} {w w' : World} (h : Vs T E sz base F vT vs Xs w) (hb : Below w.heap.size w w') : Vs T E sz base F vT vs Xs w' :=
  h.frame (Frame.of_below (F := fun _ => False) hb) (fun _ _ h => h)
theorem Vs.change {T E : TypeId} {sz base : Nat} {F : Nat → Prop} {vT : Value} {vs : List Value} {Xs : List (Nat × List Value)} {w w' : World} (h : Vs T E sz base F vT vs Xs w) (hTE : E ≠ T) {i : Nat} {v : Value} {X Y : Nat × List Value} (hv : vs[i]? = some v) (hX : Xs[i]? = some X) (hf : Frame (fun g => v.ownBlock = some g) w w') (hr : w'.ownsRow base E sz v Y.1 Y.2) : Vs T E sz base F vT vs (Xs.set i Y) w' := by
  refine ⟨by rw [List.length_set]; exact h.len, hf.row h.rowT (fun g hg hG => rows_apart (h.rows i v X hv hX) h.rowT hTE g hG hg), fun j u Z hu hZ => ?_, h.apart, h.inT, h.inV⟩
  by_cases hij : i = j
  · subst hij
    obtain rfl : v = u := Option.some.inj (hv.symm.trans hu)
    have hi : i < Xs.length := (List.getElem?_eq_some_iff.1 hX).1
    rw [List.getElem?_set_self hi] at hZ
    cases hZ
    exact hr
  · rw [List.getElem?_set_ne hij] at hZ
    exact hf.row (h.rows j u Z hu hZ) (fun g hg hG => h.apart i j v u g hv hu hij hG hg)

/-- a book whose texts are kept lists; F: its blocks -/
structure BookVs (base : Nat) (F : Nat → Prop) (b : Nat) (vT vW vS vX : Value) (vs : List Value) (Xs : List (Nat × List Value)) (w : World) : Prop where
  at_ : BookAt b vT vW vS vX w
  vs_ : Vs 23 9 1 base F vT vs Xs w
  inb : F b
  lt : ∀ g, F g → base ≤ g ∧ g < w.heap.size
theorem BookVs.frame {base : Nat} {F G : Nat → Prop} {b : Nat} {vT vW vS vX : Value} {vs : List Value} {Xs : List (Nat × List Value)} {w w' : World} (h : BookVs base F b vT vW vS vX vs Xs w) (hf : Frame G w w') (hd : ∀ g, F g → ¬ G g) : BookVs base F b vT vW vS vX vs Xs w' :=
  ⟨h.at_.kept (hf.block b h.at_.lt (hd b h.inb)), h.vs_.frame hf hd, h.inb, fun g hg => ⟨(h.lt g hg).1, Nat.lt_of_lt_of_le (h.lt g hg).2 hf.size⟩⟩
theorem BookVs.below {base : Nat} {F : Nat → Prop} {b : Nat} {vT vW vS vX : Value} {vs : List Value} {Xs : List (Nat × List Value)} {w w' : World} (h : BookVs base F b vT vW vS vX vs Xs w) (hb : Below w.heap.size w w') : BookVs base F b vT vW vS vX vs Xs w' :=
  h.frame (Frame.of_below (F := fun _ => False) hb) (fun _ _ h => h)
theorem BookVs.change {base : Nat} {F : Nat → Prop} {b : Nat} {vT vW vS vX : Value} {vs : List Value} {Xs : List (Nat × List Value)} {w w' : World} (h : BookVs base F b vT vW vS vX vs Xs w) {i : Nat} {v : Value} {X Y : Nat × List Value} (hv : vs[i]? = some v) (hX : Xs[i]? = some X) (hf : Frame (fun g => v.ownBlock = some g) w w') (hr : w'.ownsRow base 9 1 v Y.1 Y.2) : BookVs base F b vT vW vS vX vs (Xs.set i Y) w' :=
  ⟨h.at_.kept (hf.block b h.at_.lt (fun hG => row_not_struct (h.vs_.rows i v X hv hX) h.at_ (by decide) hG)), h.vs_.change (by decide) hv hX hf hr, h.inb, fun g hg => ⟨(h.lt g hg).1, Nat.lt_of_lt_of_le (h.lt g hg).2 hf.size⟩⟩

/-- lists of which the first k are marked -/
def marked (k : Nat) (Ls : List (List ByteArray)) : List (Nat × List Value) := (List.range Ls.length).map fun i => if i < k then strX (marks i 0 (Ls.getD i []).length) else strX (Ls.getD i [])
theorem marked_len (k : Nat) (Ls : List (List ByteArray)) : (marked k Ls).length = Ls.length := by simp [marked]
theorem marked_at (k : Nat) (Ls : List (List ByteArray)) (i : Nat) (h : i < Ls.length) : (marked k Ls)[i]? = some (if i < k then strX (marks i 0 Ls[i].length) else strX Ls[i]) := by
  unfold marked
  rw [List.getElem?_map, List.getElem?_range h, Option.map_some]
  simp [List.getD_eq_getElem?_getD, List.getElem?_eq_getElem h]
theorem marked_zero (Ls : List (List ByteArray)) : marked 0 Ls = Ls.map strX := by
  apply List.ext_getElem?
  intro i
  by_cases h : i < Ls.length
  · rw [marked_at 0 Ls i h, if_neg (by omega), List.getElem?_map, List.getElem?_eq_getElem h]; rfl
  · rw [List.getElem?_eq_none (by rw [marked_len]; omega), List.getElem?_eq_none (by rw [List.length_map]; omega)]
theorem marked_succ (k : Nat) (Ls : List (List ByteArray)) (h : k < Ls.length) : marked (k + 1) Ls = (marked k Ls).set k (strX (marks k 0 Ls[k].length)) := by
  apply List.ext_getElem?
  intro i
  by_cases hi : i < Ls.length
  · rw [marked_at _ Ls i hi]
    by_cases hik : k = i
    · subst hik
      rw [List.getElem?_set_self (by rw [marked_len]; exact h), if_pos (by omega)]
    · rw [List.getElem?_set_ne hik, marked_at _ Ls i hi]
      by_cases h1 : i < k
      · rw [if_pos h1, if_pos (by omega)]
      · rw [if_neg h1, if_neg (by omega)]
  · rw [List.getElem?_eq_none (by rw [marked_len]; omega), List.getElem?_eq_none (by rw [List.length_set, marked_len]; omega)]
theorem mix_zero (M L : List ByteArray) : M.take 0 ++ L.drop 0 = L := by simp
theorem mix_succ (M L : List ByteArray) (k : Nat) (h : M.length = L.length) (hk : k < M.length) : (M.take k ++ L.drop k).set k M[k] = M.take (k + 1) ++ L.drop (k + 1) := by
  rw [List.set_append_right _ _ (by rw [List.length_take]; omega), List.length_take, Nat.min_eq_left (by omega), Nat.sub_self, List.drop_eq_getElem_cons (by omega : k < L.length), List.set_cons_zero, List.take_succ_eq_append_getElem hk, List.append_assoc]
  rfl
theorem mix_full (M L : List ByteArray) (k : Nat) (h : M.length = L.length) (hk : k = M.length) : M.take k ++ L.drop k = M := by
  subst hk
  rw [List.take_length, List.drop_of_length_le (by omega), List.append_nil]
theorem mix_len (M L : List ByteArray) (k : Nat) (h : M.length = L.length) (hk : k ≤ M.length) : (M.take k ++ L.drop k).length = L.length := by
  rw [List.length_append, List.length_take, List.length_drop]; omega
end Go.Proofs.YtbblgnbafecdmaaGreatDoor.bk
