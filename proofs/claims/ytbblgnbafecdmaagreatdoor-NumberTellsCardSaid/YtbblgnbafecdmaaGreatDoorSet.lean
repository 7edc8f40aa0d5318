/- A map of strings to bools that a call made, as a list of what was told; the anchors' candidates. No walk in this text. -/
import Derived.Test.YtbblgnbafecdmaaGreatDoorFrame
import Derived.Test.YtbblgnbafecdmaaGreatDoorSlug
import Derived.Maps.OwnSet
import Derived.Maps.OwnOps
import Derived.Maps.Ext
import Derived.Carry
namespace Go.Proofs.YtbblgnbafecdmaaGreatDoor
open Go.RowKit Go.Lib Go.Maps

theorem skey : Keyed Tryz.prog 9 := string_keyed Tryz.underlying9
theorem keyOf_str (s : ByteArray) (h : s.size ≤ 9223372036854775807) : keyOf Tryz.prog 9 (.string s) = some (.string s.data.toList) := Go.WideMaps.keyOf_string_mk Tryz.underlying9 (by unfold maxLen; omega)
theorem zeroBool (w : World) : (zeroValue 4).run Tryz.prog w = .ok (.bool false) w := by kernel_rfl
theorem keyLit_l (s : List UInt8) : WideAt.IsKeyLit (Lit.string s) := by trivial
theorem lit_ne {s t : List UInt8} (h : t ≠ s) : Lit.string t ≠ Lit.string s := fun e => h (by injection e)

open Classical in
/-- the map holds true just at the texts of a list -/
def SetIs (D : DataW Unit) (had : List (List UInt8)) : Prop := ∀ s : List UInt8, D.atKey (.string s) (.lit (.bool false)) = .lit (.bool (decide (s ∈ had)))
theorem setIs_start : SetIs (.map []) [] := fun s => by simp [DataW.atKey]
open Classical in
theorem SetIs.put {D : DataW Unit} {had : List (List UInt8)} (h : SetIs D had) (hm : IsMap D) (s : List UInt8) : SetIs (D.put (.string s) (.lit (.bool true))) (had ++ [s]) := by
  intro t
  by_cases hts : t = s
  · subst hts
    rw [atKey_put_same hm (keyLit_l t)]
    simp
  · rw [atKey_put_other (lit_ne hts), h t]
    simp [hts]
/-- a map at block b holds the texts of a list -/
structure SetAt (b n : Nat) (had : List (List UInt8)) (w : World) : Prop where
  at' : ∃ D : DataW Unit, w.ownsMap Tryz.prog 9 (plainElem Tryz.prog 4) b n D ∧ SetIs D had
theorem SetAt.lt {b n : Nat} {had : List (List UInt8)} {w : World} (h : SetAt b n had w) : b < w.heap.size := by
  obtain ⟨D, h1, -⟩ := h.at'
  exact World.ownsMap.lt h1
theorem SetAt.kept {b n : Nat} {had : List (List UInt8)} {w w' : World} (h : SetAt b n had w) (hb : w'.heap[b]? = w.heap[b]?) : SetAt b n had w' := by
  obtain ⟨D, ⟨es, clock, h1, h2⟩, h3⟩ := h.at'
  exact ⟨D, ⟨es, clock, hb.trans h1, h2⟩, h3⟩
theorem SetAt.below {b n : Nat} {had : List (List UInt8)} {w w' : World} (h : SetAt b n had w) (hb : Below w.heap.size w w') : SetAt b n had w' := h.kept (hb.block b h.lt)
theorem SetAt.fresh (w : World) : SetAt w.heap.size 0 [] (w.alloc (.map #[] 0)) := ⟨.map [], World.ownsMap_made _ _ _ _, setIs_start⟩
open Classical in
theorem SetAt.look {b n : Nat} {had : List (List UInt8)} {w : World} (h : SetAt b n had w) (s : ByteArray) (hs : s.size ≤ 9223372036854775807) :
    (Instr.lookup 56 (.map (some b)) (.string s) false).run Tryz.prog w = .ok (.bool (decide (s.data.toList ∈ had))) w := by
  obtain ⟨D, h1, h2⟩ := h.at'
  obtain ⟨v, ps, hrun, hv⟩ := h1.lookup skey Tryz.underlying56 (zeroBool w) (plainElem_bool Tryz.underlying4 false) (keyOf_str s hs)
  rw [h2] at hv
  have : v = .bool (decide (s.data.toList ∈ had)) := by
    revert hv
    unfold plainElem
    cases v <;> simp
    intro h _; exact h
  rw [hrun, this]

/-- the candidates for an anchor, from 1 on -/
def cand (f : List UInt8) (k : Nat) : List UInt8 := if k ≤ 1 then f else f ++ 45 :: Lib.itoa (k : Int)
/-- the next anchor -/
def NextIs (had : List (List UInt8)) (f id : List UInt8) : Prop := ∃ k, 1 ≤ k ∧ id = cand f k ∧ cand f k ∉ had ∧ ∀ j, 1 ≤ j → j < k → cand f j ∈ had
theorem NextIs.uniq {had : List (List UInt8)} {f x y : List UInt8} (h : NextIs had f x) (h' : NextIs had f y) : x = y := by
  obtain ⟨k, h1, rfl, h2, h3⟩ := h
  obtain ⟨m, g1, rfl, g2, g3⟩ := h'
  rcases Nat.lt_trichotomy k m with h | h | h
  · exact absurd (g3 k h1 h) h2
  · rw [h]
  · exact absurd (h3 m g1 h) g2
theorem nodup_sub : ∀ {l m : List (List UInt8)}, l.Nodup → (∀ x ∈ l, x ∈ m) → l.length ≤ m.length := by
  intro l
  induction l with
  | nil => intro m _ _; exact Nat.zero_le _
  | cons a l ih =>
    intro m hn hs
    have ha := hs a (by simp)
    obtain ⟨p, q, rfl⟩ := List.append_of_mem ha
    rw [List.nodup_cons] at hn
    have := ih (m := p ++ q) hn.2 (fun x hx => by
      have h1 := hs x (List.mem_cons_of_mem _ hx)
      rw [List.mem_append, List.mem_cons] at h1
      rw [List.mem_append]
      rcases h1 with h1 | rfl | h1
      · exact .inl h1
      · exact absurd hx hn.1
      · exact .inr h1)
    simp only [List.length_append, List.length_cons] at this ⊢
    omega
end Go.Proofs.YtbblgnbafecdmaaGreatDoor
