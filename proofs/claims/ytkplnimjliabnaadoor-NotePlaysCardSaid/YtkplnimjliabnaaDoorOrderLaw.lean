/- What the two maps of NoteOrder hold. No walk in this text. -/
import Derived.Test.YtkplnimjliabnaaDoorTimes
import Derived.Maps.OwnSet
import Derived.Maps.OwnOps
import Derived.Maps.Ext
import Derived.Lib.QuietBelow
namespace Go.Proofs.YtkplnimjliabnaaDoor
open Go.RowKit Go.Lib Go.Maps

theorem skey : Keyed Tryd.prog 9 := string_keyed Tryd.underlying9
theorem keyOf_str (s : ByteArray) (h : s.size ≤ 9223372036854775807) : keyOf Tryd.prog 9 (.string s) = some (.string s.data.toList) := Go.WideMaps.keyOf_string_mk Tryd.underlying9 (by unfold maxLen; omega)
theorem zeroInt (w : World) : (zeroValue 3).run Tryd.prog w = .ok (.int .i64 0) w := by kernel_rfl

/-- a map of names to numbers at block b -/
def MapAt (b n : Nat) (D : DataW Unit) (w : World) : Prop := w.ownsMap Tryd.prog 9 (plainElem Tryd.prog 3) b n D
theorem MapAt.kept {b n : Nat} {D : DataW Unit} {w w' : World} (h : MapAt b n D w) (hb : w'.heap[b]? = w.heap[b]?) : MapAt b n D w' := by
  obtain ⟨es, clock, h1, h2⟩ := h
  exact ⟨es, clock, hb.trans h1, h2⟩
theorem MapAt.lt {b n : Nat} {D : DataW Unit} {w : World} (h : MapAt b n D w) : b < w.heap.size := World.ownsMap.lt h
theorem MapAt.frame {b n : Nat} {D : DataW Unit} {w w' : World} {F : Nat → Prop} (h : MapAt b n D w) (hf : Frame F w w') (hd : ¬ F b) : MapAt b n D w' := h.kept (hf.block b h.lt hd)
theorem MapAt.grown {b n : Nat} {D : DataW Unit} {w w' : World} {r : Option Nat} (h : MapAt b n D w) (hf : w.grownBy w' r) (hd : some b ≠ r) : MapAt b n D w' := h.kept (hf.block b h.lt hd)

theorem map_look {b n : Nat} {D : DataW Unit} {w : World} (h : MapAt b n D w) (s : ByteArray) (hs : s.size ≤ 9223372036854775807) {c : Int} (hc : D.atKey (.string s.data.toList) (.lit (.int .i64 0)) = .lit (.int .i64 c)) :
    ∀ d os, (Instr.lookup 53 (.map (some b)) (.string s) false).run Tryd.prog (Sort.grow (redrawn w d) os) = .ok (.int .i64 c) (Sort.grow (redrawn w d) os) := by
  intro d os
  have h' : MapAt b n D (Sort.grow (redrawn w d) os) := h.kept ((below_regrown w d os).block b h.lt)
  obtain ⟨c', hrun, hat, -⟩ := World.ownsMap.lookup_int h' skey Tryd.underlying53 Tryd.underlying3 (zeroInt _) (keyOf_str s hs)
  rw [hc] at hat
  simp only [DataW.lit.injEq, Lit.int.injEq, true_and] at hat
  subst hat
  exact hrun

open Classical in
theorem idx_app (t s : ByteArray) (L : List ByteArray) : ∀ k, idxName t (L ++ [s]) k = if t ∈ L then idxName t L k else if s = t then ((k + L.length : Nat) : Int) else -1 := by
  induction L with
  | nil =>
    intro k
    show (if eqB s t = true then (k : Int) else -1) = _
    by_cases h : s = t
    · rw [if_pos (eqB_iff.2 h), if_neg (by simp), if_pos h]; simp
    · rw [if_neg (fun e => h (eqB_iff.1 e)), if_neg (by simp), if_neg h]
  | cons x L ih =>
    intro k
    show (if eqB x t = true then (k : Int) else idxName t (L ++ [s]) (k + 1)) = _
    by_cases hx : x = t
    · rw [if_pos (eqB_iff.2 hx), if_pos (by rw [hx]; exact List.mem_cons_self ..)]
      show _ = (if eqB x t = true then (k : Int) else _)
      rw [if_pos (eqB_iff.2 hx)]
    · have hxe : ¬ eqB x t = true := fun e => hx (eqB_iff.1 e)
      rw [if_neg hxe, ih]
      by_cases hm : t ∈ L
      · rw [if_pos hm, if_pos (List.mem_cons_of_mem _ hm)]
        show _ = (if eqB x t = true then (k : Int) else _)
        rw [if_neg hxe]
      · have hm2 : ¬ t ∈ x :: L := by
          intro h
          rcases List.mem_cons.1 h with e | h
          · exact hx e.symm
          · exact hm h
        rw [if_neg hm, if_neg hm2]
        by_cases hst : s = t
        · rw [if_pos hst, if_pos hst, List.length_cons]; congr 1; omega
        · rw [if_neg hst, if_neg hst]

/-- how often a name was asked for -/
def cntOf (L : List ByteArray) (C : List Int) (s : ByteArray) : Int := if 0 ≤ idxName s L 0 then C.getD (idxName s L 0).toNat 0 else 0
def FirstIs (D : DataW Unit) (L : List ByteArray) : Prop := size D = L.length ∧ ∀ s : ByteArray, has D (.string s.data.toList) = decide (0 ≤ idxName s L 0) ∧ D.atKey (.string s.data.toList) (.lit (.int .i64 0)) = .lit (.int .i64 (idxName s L 0 + 1))
def TimesIs (D : DataW Unit) (L : List ByteArray) (C : List Int) : Prop := ∀ s : ByteArray, D.atKey (.string s.data.toList) (.lit (.int .i64 0)) = .lit (.int .i64 (cntOf L C s))

theorem str_ne {s t : ByteArray} (h : t ≠ s) : Lit.string t.data.toList ≠ Lit.string s.data.toList := fun e => h (ba_eq (by injection e))
theorem keyLit_str (s : ByteArray) : WideAt.IsKeyLit (Lit.string s.data.toList) := by trivial

theorem first_start : FirstIs (.map []) [] := ⟨rfl, fun _ => ⟨rfl, rfl⟩⟩
theorem times_start : TimesIs (.map []) [] [] := fun _ => rfl
theorem idx_mem {s : ByteArray} {L : List ByteArray} {k : Nat} (h : idxName s L 0 = k) : s ∈ L := by
  by_cases hm : s ∈ L
  · exact hm
  · rw [idx_none hm] at h; omega
open Classical in
theorem first_put {D : DataW Unit} {L : List ByteArray} {s : ByteArray} (h : FirstIs D L) (ht : Tidy D) (hs : s ∉ L) : FirstIs (D.put (.string s.data.toList) (.lit (.int .i64 (L.length + 1)))) (L ++ [s]) := by
  obtain ⟨h1, h2⟩ := h
  refine ⟨?_, fun t => ?_⟩
  · rw [size_put ht, (h2 s).1, idx_none hs, if_neg (by decide), h1]; simp
  · rw [idx_app]
    by_cases hts : t = s
    · subst hts
      rw [has_put_same ht.isMap (keyLit_str t), atKey_put_same ht.isMap (keyLit_str t), if_neg hs, if_pos rfl]
      exact ⟨by simp, by simp⟩
    · rw [has_put_other (str_ne hts), atKey_put_other (str_ne hts), (h2 t).1, (h2 t).2]
      by_cases hm : t ∈ L
      · rw [if_pos hm]; exact ⟨rfl, rfl⟩
      · rw [if_neg hm, if_neg (fun e => hts e.symm), idx_none hm]; exact ⟨rfl, rfl⟩
theorem cnt_found {L : List ByteArray} {C : List Int} {s : ByteArray} {k : Nat} {c : Int} (hi : idxName s L 0 = k) (hc : C[k]? = some c) : cntOf L C s = c := by
  unfold cntOf
  rw [hi, if_pos (by omega), Int.toNat_natCast, List.getD_eq_getElem?_getD, hc]; rfl
theorem cnt_none {L : List ByteArray} {C : List Int} {s : ByteArray} (hs : s ∉ L) : cntOf L C s = 0 := by
  unfold cntOf
  rw [idx_none hs]; rfl
theorem idx_inj {s t : ByteArray} {L : List ByteArray} (hs : s ∈ L) (h : idxName t L 0 = idxName s L 0) : t = s := by
  obtain ⟨i, -, e1, g1, -⟩ := idx_some hs 0
  by_cases ht : t ∈ L
  · obtain ⟨j, -, e2, g2, -⟩ := idx_some ht 0
    have : i = j := by omega
    subst this
    rw [g1] at g2; exact (Option.some.inj g2).symm
  · rw [idx_none ht] at h; omega
theorem times_again {D : DataW Unit} {L : List ByteArray} {C : List Int} {s : ByteArray} {k : Nat} {c : Int} (h : TimesIs D L C) (hm : IsMap D) (hi : idxName s L 0 = k) (hc : C[k]? = some c) : TimesIs (D.put (.string s.data.toList) (.lit (.int .i64 (c + 1)))) L (C.set k (c + 1)) := by
  have hk : k < C.length := (List.getElem?_eq_some_iff.1 hc).1
  intro t
  by_cases hts : t = s
  · subst hts
    rw [atKey_put_same hm (keyLit_str t), cnt_found hi (c := c + 1) (by simp [hk])]
  · rw [atKey_put_other (str_ne hts), h t]
    have hne : idxName t L 0 ≠ idxName s L 0 := fun e => hts (idx_inj (idx_mem hi) e)
    unfold cntOf
    split
    · next h0 =>
      have : k ≠ (idxName t L 0).toNat := by omega
      rw [List.getD_eq_getElem?_getD, List.getD_eq_getElem?_getD, List.getElem?_set_ne this]
    · rfl
open Classical in
theorem times_first {D : DataW Unit} {L : List ByteArray} {C : List Int} {s : ByteArray} (h : TimesIs D L C) (hm : IsMap D) (hs : s ∉ L) (hl : C.length = L.length) : TimesIs (D.put (.string s.data.toList) (.lit (.int .i64 1))) (L ++ [s]) (C ++ [1]) := by
  intro t
  by_cases hts : t = s
  · subst hts
    have : idxName t (L ++ [t]) 0 = (L.length : Int) := by rw [idx_app, if_neg hs, if_pos rfl]; simp
    rw [atKey_put_same hm (keyLit_str t), cnt_found this (c := 1) (by rw [← hl]; simp)]
  · rw [atKey_put_other (str_ne hts), h t]
    unfold cntOf
    rw [idx_app]
    by_cases hm : t ∈ L
    · rw [if_pos hm]
      split
      · obtain ⟨i, hi, e, -, -⟩ := idx_some hm 0
        rw [e, Nat.zero_add, Int.toNat_natCast, List.getD_eq_getElem?_getD, List.getD_eq_getElem?_getD, List.getElem?_append_left (by omega)]
      · rfl
    · have hst : ¬ s = t := fun e => hts e.symm
      simp only [if_neg hm, if_neg hst, idx_none hm]
      rfl
theorem idx_nodup {L : List ByteArray} (h : L.Nodup) {i : Nat} (hi : i < L.length) : idxName L[i] L 0 = i := by
  obtain ⟨j, hj, e, g, hf⟩ := idx_some (List.getElem_mem hi) 0
  have : j = i := by
    have hg := (List.getElem?_eq_some_iff.1 g).2
    rcases Nat.lt_trichotomy j i with hlt | he | hlt
    · exact absurd hg (List.pairwise_iff_getElem.1 h j i hj hi hlt)
    · exact he
    · exact absurd (List.getElem?_eq_getElem hi) (hf i hlt)
  rw [e, this]; simp
end Go.Proofs.YtkplnimjliabnaaDoor
