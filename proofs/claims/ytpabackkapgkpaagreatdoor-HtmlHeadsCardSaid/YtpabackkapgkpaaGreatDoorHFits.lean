/- How long what is written of nodes may be; how many notes there may be. Plain. -/
import Derived.Test.YtpabackkapgkpaaGreatDoorHData
namespace Go.Proofs.YtpabackkapgkpaaGreatDoor
open Go.RowKit Go.Lib

/-- a node's texts are no longer than .. -/
structure Inl.Small (x : Inl) : Prop where
  text : x.text.size ≤ 100000
  url : x.url.size ≤ 100000
  title : x.title.size ≤ 100000
def Cfg.Small (c : Cfg) : Prop := ∀ s ∈ c.secs, s.number.size ≤ 1100000 ∧ s.text.size ≤ 1100000

/-- what is known of notes leaves room for N more -/
structure Fits (N : Nat) (s : HSt) : Prop where
  names : s.L.length + N ≤ 90000
  small : ∀ x ∈ s.L, x.size ≤ 100000
  len : s.C.length = s.L.length
  nums : ∀ c ∈ s.C, 0 ≤ c ∧ c + N ≤ 90000000
  dgs : s.dg.length + N ≤ 90000
theorem Fits.less {N M : Nat} {s : HSt} (h : Fits N s) (hM : M ≤ N) : Fits M s :=
  ⟨by have := h.names; omega, h.small, h.len, fun c hc => by have := h.nums c hc; omega, by have := h.dgs; omega⟩
theorem Fits.put {N : Nat} {s : HSt} (h : Fits N s) (t : List UInt8) : Fits N (s.put t) := ⟨h.names, h.small, h.len, h.nums, h.dgs⟩

theorem refS_cases (nm : ByteArray) (s : HSt) (hlen : s.C.length = s.L.length) :
    (idxName nm s.L 0 = -1 ∧ refS nm s = ((s.L.length : Int) + 1, 1, { s with L := s.L ++ [nm], C := s.C ++ [1] })) ∨
    (∃ i c, i < s.L.length ∧ idxName nm s.L 0 = (i : Nat) ∧ s.C[i]? = some c ∧ refS nm s = ((i : Int) + 1, c + 1, { s with C := s.C.set i (c + 1) })) := by
  by_cases hm : nm ∈ s.L
  · obtain ⟨i, hi, hidx, -, -⟩ := idx_some hm 0
    rw [Nat.zero_add] at hidx
    have hC : s.C[i]? = some s.C[i] := List.getElem?_eq_getElem (by omega)
    refine .inr ⟨i, s.C[i], hi, hidx, hC, ?_⟩
    unfold refS
    rw [hidx, if_neg (by omega), Int.toNat_natCast, List.getD_eq_getElem?_getD, hC]
    rfl
  · have hidx := idx_none hm 0
    refine .inl ⟨hidx, ?_⟩
    unfold refS
    rw [if_pos hidx]
theorem refS_out (nm : ByteArray) (s : HSt) : (refS nm s).2.2.out = s.out := by unfold refS; split <;> rfl
theorem refS_dg (nm : ByteArray) (s : HSt) : (refS nm s).2.2.dg = s.dg := by unfold refS; split <;> rfl
theorem Fits.ref {N : Nat} {s : HSt} {nm : ByteArray} (h : Fits (N + 1) s) (hn : nm.size ≤ 100000) : Fits N (refS nm s).2.2 ∧ 1 ≤ (refS nm s).1 ∧ (refS nm s).1 ≤ 90001 ∧ 1 ≤ (refS nm s).2.1 ∧ (refS nm s).2.1 ≤ 90000001 := by
  have h1 := h.names
  have h5 := h.dgs
  rcases refS_cases nm s h.len with ⟨-, e⟩ | ⟨i, c, hi, -, hc, e⟩
  · rw [e]
    refine ⟨⟨by simp; omega, fun x hx => ?_, by simp [h.len], fun c hc => ?_, by simp only; omega⟩, by simp only; omega, by simp only; omega, by simp only; omega, by simp only; omega⟩
    · rcases List.mem_append.1 hx with h' | h'
      · exact h.small x h'
      · rw [List.mem_singleton.1 h']; exact hn
    · rcases List.mem_append.1 hc with h' | h'
      · have := h.nums c h'; omega
      · rw [List.mem_singleton.1 h']; omega
  · rw [e]
    have hcb := h.nums c (List.mem_of_getElem? hc)
    refine ⟨⟨by simp only; omega, h.small, by simp [h.len], fun d hd => ?_, by simp only; omega⟩, by simp only; omega, by simp only; omega, by simp only; omega, by simp only; omega⟩
    rcases List.mem_or_eq_of_mem_set hd with h' | h'
    · have := h.nums d h'; omega
    · subst h'; omega

theorem nodeS_out (c : Cfg) (x : Inl) (s : HSt) : (nodeS c x s).2.2.out = s.out := by
  unfold nodeS
  split
  · split
    · exact refS_out _ _
    · rfl
  · split
    · split <;> rfl
    · rfl
theorem Fits.node {N : Nat} {s : HSt} {c : Cfg} {x : Inl} (h : Fits (N + 1) s) (hx : x.Small) : Fits N (nodeS c x s).2.2 := by
  unfold nodeS
  split
  · split
    · exact (h.ref hx.text).1
    · exact h.less (Nat.le_succ _)
  · split
    · split
      · exact h.less (Nat.le_succ _)
      · have h1 := h.names
        have h5 := h.dgs
        exact ⟨by simp only; omega, h.small, h.len, fun c hc => by have := h.nums c hc; omega, by simp; omega⟩
    · exact h.less (Nat.le_succ _)

theorem hrefL_length (l : List UInt8) : (hrefL l).length ≤ 18 * l.length + 1 := by
  unfold hrefL
  split
  · have h1 := escL_length (encL l)
    have h2 := encL_length l
    omega
  · simp
theorem attrL_length (n v : List UInt8) : (attrL n v).length ≤ n.length + 6 * v.length + 4 := by
  unfold attrL
  split
  · simp
  · have := escL_length v
    simp; omega
theorem findSec_small {a : ByteArray} {l : List Sec} (h : (findSec a l).2 = true) : (findSec a l).1 ∈ l ∧ (findSec a l).1.anchor = a := by
  induction l with
  | nil => simp [findSec] at h
  | cons s l ih =>
    unfold findSec at h ⊢
    split
    · next e =>
      refine ⟨by simp, ?_⟩
      have := eq_of_beq e
      exact ba_eq (by rw [← Lib.toList_data, ← Lib.toList_data]; exact this)
    · next e =>
      rw [if_neg e] at h
      exact ⟨List.mem_cons_of_mem _ (ih h).1, (ih h).2⟩
theorem callSec_size {s : Sec} {n : Bool} (h : s.number.size ≤ 1100000 ∧ s.text.size ≤ 1100000) : (callSec s n).size ≤ 1100000 := by
  unfold callSec
  split
  · exact h.1
  · split
    · exact h.2
    · decide
theorem itoa_len (n : Int) (h0 : -9223372036854775808 ≤ n) (h1 : n ≤ 9223372036854775807) : (Lib.itoa n).length ≤ 21 := itoa_length_le n h0 h1

theorem noteL_length (n t : Int) (h0 : 1 ≤ n) (h1 : n ≤ 90001) (g0 : 1 ≤ t) (g1 : t ≤ 90000001) : (noteL n t).length ≤ 1000 := by
  unfold noteL
  have a := itoa_len n (by omega) (by omega)
  have b := itoa_len t (by omega) (by omega)
  have c := attrL_length [105, 100] (backL n t)
  have d : (backL n t).length ≤ 60 := by unfold backL; simp; omega
  have e : (idL n).length ≤ 30 := by unfold idL; simp; omega
  simp at c
  simp
  omega
theorem crossL_length {c : Cfg} {a : ByteArray} (hc : c.Small) (ha : a.size ≤ 100000) : (crossL c a).length ≤ 10000000 := by
  unfold crossL
  split
  · next h =>
    obtain ⟨hm, he⟩ := findSec_small h
    have h1 := callSec_size (n := c.number) (hc _ hm)
    rw [he]
    have h2 := escL_length (callSec (findSec a c.secs).1 c.number).data.toList
    rw [← ba_size] at h2
    rw [ba_size] at ha
    simp only [List.length_append, List.length_cons, List.length_nil]
    omega
  · have h2 := escL_length ([91, 35] ++ a.data.toList ++ [93])
    rw [ba_size] at ha
    simp only [List.length_append, List.length_cons, List.length_nil] at h2
    omega
theorem nodeL_length {c : Cfg} {x : Inl} (hx : x.Small) : (nodeL c x).1.length + (nodeL c x).2.length ≤ 10000000 := by
  have h1 := hx.text
  have h2 := hx.url
  have h3 := hx.title
  rw [ba_size] at h1 h2 h3
  have e1 := escL_length x.text.data.toList
  have e2 := hrefL_length x.url.data.toList
  have e3 := attrL_length [116, 105, 116, 108, 101] x.title.data.toList
  have e4 := attrL_length [99, 108, 97, 115, 115] x.text.data.toList
  simp only [List.length_cons, List.length_nil] at e3 e4
  unfold nodeL
  repeat' split
  all_goals simp only [List.length_append, List.length_cons, List.length_nil]
  all_goals omega
theorem nodeS_length {N : Nat} {c : Cfg} {x : Inl} {s : HSt} (hx : x.Small) (hc : c.Small) (h : Fits (N + 1) s) : (nodeS c x s).1.length + (nodeS c x s).2.1.length ≤ 20000000 := by
  unfold nodeS
  split
  · split
    · obtain ⟨-, a, b, d, e⟩ := h.ref hx.text
      have := noteL_length _ _ a b d e
      simp only [List.length_nil]; omega
    · have h2 := escL_length ([91, 94] ++ x.text.data.toList ++ [93])
      have h1 := hx.text
      rw [ba_size] at h1
      simp only [List.length_append, List.length_cons, List.length_nil] at h2 ⊢
      omega
  · split
    · have := crossL_length hc hx.text
      simp only [List.length_nil]; omega
    · have := nodeL_length (c := c) hx
      show (nodeL c x).1.length + (nodeL c x).2.length ≤ 20000000
      omega

/-- behind all nodes -/
theorem nodes_fits (c : Cfg) (hc : c.Small) : ∀ (n N : Nat) (l : List Inl) (s : HSt), l.length ≤ n → (∀ x ∈ l, x.Small) → Fits (N + l.length) s → Fits N (nodesS c l s) ∧ (nodesS c l s).out.length ≤ s.out.length + 20000000 * l.length
  | n, N, [], s, _, _, h => by rw [nodesS_nil]; exact ⟨h, by simp⟩
  | 0, _, _ :: _, _, h, _, _ => by simp at h
  | n + 1, N, x :: l, s, hn, hs, h => by
    simp only [List.length_cons] at hn h
    have hi := inside_le x.depth l
    have hx := hs x (by simp)
    have hl : ∀ y ∈ l, y.Small := fun y hy => hs y (by simp [hy])
    rw [nodesS_cons]
    have hN : Fits (N + l.length) (nodeS c x s).2.2 := Fits.node (by rwa [Nat.add_assoc]) hx
    have hb := nodeS_length (N := N + l.length) (s := s) hx hc (by rwa [Nat.add_assoc])
    have hlt : (l.take (inside x.depth l)).length = inside x.depth l := by rw [List.length_take]; omega
    have hld : (l.drop (inside x.depth l)).length = l.length - inside x.depth l := List.length_drop
    obtain ⟨f1, o1⟩ := nodes_fits c hc n (N + (l.drop (inside x.depth l)).length) (l.take (inside x.depth l)) ((nodeS c x s).2.2.put (nodeS c x s).1) (by omega) (fun y hy => hl y (List.mem_of_mem_take hy)) ((hN.put _).less (by omega))
    obtain ⟨f2, o2⟩ := nodes_fits c hc n N (l.drop (inside x.depth l)) ((nodesS c (l.take (inside x.depth l)) ((nodeS c x s).2.2.put (nodeS c x s).1)).put (nodeS c x s).2.1) (by omega) (fun y hy => hl y (List.mem_of_mem_drop hy)) (f1.put _)
    refine ⟨f2, Nat.le_trans o2 ?_⟩
    have e1 : ((nodesS c (l.take (inside x.depth l)) ((nodeS c x s).2.2.put (nodeS c x s).1)).put (nodeS c x s).2.1).out.length = (nodesS c (l.take (inside x.depth l)) ((nodeS c x s).2.2.put (nodeS c x s).1)).out.length + (nodeS c x s).2.1.length := by simp [HSt.put]
    have e2 : ((nodeS c x s).2.2.put (nodeS c x s).1).out.length = s.out.length + (nodeS c x s).1.length := by simp [HSt.put, nodeS_out]
    rw [hlt, e2] at o1
    rw [e1, hld, List.length_cons]
    omega
end Go.Proofs.YtpabackkapgkpaaGreatDoor
