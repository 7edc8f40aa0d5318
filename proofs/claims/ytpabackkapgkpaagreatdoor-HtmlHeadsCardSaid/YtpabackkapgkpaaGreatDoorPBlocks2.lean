/- Blocks: how long what is written may be. No walk in this text. -/
import Derived.Test.YtpabackkapgkpaaGreatDoorPBlocks
namespace Go.Proofs.YtpabackkapgkpaaGreatDoor
open Go.RowKit Go.Lib

def Anchored (c : Cfg) : Prop := ∀ s ∈ c.secs, s.anchor.size ≤ 1100000
def TextsSmall (texts : List (List Inl)) : Prop := ∀ l ∈ texts, l.length ≤ 100 ∧ ∀ x ∈ l, x.Small
theorem textOf_small {texts : List (List Inl)} (h : TextsSmall texts) (k : Nat) : (textOf texts k).length ≤ 100 ∧ ∀ x ∈ textOf texts k, x.Small := by
  unfold textOf
  by_cases hk : k < texts.length
  · rw [List.getD_eq_getElem?_getD, List.getElem?_eq_getElem hk]
    exact h _ (List.getElem_mem hk)
  · rw [List.getD_eq_getElem?_getD, List.getElem?_eq_none (by omega)]
    exact ⟨by simp, fun x hx => by simp at hx⟩
theorem signL_length {n : Int} (h0 : -9223372036854775808 ≤ n) (h1 : n ≤ 9223372036854775807) : (signL n).length ≤ 22 := by
  have := itoa_len n h0 h1
  unfold signL; simp; omega
/-- what is written of a block's own -/
theorem bodyS_fits {c : Cfg} {texts : List (List Inl)} {x : Blk} {heads k R : Nat} {s : HSt} (hc : c.Small) (ha : Anchored c) (ht : TextsSmall texts) (hx : x.Small) (hF : Fits (100 + R) s) :
    (bodyS c texts x heads k s).out.length ≤ s.out.length + 2100000000 ∧ (bodyS c texts x heads k s).stk = s.stk ∧ Fits R (bodyS c texts x heads k s) := by
  obtain ⟨h1, h2⟩ := textOf_small ht k
  have hN : ∀ s : HSt, Fits (100 + R) s → (nodesS c (textOf texts k) s).out.length ≤ s.out.length + 2000000000 ∧ (nodesS c (textOf texts k) s).stk = s.stk ∧ Fits R (nodesS c (textOf texts k) s) := fun s hs => by
    obtain ⟨a, b⟩ := nodes_fits c hc _ R (textOf texts k) s (Nat.le_refl _) h2 (hs.less (by omega))
    exact ⟨by omega, nodesS_stk c _ _ _ (Nat.le_refl _), a⟩
  have hP : ∀ (t : List UInt8), t.length ≤ 2100000000 → (s.put t).out.length ≤ s.out.length + 2100000000 ∧ (s.put t).stk = s.stk ∧ Fits R (s.put t) := fun t h => ⟨by simp [HSt.put]; omega, rfl, (hF.put t).less (by omega)⟩
  unfold bodyS
  split
  · unfold paraS
    split
    · obtain ⟨a, b, f⟩ := hN s hF
      exact ⟨by simp [HSt.put]; omega, b, f.put _⟩
    · obtain ⟨a, b, f⟩ := hN (s.put [60, 112, 62]) (hF.put _)
      refine ⟨?_, b, f.put _⟩
      simp only [HSt.put, List.length_append, List.length_cons, List.length_nil] at a ⊢
      omega
  · split
    · unfold headS
      have l1 := headId_length heads ha
      have l2 := headNo_length heads hc
      have l3 := signL_length hx.n.1 hx.n.2
      have l4 := attrL_length [105, 100] (headId c heads)
      simp only [List.length_cons, List.length_nil] at l4
      split
      · obtain ⟨a, b, f⟩ := hN _ (hF.put ([60] ++ signL x.n ++ attrL [105, 100] (headId c heads) ++ [62]))
        refine ⟨?_, b, f.put _⟩
        simp only [HSt.put, List.length_append, List.length_cons, List.length_nil] at a ⊢
        omega
      · obtain ⟨a, b, f⟩ := hN _ ((hF.put ([60] ++ signL x.n ++ attrL [105, 100] (headId c heads) ++ [62])).put (headNo c heads))
        refine ⟨?_, b, f.put _⟩
        simp only [HSt.put, List.length_append, List.length_cons, List.length_nil] at a ⊢
        omega
    · split
      · exact hP _ (Nat.le_trans (codeL_length hx) (by decide))
      · split
        · exact hP _ (by decide)
        · split
          · exact hP _ (Nat.le_trans (rawL_length hx) (by decide))
          · exact ⟨by omega, rfl, hF.less (by omega)⟩
/-- what a block writes leaves the row of blocks -/
theorem bodyS_stk (c : Cfg) (texts : List (List Inl)) (x : Blk) (heads k : Nat) (s : HSt) : (bodyS c texts x heads k s).stk.length = s.stk.length := by
  have hN : ∀ s : HSt, (nodesS c (textOf texts k) s).stk = s.stk := fun s => nodesS_stk c _ _ _ (Nat.le_refl _)
  unfold bodyS paraS headS
  repeat' split
  all_goals first | rfl | (show (nodesS c (textOf texts k) _).stk.length = _; rw [hN]; done) | (show (nodesS c (textOf texts k) _).stk.length = _; rw [hN]; rfl)
theorem blockS_fits {c : Cfg} {texts : List (List Inl)} {x : Blk} {heads k R i : Nat} {s : HSt} (hc : c.Small) (ha : Anchored c) (ht : TextsSmall texts) (hx : x.Small) (hf : BFits i s) (hF : Fits (100 + R) s) :
    BFits (i + 1) (blockS c texts x heads k s) ∧ Fits R (blockS c texts x heads k s) := by
  have f1 := leaveS_fits x.depth hf
  obtain ⟨l1, l2⟩ := holderL_length hx
  obtain ⟨o2, k2, F2⟩ := bodyS_fits (heads := heads) (k := k) hc ha ht hx ((leaveF_less x.depth (100 + R) s.stk s hF).put (holderL x).1)
  have o1 := f1.out
  have d1 := f1.deep
  have e1 : ((leaveF x.depth s.stk s).put (holderL x).1).out.length = (leaveS x.depth s).out.length + (holderL x).1.length := by simp [HSt.put, leaveS]
  rw [e1] at o2
  have k3 : (bodyS c texts x heads k ((leaveF x.depth s.stk s).put (holderL x).1)).stk = (leaveS x.depth s).stk := k2
  refine ⟨⟨fun p hp => ?_, fun p hp => ?_, ?_, ?_⟩, ⟨F2.names, F2.small, F2.len, F2.nums, F2.dgs⟩⟩
  · have hp : p ∈ (x, ⟨(holderL x).2.toArray⟩) :: (bodyS c texts x heads k ((leaveF x.depth s.stk s).put (holderL x).1)).stk := hp
    rw [k3] at hp
    rcases List.mem_cons.1 hp with rfl | hp
    · rw [ba_size, ba_mk]; exact l2
    · exact f1.ends p hp
  · have hp : p ∈ (x, ⟨(holderL x).2.toArray⟩) :: (bodyS c texts x heads k ((leaveF x.depth s.stk s).put (holderL x).1)).stk := hp
    rw [k3] at hp
    rcases List.mem_cons.1 hp with rfl | hp
    · exact hx
    · exact f1.smalls p hp
  · show (bodyS c texts x heads k ((leaveF x.depth s.stk s).put (holderL x).1)).out.length + 100 * ((x, (⟨(holderL x).2.toArray⟩ : ByteArray)) :: (bodyS c texts x heads k ((leaveF x.depth s.stk s).put (holderL x).1)).stk).length ≤ _
    rw [k3, List.length_cons]
    omega
  · show ((x, (⟨(holderL x).2.toArray⟩ : ByteArray)) :: (bodyS c texts x heads k ((leaveF x.depth s.stk s).put (holderL x).1)).stk).length ≤ _
    rw [k3, List.length_cons]
    omega
end Go.Proofs.YtpabackkapgkpaaGreatDoor
