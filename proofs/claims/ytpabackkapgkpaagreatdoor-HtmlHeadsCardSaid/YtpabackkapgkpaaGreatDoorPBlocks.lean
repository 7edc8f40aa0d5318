/- Blocks as plain data: what is written of them; how long it may be. No walk in this text. -/
import Derived.Test.YtpabackkapgkpaaGreatDoorHFits
namespace Go.Proofs.YtpabackkapgkpaaGreatDoor
open Go.RowKit Go.Lib

/-- what a block that holds others begins and ends with -/
def holderL (x : Blk) : List UInt8 × List UInt8 :=
  if x.kind = 3 then ([60, 98, 108, 111, 99, 107, 113, 117, 111, 116, 101, 62, 10], [60, 47, 98, 108, 111, 99, 107, 113, 117, 111, 116, 101, 62, 10])
  else if x.kind = 4 then
    (if x.n = -1 then ([60, 117, 108, 62, 10], [60, 47, 117, 108, 62, 10])
     else if x.n = 1 then ([60, 111, 108, 62, 10], [60, 47, 111, 108, 62, 10])
     else ([60, 111, 108] ++ attrL [115, 116, 97, 114, 116] (Lib.itoa x.n) ++ [62, 10], [60, 47, 111, 108, 62, 10]))
  else if x.kind = 5 then ([60, 108, 105, 62, 10], [60, 47, 108, 105, 62, 10])
  else if x.kind = 9 then ([60, 100, 105, 118] ++ attrL [99, 108, 97, 115, 115] x.info.data.toList ++ [62, 10], [60, 47, 100, 105, 118, 62, 10])
  else ([], [])
def holds (x : Blk) : Bool := decide (x.kind = 3 ∨ x.kind = 4 ∨ x.kind = 5 ∨ x.kind = 9)

/-- the blocks that are as deep, or deeper, are ended -/
def leaveF (d : Int) : List (Blk × ByteArray) → HSt → HSt
  | [], s => { s with stk := [] }
  | p :: S, s => if d ≤ p.1.depth then leaveF d S (s.put p.2.data.toList) else { s with stk := p :: S }
def leaveS (d : Int) (s : HSt) : HSt := leaveF d s.stk s
def zeroBlk : Blk := ⟨0, 0, 0, false, ⟨#[]⟩, ⟨#[]⟩⟩
/-- the nearest one that is just so deep -/
def nearR (d : Int) : List (Blk × ByteArray) → Blk × Bool
  | [] => (zeroBlk, false)
  | p :: S => if p.1.depth = d then (p.1, true) else nearR d S
def tightS (S : List (Blk × ByteArray)) (d : Int) : Bool :=
  (nearR (d - 1) S).2 && ((nearR (d - 2) S).2 && (decide ((nearR (d - 1) S).1.kind = 5) && (decide ((nearR (d - 2) S).1.kind = 4) && (nearR (d - 2) S).1.tight)))

def paraS (c : Cfg) (bare : Bool) (l : List Inl) (s : HSt) : HSt :=
  if bare then (nodesS c l s).put [10] else (nodesS c l (s.put [60, 112, 62])).put [60, 47, 112, 62, 10]
def signL (n : Int) : List UInt8 := 104 :: Lib.itoa n
def headId (c : Cfg) (k : Nat) : List UInt8 := if h : k < c.secs.length then [115, 45] ++ c.secs[k].anchor.data.toList else []
def headNo (c : Cfg) (k : Nat) : List UInt8 := if h : k < c.secs.length then (if c.number = true ∧ c.secs[k].number.data.toList ≠ [] then [60, 115, 112, 97, 110, 32, 99, 108, 97, 115, 115, 61, 34, 110, 34, 62] ++ c.secs[k].number.data.toList ++ [60, 47, 115, 112, 97, 110, 62, 32] else []) else []
def headS (c : Cfg) (n : Int) (k : Nat) (l : List Inl) (s : HSt) : HSt :=
  (nodesS c l (if headNo c k = [] then s.put ([60] ++ signL n ++ attrL [105, 100] (headId c k) ++ [62]) else (s.put ([60] ++ signL n ++ attrL [105, 100] (headId c k) ++ [62])).put (headNo c k))).put ([60, 47] ++ signL n ++ [62, 10])
def wordL (l : List UInt8) : List UInt8 := l.takeWhile fun b => !(b == 32 || b == 9)
def classL (info : List UInt8) : List UInt8 := if wordL info = [] then [] else [108, 97, 110, 103, 117, 97, 103, 101, 45] ++ wordL info
def codeL (x : Blk) : List UInt8 := [60, 112, 114, 101, 62, 60, 99, 111, 100, 101] ++ attrL [99, 108, 97, 115, 115] (classL x.info.data.toList) ++ [62] ++ escL x.text.data.toList ++ [60, 47, 99, 111, 100, 101, 62, 60, 47, 112, 114, 101, 62, 10]
def trimR (l : List UInt8) : List UInt8 := (l.reverse.dropWhile (· == 10)).reverse
def rawL (c : Cfg) (x : Blk) : List UInt8 := (if c.raw then trimR x.text.data.toList else [60, 112, 114, 101, 62] ++ escL (trimR x.text.data.toList) ++ [60, 47, 112, 114, 101, 62]) ++ [10]

def textOf (texts : List (List Inl)) (k : Nat) : List Inl := texts.getD k []
/-- what is written of a block, but for what it begins with -/
def bodyS (c : Cfg) (texts : List (List Inl)) (x : Blk) (heads k : Nat) (s : HSt) : HSt :=
  if x.kind = 1 then paraS c (tightS s.stk x.depth) (textOf texts k) s
  else if x.kind = 2 then headS c x.n heads (textOf texts k) s
  else if x.kind = 6 then s.put (codeL x)
  else if x.kind = 7 then s.put [60, 104, 114, 32, 47, 62, 10]
  else if x.kind = 8 then s.put (rawL c x)
  else s
def pushS (x : Blk) (s : HSt) : HSt := { s with stk := (x, ⟨(holderL x).2.toArray⟩) :: s.stk }
def blockS (c : Cfg) (texts : List (List Inl)) (x : Blk) (heads k : Nat) (s : HSt) : HSt :=
  pushS x (bodyS c texts x heads k ((leaveS x.depth s).put (holderL x).1))
def headsN (x : Blk) (heads : Nat) : Nat := if x.kind = 2 then heads + 1 else heads
def kN (x : Blk) (k : Nat) : Nat := if x.kind = 1 ∨ x.kind = 2 then k + 1 else k
def blocksF (c : Cfg) (texts : List (List Inl)) : List Blk → Nat → Nat → HSt → HSt
  | [], _, _, s => leaveS (-9223372036854775808) s
  | x :: r, heads, k, s => blocksF c texts r (headsN x heads) (kN x k) (blockS c texts x heads k s)

/-- a block that may be handed in -/
structure Blk.Small (x : Blk) : Prop where
  text : x.text.size ≤ 100000
  info : x.info.size ≤ 100000
  depth : -4611686018427387904 ≤ x.depth ∧ x.depth ≤ 4611686018427387904
  n : -9223372036854775808 ≤ x.n ∧ x.n ≤ 9223372036854775807
  plain : x.kind = 6 → ∀ b ∈ x.info.data.toList, b ≠ 38 ∧ b ≠ 92 ∧ b < 128

theorem holderL_length {x : Blk} (hx : x.Small) : (holderL x).1.length ≤ 700000 ∧ (holderL x).2.length ≤ 100 := by
  have a1 := attrL_length [115, 116, 97, 114, 116] (Lib.itoa x.n)
  have a2 := attrL_length [99, 108, 97, 115, 115] x.info.data.toList
  have a3 := itoa_len x.n hx.n.1 hx.n.2
  have a4 := hx.info
  rw [ba_size] at a4
  simp only [List.length_cons, List.length_nil] at a1 a2
  unfold holderL
  constructor
  all_goals
    repeat' split
    all_goals simp only [List.length_append, List.length_cons, List.length_nil]
    all_goals omega
theorem wordL_length (l : List UInt8) : (wordL l).length ≤ l.length := (List.takeWhile_sublist _).length_le
theorem trimR_length (l : List UInt8) : (trimR l).length ≤ l.length := by
  unfold trimR
  rw [List.length_reverse]
  have := (List.dropWhile_sublist (l := l.reverse) (p := (· == 10))).length_le
  rwa [List.length_reverse] at this
theorem codeL_length {x : Blk} (hx : x.Small) : (codeL x).length ≤ 2000000 := by
  have a1 := attrL_length [99, 108, 97, 115, 115] (classL x.info.data.toList)
  have a2 := escL_length x.text.data.toList
  have a3 := hx.text
  have a4 := hx.info
  have a5 := wordL_length x.info.data.toList
  have a6 : (classL x.info.data.toList).length ≤ 9 + (wordL x.info.data.toList).length := by unfold classL; split <;> simp <;> omega
  rw [ba_size] at a3 a4
  simp only [List.length_cons, List.length_nil] at a1
  unfold codeL
  simp only [List.length_append, List.length_cons, List.length_nil]
  omega
theorem rawL_length {c : Cfg} {x : Blk} (hx : x.Small) : (rawL c x).length ≤ 2000000 := by
  have a2 := escL_length (trimR x.text.data.toList)
  have a3 := hx.text
  have a5 := trimR_length x.text.data.toList
  rw [ba_size] at a3
  unfold rawL
  split <;> simp only [List.length_append, List.length_cons, List.length_nil] <;> omega

theorem nodesS_stk (c : Cfg) : ∀ (n : Nat) (l : List Inl) (s : HSt), l.length ≤ n → (nodesS c l s).stk = s.stk
  | n, [], s, _ => by rw [nodesS_nil]
  | 0, _ :: _, _, h => by simp at h
  | n + 1, x :: l, s, h => by
    simp only [List.length_cons] at h
    have hi := inside_le x.depth l
    rw [nodesS_cons, nodesS_stk c n _ _ (by rw [List.length_drop]; omega)]
    show (nodesS c _ _).stk = _
    rw [nodesS_stk c n _ _ (by rw [List.length_take]; omega)]
    show (nodeS c x s).2.2.stk = _
    have hr : ∀ nm (s : HSt), (refS nm s).2.2.stk = s.stk := fun nm s => by unfold refS; split <;> rfl
    unfold nodeS
    split
    · split
      · exact hr _ _
      · rfl
    · split
      · split <;> rfl
      · rfl

/-- what has been written, and what is still to be ended, is not too long; n: how many blocks were written -/
structure BFits (n : Nat) (s : HSt) : Prop where
  ends : ∀ p ∈ s.stk, p.2.size ≤ 100
  smalls : ∀ p ∈ s.stk, p.1.Small
  out : s.out.length + 100 * s.stk.length ≤ 10000000000 * n
  deep : s.stk.length ≤ n
theorem leaveF_fits (d : Int) : ∀ (S : List (Blk × ByteArray)) (s : HSt) (n : Nat), (∀ p ∈ S, p.2.size ≤ 100) → (∀ p ∈ S, p.1.Small) → s.out.length + 100 * S.length ≤ 10000000000 * n → S.length ≤ n → BFits n (leaveF d S s)
  | [], s, n, _, _, h, _ => ⟨by simp [leaveF], by simp [leaveF], by simpa [leaveF] using h, by simp [leaveF]⟩
  | p :: S, s, n, he, hs, h, hd => by
    unfold leaveF
    simp only [List.length_cons] at h hd
    split
    · have h1 := he p (by simp)
      rw [ba_size] at h1
      exact leaveF_fits d S _ n (fun q hq => he q (by simp [hq])) (fun q hq => hs q (by simp [hq])) (by simp only [HSt.put, List.length_append]; omega) (by omega)
    · exact ⟨he, hs, by simpa using h, by simpa using hd⟩
theorem leaveS_fits (d : Int) {s : HSt} {n : Nat} (h : BFits n s) : BFits n (leaveS d s) := leaveF_fits d s.stk s n h.ends h.smalls h.out h.deep
theorem leaveF_less (d : Int) (N : Nat) : ∀ (S : List (Blk × ByteArray)) (s : HSt), Fits N s → Fits N (leaveF d S s)
  | [], s, h => ⟨h.names, h.small, h.len, h.nums, h.dgs⟩
  | p :: S, s, h => by
    unfold leaveF
    split
    · exact leaveF_less d N S _ (h.put _)
    · exact ⟨h.names, h.small, h.len, h.nums, h.dgs⟩

theorem headId_length {c : Cfg} (k : Nat) (hc : ∀ s ∈ c.secs, s.anchor.size ≤ 1100000) : (headId c k).length ≤ 1100002 := by
  unfold headId
  split
  · next h =>
    have := hc _ (List.getElem_mem h)
    rw [ba_size] at this
    simp only [List.length_append, List.length_cons, List.length_nil]; omega
  · simp
theorem headNo_length {c : Cfg} (k : Nat) (hc : c.Small) : (headNo c k).length ≤ 1100100 := by
  unfold headNo
  split
  · next h =>
    have := (hc _ (List.getElem_mem h)).1
    rw [ba_size] at this
    split
    · simp only [List.length_append, List.length_cons, List.length_nil]; omega
    · simp
  · simp
end Go.Proofs.YtpabackkapgkpaaGreatDoor
