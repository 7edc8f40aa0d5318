/- HtmlHeads: the plain law; what its loop holds; the call of Blocks, whatever sections there are beyond the headings. -/
import Derived.Test.YtpabackkapgkpaaGreatDoorHHead
import Derived.Test.YtpabackkapgkpaaGreatDoorHRows
import Derived.Test.YtpabackkapgkpaaGreatDoorLListsSt
namespace Go.Proofs.YtpabackkapgkpaaGreatDoor
open Go.RowKit Go.Lib

def headB (n : Int) : Blk := ⟨2, 0, n, false, ⟨#[]⟩, ⟨#[]⟩⟩
/-- what a heading without a text is written as -/
def headOut (c : Cfg) (n : Int) (k : Nat) : List UInt8 := [60] ++ signL n ++ attrL [105, 100] (headId c k) ++ [62] ++ headNo c k ++ ([60, 47] ++ signL n ++ [62, 10])
def headsOut (c : Cfg) : List Int → Nat → List UInt8
  | [], _ => []
  | n :: r, k => headOut c n k ++ headsOut c r (k + 1)
theorem headsOut_snoc (c : Cfg) (n : Int) : ∀ (l : List Int) (k : Nat), headsOut c (l ++ [n]) k = headsOut c l k ++ headOut c n (k + l.length)
  | [], k => by simp [headsOut]
  | m :: l, k => by
    rw [List.cons_append, headsOut, headsOut_snoc c n l (k + 1), headsOut, List.append_assoc]
    congr 3
    simp; omega
theorem headS_none (c : Cfg) (n : Int) (k : Nat) (s : HSt) : headS c n k [] s = s.put (headOut c n k) := by
  unfold headS headOut
  rw [nodesS_nil]
  split
  · next h => rw [h]; simp [HSt.put]
  · simp [HSt.put]
theorem holder_head (n : Int) : holderL (headB n) = ([], []) := rfl
theorem leave_head (d : Int) (hd : d ≤ 0) (s : HSt) (h : s.stk = [] ∨ ∃ m, s.stk = [(headB m, ⟨#[]⟩)]) : leaveS d s = { s with stk := [] } := by
  unfold leaveS
  rcases h with h | ⟨m, h⟩
  · rw [h]; rfl
  · rw [h]
    unfold leaveF
    rw [if_pos (show d ≤ (headB m).depth from hd)]
    simp [leaveF, HSt.put]
theorem heads_all (c : Cfg) : ∀ (ns : List Int) (hd kk : Nat) (s : HSt), (s.stk = [] ∨ ∃ m, s.stk = [(headB m, ⟨#[]⟩)]) → blocksF c [] (ns.map headB) hd kk s = { s with out := s.out ++ headsOut c ns hd, stk := [] }
  | [], hd, kk, s, h => by
    show leaveS (-9223372036854775808) s = _
    rw [leave_head _ (by decide) s h]
    simp [headsOut]
  | n :: r, hd, kk, s, h => by
    have e1 : blockS c [] (headB n) hd kk s = { s with out := s.out ++ headOut c n hd, stk := [(headB n, ⟨#[]⟩)] } := by
      have e0 : ∀ t, bodyS c [] (headB n) hd kk t = t.put (headOut c n hd) := fun t => by
        unfold bodyS
        rw [if_neg (show ¬ (headB n).kind = 1 by show ¬ (2 : Int) = 1; decide), if_pos (show (headB n).kind = 2 from rfl)]
        exact headS_none c n hd t
      unfold blockS
      rw [show leaveS (headB n).depth s = { s with stk := [] } from leave_head 0 (Int.le_refl _) s h, holder_head, e0]
      unfold pushS
      rw [holder_head]
      simp [HSt.put]
    show blocksF c [] (r.map headB) (headsN (headB n) hd) (kN (headB n) kk) (blockS c [] (headB n) hd kk s) = _
    rw [e1, show headsN (headB n) hd = hd + 1 from rfl, heads_all c r (hd + 1) _ _ (.inr ⟨n, rfl⟩)]
    simp [headsOut, List.append_assoc]

/-- what the loop holds: the blocks so far -/
structure HL (W : World) (ns : List Int) (vb : Value) (w : World) : Prop where
  below : Below W.heap.size W w
  rb : w.ownsRow W.heap.size 50 6 vb ns.length ((ns.map headB).flatMap Blk.cells)
theorem HL.on {W : World} {ns : List Int} {vb : Value} {w w' : World} (h : HL W ns vb w) (hb : Below w.heap.size w w') : HL W ns vb w' :=
  ⟨h.below.trans (hb.mono h.below.size), row_kept h.rb (fun g hg => hb.block g (h.rb.lt g hg).2)⟩
theorem HL.push {W : World} {ns : List Int} {n : Int} {vb v' : Value} {w w4 : World} {o : Obj} (h : HL W ns vb w) (hown : w4.ownsRow W.heap.size 50 6 v' (ns.length + 1) ((ns.map headB).flatMap Blk.cells ++ (headB n).cells)) (hgr : (w.alloc o).grownBy w4 vb.ownBlock) : HL W (ns ++ [n]) v' w4 := by
  have hs := h.below.size
  refine ⟨(h.below.alloc hs o).grown hgr (by simp; omega) (fun g hg => (h.rb.lt g hg).1), ?_⟩
  rw [List.map_append, List.flatMap_append]
  simpa using hown

/-- sections of which those that are too long are empty -/
def capSec (s : Sec) : Sec := if s.anchor.size + s.number.size ≤ 60 then ⟨s.level, s.number, s.anchor, ⟨#[]⟩⟩ else Sec.zero
def capCfg (c : Cfg) : Cfg := { c with secs := c.secs.map capSec }
theorem capSec_small (s : Sec) : (capSec s).number.size ≤ 60 ∧ (capSec s).anchor.size ≤ 60 ∧ (capSec s).text.size ≤ 60 := by
  unfold capSec
  split
  · exact ⟨by show s.number.size ≤ 60; omega, by show s.anchor.size ≤ 60; omega, by show (0 : Nat) ≤ 60; omega⟩
  · exact ⟨by show (0 : Nat) ≤ 60; omega, by show (0 : Nat) ≤ 60; omega, by show (0 : Nat) ≤ 60; omega⟩
theorem capCfg_small (c : Cfg) : (capCfg c).Small ∧ Anchored (capCfg c) := by
  refine ⟨fun s hs => ?_, fun s hs => ?_⟩
  all_goals
    obtain ⟨t, -, rfl⟩ := List.mem_map.1 hs
    obtain ⟨h1, h2, h3⟩ := capSec_small t
    omega
theorem capCfg_out (c : Cfg) (n : Int) (k : Nat) (h : ∀ h : k < c.secs.length, (c.secs[k]).anchor.size + (c.secs[k]).number.size ≤ 60) : headOut (capCfg c) n k = headOut c n k := by
  have hid : headId (capCfg c) k = headId c k := by
    unfold headId
    by_cases hk : k < c.secs.length
    · have hk' : k < (capCfg c).secs.length := by simpa [capCfg] using hk
      rw [dif_pos hk', dif_pos hk]
      have e : (capCfg c).secs[k] = capSec c.secs[k] := by simp [capCfg]
      rw [e, capSec, if_pos (h hk)]
    · have hk' : ¬ k < (capCfg c).secs.length := by simpa [capCfg] using hk
      rw [dif_neg hk', dif_neg hk]
  have hno : headNo (capCfg c) k = headNo c k := by
    unfold headNo
    by_cases hk : k < c.secs.length
    · have hk' : k < (capCfg c).secs.length := by simpa [capCfg] using hk
      rw [dif_pos hk', dif_pos hk]
      have e : (capCfg c).secs[k] = capSec c.secs[k] := by simp [capCfg]
      rw [e, capSec, if_pos (h hk)]
      rfl
    · have hk' : ¬ k < (capCfg c).secs.length := by simpa [capCfg] using hk
      rw [dif_neg hk', dif_neg hk]
  unfold headOut
  rw [hid, hno]
theorem capCfg_block (c : Cfg) (n : Int) (heads k : Nat) (s : HSt) (h : ∀ h : heads < c.secs.length, (c.secs[heads]).anchor.size + (c.secs[heads]).number.size ≤ 60) : blockS (capCfg c) [] (headB n) heads k s = blockS c [] (headB n) heads k s := by
  have e0 : ∀ (c : Cfg) t, bodyS c [] (headB n) heads k t = t.put (headOut c n heads) := fun c t => by
    unfold bodyS
    rw [if_neg (show ¬ (headB n).kind = 1 by show ¬ (2 : Int) = 1; decide), if_pos (show (headB n).kind = 2 from rfl)]
    exact headS_none c n heads t
  unfold blockS
  rw [e0, e0, capCfg_out c n heads h]

theorem headB_small {n : Int} (h : 1 ≤ n ∧ n ≤ 6) : (headB n).Small :=
  ⟨by show (0 : Nat) ≤ 100000; omega, by show (0 : Nat) ≤ 100000; omega, by show (-4611686018427387904 : Int) ≤ 0 ∧ (0 : Int) ≤ 4611686018427387904; omega, by show -9223372036854775808 ≤ n ∧ n ≤ 9223372036854775807; omega, fun h => by cases h⟩

/-- a new writer, its notes laid behind the row; sections beyond the headings may be of any size -/
theorem heads_blocks {W w : World} {ns : List Int} {vb : Value} (h : HL W ns vb w) (hT : Tabs W) (hl : ns.length ≤ 10) (hns : ∀ n ∈ ns, 1 ≤ n ∧ n ≤ 6) {num : Bool} {secs : List Sec} {vS : Value} (hS : SecsIn w w.heap.size vS secs)
    (hsz : ∀ k (h : k < secs.length), k < ns.length → (secs[k]).anchor.size + (secs[k]).number.size ≤ 60) {X : ByteArray} (hX : X.data.toList = headsOut ⟨num, false, false, false, 0, secs⟩ ns 0) :
    Calls Tryz.prog 19 #[.pointer (some ⟨w.heap.size + 1, 0, none⟩), vb, .slice none 0 0]
      ((w.alloc (.cells #[.slice none 0 0, .slice none 0 0] 35)).alloc (.cells #[.bool num, .bool false, .bool false, .bool false, .int .i64 0, vS, .pointer (some ⟨w.heap.size, 0, none⟩)] 37))
      fun e w' => ∃ a cap, e = .returned (.tuple #[.string X, .slice a 0 cap]) ∧ Below W.heap.size W w' := by
  have P0 := Pen.fresh h.below num false false false 0 secs vS hS
  have hb : Below w.heap.size w ((w.alloc (.cells #[.slice none 0 0, .slice none 0 0] 35)).alloc (.cells #[.bool num, .bool false, .bool false, .bool false, .int .i64 0, vS, .pointer (some ⟨w.heap.size, 0, none⟩)] 37)) :=
    ((Below.refl _ w).alloc (Nat.le_refl _) _).alloc (by simp) _
  have VB := blks_row (Fn := (· = w.heap.size)) (l := ns.map headB) (by rw [List.length_map]; exact h.rb) (fun g hg e => by have := (h.rb.lt g hg).2; have e : g = w.heap.size := e; omega)
  have hmem : ∀ x ∈ ns.map headB, ∃ n, n ∈ ns ∧ headB n = x := fun x hx => by
    obtain ⟨n, hn, e⟩ := List.mem_map.1 hx
    exact ⟨n, hn, e⟩
  have hall : blocksF ⟨num, false, false, false, 0, secs⟩ [] (ns.map headB) 0 0 ⟨[], [], [], [], []⟩ = ⟨X.data.toList, [], [], [], []⟩ := by
    rw [heads_all _ ns 0 0 _ (.inl rfl), hX]; rfl
  refine (blocks_any P0.below P0.writer P0.notes hT (fun x hx hk => ?_) (fun x hx heads k R i s hh hf hF => ?_) (OkHead ⟨num, false, false, false, 0, secs⟩) (fun heads k hh => ?_) (VB.on hb) (texts_nil _ _) (fun x hx => ?_) (fun l hl => by cases hl) (fits_nil (by rw [List.length_map]; omega)) (by rw [List.length_map]; omega) (fun x hx _ => ?_) (fun x hx hk => ?_) (fun x hx hk => ?_)).mono fun e w' hp => ?_
  · obtain ⟨n, -, rfl⟩ := hmem x hx
    exact absurd hk (by show ¬ (2 : Int) = 1; decide)
  · obtain ⟨n, hn, rfl⟩ := hmem x hx
    rw [List.length_map] at hh
    have e := capCfg_block ⟨num, false, false, false, 0, secs⟩ n heads k s (fun h => hsz heads h hh)
    obtain ⟨hc, ha⟩ := capCfg_small ⟨num, false, false, false, 0, secs⟩
    rw [← e]
    exact blockS_fits hc ha (fun l hl => by cases hl) (headB_small (hns n hn)) hf hF
  · rw [List.length_map] at hh
    exact ⟨rfl, fun h => hsz heads h hh⟩
  · obtain ⟨n, hn, rfl⟩ := hmem x hx
    exact headB_small (hns n hn)
  · obtain ⟨n, hn, rfl⟩ := hmem x hx
    exact head_ok hT (headB_small (hns n hn))
  · obtain ⟨n, hn, rfl⟩ := hmem x hx
    exact absurd hk (by show ¬ (2 : Int) = 6; decide)
  · obtain ⟨n, hn, rfl⟩ := hmem x hx
    exact absurd hk (by show ¬ (2 : Int) = 8; decide)
  · rw [hall] at hp
    obtain ⟨a, cap, F', he, hP, -, -⟩ := PenPost.of (X := X) P0 rfl hp
    exact ⟨a, cap, he, hP.below⟩
end Go.Proofs.YtpabackkapgkpaaGreatDoor
