/- repair.among, Space, Ascii, Punct: the walks. -/
import Derived.Test.YtbblgnbafecdmaaDoorRows
import Derived.WalkKit
import Derived.WalkSpells
import Derived.WalkLawsBesides
import Derived.Lib.Hide
import Derived.Shelf.Abstract
namespace Go.Proofs.YtbblgnbafecdmaaDoor
open Go.RowKit

/-- is a number in one of the spans? -/
def amongB (r : Int) (l : List (Int × Int)) : Bool := l.any fun p => decide (p.1 ≤ r) && decide (r ≤ p.2)

/-- the spans lie in block b from place o on -/
def SpansAt (w : World) (b o : Nat) (l : List (Int × Int)) : Prop :=
  ∀ i (h : i < l.length), w.cell? ⟨b, o + i * 2, none⟩ = some (.int .i32 l[i].1) ∧ w.cell? ⟨b, o + i * 2 + 1, none⟩ = some (.int .i32 l[i].2)

theorem SpansAt.below {B : Nat} {w w' : World} {b o : Nat} {l : List (Int × Int)} (h : SpansAt w b o l) (hb : Below B w w') (hlt : b < B) : SpansAt w' b o l :=
  fun i hi => ⟨(hb.cell (p := ⟨b, o + i * 2, none⟩) hlt).trans (h i hi).1, (hb.cell (p := ⟨b, o + i * 2 + 1, none⟩) hlt).trans (h i hi).2⟩

theorem ret_bool {a b : Bool} (h : a = b) : Ending.returned (.bool a) = .returned (.bool b) := by rw [h]
theorem ret_int {k : IntKind} {a b : Int} (h : a = b) : Ending.returned (.int k a) = .returned (.int k b) := by rw [h]

set_option maxHeartbeats 400000 in
theorem inSpan_any (r lo hi : Int) (c : Nat) (w : World) (hc : w.cell? ⟨c, 0, none⟩ = some (.int .i32 r)) :
    Calls Tryd.prog 39 #[.agg #[.int .i32 lo, .int .i32 hi], .pointer (some ⟨c, 0, none⟩)] w fun e w' => e = .returned (.bool (decide (lo ≤ r) && decide (r ≤ hi))) ∧ Below w.heap.size w w' := by
  have hlt := World.block_lt_of_cell? w _ hc
  have hne : ¬ c = w.heap.size := by simp at hlt; omega
  go_enter Tryd.func39, Tryd.ntmps39
  go_wp2
  all_goals go_ret
  all_goals exact ⟨ret_bool (by first | (simp; done) | (simp; omega)), (Below.refl _ _).alloc (Nat.le_refl _) _⟩

def idxSpan (r : Int) : List (Int × Int) → Nat → Int
  | [], _ => -1
  | p :: l, k => if (decide (p.1 ≤ r) && decide (r ≤ p.2)) = true then k else idxSpan r l (k + 1)

theorem idxSpan_ge (r : Int) (l : List (Int × Int)) (k : Nat) : decide (0 ≤ idxSpan r l k) = amongB r l := by
  induction l generalizing k with
  | nil => rfl
  | cons p l ih =>
    simp only [idxSpan, amongB, List.any_cons]
    split
    · next h => simp only [h, Bool.true_or]; simp
    · next h => simp only [Bool.not_eq_true] at h; rw [h, Bool.false_or]; exact ih _

set_option maxHeartbeats 400000 in
theorem indexSpan_any (r : Int) (l : List (Int × Int)) (c b o cap : Nat) (w : World) (hc : w.cell? ⟨c, 0, none⟩ = some (.int .i32 r)) (hs : SpansAt w b o l) (hb : b < w.heap.size) (_hcap : l.length ≤ cap) (hm : l.length ≤ 100000) :
    Calls Tryd.prog 50 #[.slice (some ⟨b, o, none⟩) l.length cap, .func (.func 39) #[] #[.pointer (some ⟨c, 0, none⟩)]] w fun e w' => e = .returned (.int .i64 (idxSpan r l 0)) ∧ Below w.heap.size w w' := by
  have hlt := World.block_lt_of_cell? w _ hc
  go_enter Tryd.func50, Tryd.ntmps50
  go_wp2
  go_loopw [8] (fun i wr => ∃ k : Nat, k ≤ l.length ∧ i = .int .i64 k ∧ idxSpan r (l.drop k) k = idxSpan r l 0 ∧ Below w.heap.size w wr) (fun i _ => l.length - (intOf i).toNat)
  case atStart => exact ⟨0, Nat.zero_le _, rfl, by simp, Below.refl _ _⟩
  case round =>
    obtain ⟨k, hk, rfl, hf, hB⟩ := hrel
    have H1 := Lib.hid hf
    clear hf
    by_cases hlk : k < l.length
    · have hs' := hs.below hB hb k hlk
      have s0 := hs'.1
      have s1 := hs'.2
      have hc' := (hB.cell (p := ⟨c, 0, none⟩) hlt).trans hc
      have hd := List.drop_eq_getElem_cons hlk
      have H2 := Lib.hid hd
      have eg := enters_of (P := Tryd.prog) Tryd.func39 (by kernel_rfl) rfl
      clear hs hs' hc hd
      go_wp2_with fail
      refine (inSpan_any r l[k].1 l[k].2 c _ hc').mono ?_
      rintro e w1 ⟨rfl, hb1⟩
      have hB1 := hB.trans (hb1.mono hB.size)
      clear hb1
      generalize hv : (decide (l[k].1 ≤ r) && decide (r ≤ l[k].2)) = v
      have H3 := Lib.hid hv
      clear hv hc' eg s0 s1
      cases v
      · go_wp2_with fail
        go_roundw
        case rel =>
          refine ⟨k + 1, by omega, by go_num, ?_, hB1⟩
          rw [← H1.out, H2.out]; simp [idxSpan, H3.out]
        case measure => simp [intOf]; omega
      · go_wp2_with fail
        go_ret
        refine ⟨ret_int ?_, hB1⟩
        rw [← H1.out, H2.out]; simp [idxSpan, H3.out]
    · go_wp2_with fail
      go_ret
      refine ⟨ret_int ?_, hB⟩
      have : k = l.length := by omega
      rw [← H1.out, this]; simp [idxSpan]

set_option maxHeartbeats 400000 in
theorem containsSpan_any (r : Int) (l : List (Int × Int)) (c b o cap : Nat) (w : World) (hc : w.cell? ⟨c, 0, none⟩ = some (.int .i32 r)) (hs : SpansAt w b o l) (hb : b < w.heap.size) (hcap : l.length ≤ cap) (hm : l.length ≤ 100000) :
    Calls Tryd.prog 38 #[.slice (some ⟨b, o, none⟩) l.length cap, .func (.func 39) #[] #[.pointer (some ⟨c, 0, none⟩)]] w fun e w' => e = .returned (.bool (amongB r l)) ∧ Below w.heap.size w w' := by
  have H := Lib.hid (idxSpan_ge r l 0)
  go_enter Tryd.func38, Tryd.ntmps38
  go_wp2_with fail
  refine (indexSpan_any r l c b o cap _ hc hs hb hcap hm).mono ?_
  rintro e w1 ⟨rfl, hb1⟩
  go_wp2_with fail
  go_ret
  exact ⟨ret_bool H.out, hb1⟩

set_option maxHeartbeats 400000 in
theorem among_any (r : Int) (l : List (Int × Int)) (b o cap : Nat) (w : World) (hs : SpansAt w b o l) (hb : b < w.heap.size) (hcap : l.length ≤ cap) (hm : l.length ≤ 100000) :
    Calls Tryd.prog 25 #[.int .i32 r, .slice (some ⟨b, o, none⟩) l.length cap] w fun e w' => e = .returned (.bool (amongB r l)) ∧ Below w.heap.size w w' := by
  have hmf : ∀ (fn : Fn) (first cap : Array Value) (w : World), (Instr.makeFunc fn first cap).run Tryd.prog w = .ok (.func fn first cap) w := fun _ _ _ _ => rfl
  have HS := Lib.hid hs
  clear hs
  go_enter Tryd.func25, Tryd.ntmps25
  go_wp2_with fail
  refine (containsSpan_any r l w.heap.size b o cap _ (by simp) (HS.out.below ((Below.refl _ _).alloc (Nat.le_refl _) _) hb) (by simp; omega) hcap hm).mono ?_
  rintro e w1 ⟨rfl, hb1⟩
  go_wp2_with fail
  go_ret
  exact ⟨rfl, ((Below.refl _ _).alloc (Nat.le_refl _) _).trans (hb1.mono (by simp))⟩

theorem spansAt_alloc (w : World) (l : List (Int × Int)) (e : TypeId) : SpansAt (w.alloc (.cells (l.flatMap fun p => [Value.int .i32 p.1, .int .i32 p.2]).toArray e)) w.heap.size 0 l := by
  have key : ∀ (l : List (Int × Int)) i (h : i < l.length), (l.flatMap fun p => [Value.int .i32 p.1, .int .i32 p.2])[i * 2]? = some (.int .i32 l[i].1) ∧ (l.flatMap fun p => [Value.int .i32 p.1, .int .i32 p.2])[i * 2 + 1]? = some (.int .i32 l[i].2) := by
    intro l
    induction l with
    | nil => intro i h; simp at h
    | cons p l ih =>
      intro i h
      cases i with
      | zero => simp
      | succ i =>
        have := ih i (by simpa using h)
        rw [show (i + 1) * 2 = i * 2 + 1 + 1 by omega]
        simpa using this
  intro i h
  have := key l i h
  have hb := heap_alloc_new w (.cells (l.flatMap fun p => [Value.int .i32 p.1, .int .i32 p.2]).toArray e)
  rw [Nat.zero_add]
  exact ⟨by simp only [World.cell?, hb]; simpa using this.1, by simp only [World.cell?, hb]; simpa using this.2⟩

def spaceSpans : List (Int × Int) := [(9, 10), (12, 13), (32, 32), (160, 160), (5760, 5760), (8192, 8202), (8239, 8239), (8287, 8287), (12288, 12288)]
def asciiSpans : List (Int × Int) := [(33, 47), (58, 64), (91, 96), (123, 126)]
def punctSpans : List (Int × Int) := [(8208, 8231), (8240, 8259), (12289, 12305)]
def punctList : List Int := [161, 167, 171, 182, 183, 187, 191, 8364]

set_option maxHeartbeats 400000 in
theorem space_any (r : Int) (w : World) :
    Calls Tryd.prog 23 #[.int .i32 r] w fun e w' => e = .returned (.bool (amongB r spaceSpans)) ∧ Below w.heap.size w w' := by
  go_enter Tryd.func23, Tryd.ntmps23
  go_wp2_with fail
  refine (among_any r spaceSpans w.heap.size 0 9 _ (spansAt_alloc w spaceSpans _) (by simp) (by decide) (by decide)).mono ?_
  rintro e w1 ⟨rfl, hb1⟩
  have hB := ((Below.refl _ w).alloc (Nat.le_refl _) _).trans (hb1.mono (by simp))
  go_wp2_with fail
  go_ret
  exact ⟨rfl, hB⟩

end Go.Proofs.YtbblgnbafecdmaaDoor
