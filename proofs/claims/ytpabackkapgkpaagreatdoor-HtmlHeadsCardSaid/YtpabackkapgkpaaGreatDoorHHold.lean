/- What the walk of Blocks holds besides: laid, counted, let go. No walk in this text. -/
import Derived.Test.YtpabackkapgkpaaGreatDoorHNear
import Derived.Test.YtpabackkapgkpaaGreatDoorHHolder
import Derived.Test.YtpabackkapgkpaaGreatDoorHPara
namespace Go.Proofs.YtpabackkapgkpaaGreatDoor
open Go.RowKit Go.Lib

theorem Counts.int (n : Int) : Counts (.cells #[.int .i64 n] 3) := ⟨_, _, rfl, by decide, by decide, by decide, by decide⟩
theorem Counts.blk (x : Blk) : Counts (.cells x.cells.toArray 50) := ⟨_, _, rfl, by decide, by decide, by decide, by decide⟩
def withB (kq : Nat → Option Obj) (g : Nat) (o : Obj) : Nat → Option Obj := fun k => if k = g then some o else kq k

/-- a new block is held -/
theorem PSt.hold {w0 w1 : World} {Fn : Nat → Prop} {v : Value} {kq : Nat → Option Obj} {b nb : Nat} {wr : Value} {s : HSt} {w : World} {o : Obj} (h : PSt w0 w1 Fn ⟨v, kq⟩ b wr nb s w) (ho : Counts o) : PSt w0 w1 Fn ⟨v, withB kq w.heap.size o⟩ b wr nb s (w.alloc o) := by
  have h9 := h.on ((Below.refl w.heap.size w).alloc (Nat.le_refl _) o)
  obtain ⟨F', hn, hF, hK⟩ := h.notes
  refine ⟨h9.below, h9.le, h9.frame, h9.paper, ⟨F', hn.frame (Frame.of_below (F := fun _ => False) ((Below.refl w.heap.size w).alloc (Nat.le_refl _) o)) (fun _ _ h => h), hF, fun g o' hk hf => ?_⟩, h9.stk, fun g o' hk => ?_⟩
  · have hlt := (hn.lt g hf).2
    simp only [withB] at hk
    rw [if_neg (by omega)] at hk
    exact hK g o' hk hf
  · simp only [withB] at hk
    by_cases e : g = w.heap.size
    · rw [if_pos e] at hk
      cases hk
      rw [e]
      exact ⟨heap_alloc_new w _, ho⟩
    · rw [if_neg e] at hk
      exact h9.ctr g o' hk
/-- what is held no longer -/
theorem PSt.lets {w0 w1 : World} {Fn : Nat → Prop} {v : Value} {kq kq' : Nat → Option Obj} {b nb : Nat} {wr : Value} {s : HSt} {w : World} (h : PSt w0 w1 Fn ⟨v, kq⟩ b wr nb s w) (hk : ∀ g o, kq' g = some o → kq g = some o) : PSt w0 w1 Fn ⟨v, kq'⟩ b wr nb s w := by
  obtain ⟨F', hn, hF, hK⟩ := h.notes
  exact ⟨h.below, h.le, h.frame, h.paper, ⟨F', hn, hF, fun g o hg => hK g o (hk g o hg)⟩, h.stk, fun g o hg => h.ctr g o (hk g o hg)⟩
/-- the counter is set -/
theorem PSt.count {w0 w1 : World} {Fn : Nat → Prop} {v : Value} {kq : Nat → Option Obj} {b nb : Nat} {wr : Value} {s : HSt} {w : World} {g : Nat} {n m : Int} (h : PSt w0 w1 Fn ⟨v, kq⟩ b wr nb s w) (hg : kq g = some (.cells #[.int .i64 n] 3)) (hgw : w1.heap.size ≤ g) : PSt w0 w1 Fn ⟨v, withB kq g (.cells #[.int .i64 m] 3)⟩ b wr nb s (w.setCell ⟨g, 0, none⟩ (.int .i64 m)) := by
  obtain ⟨F', hn, hF, hK⟩ := h.notes
  obtain ⟨dg, hp, hd⟩ := h.paper
  obtain ⟨hc, -⟩ := h.ctr g _ hg
  have hk : ∀ k, k ≠ g → (w.setCell ⟨g, 0, none⟩ (.int .i64 m)).heap[k]? = w.heap[k]? := fun k hk => Below.heap_setCell _ _ _ _ hk
  have hfr : Frame (fun k => k = g) w (w.setCell ⟨g, 0, none⟩ (.int .i64 m)) := ⟨rfl, rfl, rfl, by simp [World.setCell], fun k _ hF => hk k hF⟩
  have hrow : ∀ {base : Nat} {e : TypeId} {size : Nat} {v : Value} {n : Nat} {xs : List Value}, w.ownsRow base e size v n xs → e ≠ 3 → (w.setCell ⟨g, 0, none⟩ (.int .i64 m)).ownsRow base e size v n xs := by
    intro base e size v n xs hr he
    refine row_kept hr fun q hq => hk q fun e9 => ?_
    subst e9
    obtain ⟨-, cur, hc2⟩ := row_block hr hq
    rw [hc] at hc2; cases hc2; exact he rfl
  have hsz := h.frame.size
  refine ⟨hfr.on_below (fun k hk => by subst hk; exact Nat.le_trans h.le hgw) h.below (Nat.le_refl _), h.le, h.frame.trans hfr (fun k hk => .inr (by subst hk; exact hgw)), ⟨dg, hp.kept (fun k hlt hkind => hk k fun e9 => ?_), hrow hd (by decide)⟩, ⟨F', hn.frame hfr (fun k hf he => hK g _ hg (by rw [← he]; exact hf)), hF, fun q o hq => ?_⟩, hrow h.stk (by decide), fun q o hq => ?_⟩
  · subst e9
    obtain ⟨cs, hb⟩ := hp.block
    rcases hkind with rfl | ⟨c2, fz, hc2⟩
    · rw [hc] at hb; cases hb
    · rw [hc] at hc2; cases hc2
  · simp only [withB] at hq
    by_cases e : q = g
    · subst e; exact hK q _ hg
    · rw [if_neg e] at hq; exact hK q o hq
  · simp only [withB] at hq
    by_cases e : q = g
    · subst e
      rw [if_pos rfl] at hq
      cases hq
      exact ⟨by rw [heap_setCell_same w q 0 _ _ _ hc]; rfl, Counts.int m⟩
    · rw [if_neg e] at hq
      obtain ⟨h1, h2⟩ := h.ctr q o hq
      exact ⟨(hk q e).trans h1, h2⟩
end Go.Proofs.YtpabackkapgkpaaGreatDoor
