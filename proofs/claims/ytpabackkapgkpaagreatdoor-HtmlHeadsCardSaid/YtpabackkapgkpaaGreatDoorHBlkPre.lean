/- What stands at the head of each round of Blocks. No walk in this text. Printed by gen_blocks.py. -/
import Derived.Test.YtpabackkapgkpaaGreatDoorHText
import Derived.Test.YtpabackkapgkpaaGreatDoorPBlocks2
namespace Go.Proofs.YtpabackkapgkpaaGreatDoor
open Go.RowKit Go.Lib

/-- the heading's contract, wherever the paper lies -/
def HeadOk (P : Nat → List Inl → Prop) (w0 : World) (Fn : Nat → Prop) (c : Cfg) (wb nb : Nat) (x : Blk) : Prop :=
  ∀ (w1 : World) (v9 : Held) (b k : Nat) (v : Value) (l : List Inl) (s : HSt) (w : World), WriterAt w1 Fn c wb nb → PSt w0 w1 Fn v9 b (.pointer (some ⟨wb, 0, none⟩)) nb s w → InlsIn w1 Fn v l → (∀ x ∈ l, x.Small) → Fits l.length s → s.out.length + 20000000 * l.length + 10000000 ≤ 100000000000000 → k ≤ 1000000 → P k l →
    Calls Tryz.prog 39 #[.pointer (some ⟨b, 0, none⟩), x.val, .int .i64 k, v] w fun e w' => e = .returned (.tuple #[]) ∧ PSt w0 w1 Fn v9 b (.pointer (some ⟨wb, 0, none⟩)) nb (headS c x.n k l s) w'
def PutOk (f : Nat) (w0 : World) (Fn : Nat → Prop) (c : Cfg) (wb nb : Nat) (x : Blk) (t : List UInt8) : Prop :=
  ∀ (w1 : World) (v9 : Held) (b : Nat) (s : HSt) (w : World), WriterAt w1 Fn c wb nb → PSt w0 w1 Fn v9 b (.pointer (some ⟨wb, 0, none⟩)) nb s w → s.out.length + t.length ≤ 140737488355328 →
    Calls Tryz.prog f #[.pointer (some ⟨b, 0, none⟩), x.val] w fun e w' => e = .returned (.tuple #[]) ∧ PSt w0 w1 Fn v9 b (.pointer (some ⟨wb, 0, none⟩)) nb (s.put t) w'

theorem cells_blk {w : World} {g : Nat} {kd dp nn : Int} {ti : Bool} {tx inf : ByteArray} (h : w.heap[g]? = some (.cells #[.int .i64 kd, .int .i64 dp, .int .i64 nn, .bool ti, .string tx, .string inf] 50)) :
    w.cell? ⟨g, 0, none⟩ = some (.int .i64 kd) ∧ w.cell? ⟨g, 1, none⟩ = some (.int .i64 dp) ∧ w.cell? ⟨g, 2, none⟩ = some (.int .i64 nn) ∧ w.cell? ⟨g, 3, none⟩ = some (.bool ti) ∧ w.cell? ⟨g, 4, none⟩ = some (.string tx) ∧ w.cell? ⟨g, 5, none⟩ = some (.string inf) := by
  obtain ⟨a, b, c, d, e, f, -⟩ := block6 h
  exact ⟨a, b, c, d, e, f⟩
theorem news_seven {w : World} {m : Nat} (hm : w.heap.size = m) (a b c d e f g : Value) (E : TypeId) : ∀ ad, some (⟨m, 0, none⟩ : Addr) = some ad → ∀ j x, [a, b, c, d, e, f, g][j]? = some x → (w.alloc (.cells #[a, b, c, d, e, f, g] E)).cell? (ad.add j) = some x := by
  subst hm
  intro ad had j x hx
  cases had
  have h : (⟨w.heap.size, 0, none⟩ : Addr).add j = ⟨w.heap.size, j, none⟩ := by rw [Lib.add_plain, Nat.zero_add]
  rw [h, Lib.cell_of_heap (heap_alloc_new w _)]
  show (#[a, b, c, d, e, f, g] : Array Value)[j]? = some x
  simpa using hx
theorem WriterAt.on {w w' : World} {Fn : Nat → Prop} {c : Cfg} {wb nb : Nat} (h : WriterAt w Fn c wb nb) (hb : Below w.heap.size w w') : WriterAt w' Fn c wb nb := by
  obtain ⟨vS, hc, hS, h1⟩ := h.cells
  exact ⟨⟨vS, (hb.block wb (Array.getElem?_eq_some_iff.1 hc).1).trans hc, (hS.below hb).mono hb.size, h1⟩, h.out⟩
theorem InlsIn.on {w w' : World} {G : Nat → Prop} {v : Value} {l : List Inl} (h : InlsIn w G v l) (hb : Below w.heap.size w w') : InlsIn w' G v l := by
  obtain ⟨a, cap, he, hc, hm, hl⟩ := h
  refine ⟨a, cap, he, hc, hm, ?_⟩
  rcases hl with hl | ⟨g, o, ha, hlt, hG, hat⟩
  · exact .inl hl
  · exact .inr ⟨g, o, ha, Nat.lt_of_lt_of_le hlt hb.size, hG, fun i hi => ⟨(hb.cell (p := ⟨g, _, none⟩) hlt).trans (hat i hi).c0, (hb.cell (p := ⟨g, _, none⟩) hlt).trans (hat i hi).c1, (hb.cell (p := ⟨g, _, none⟩) hlt).trans (hat i hi).c2, (hb.cell (p := ⟨g, _, none⟩) hlt).trans (hat i hi).c3, (hb.cell (p := ⟨g, _, none⟩) hlt).trans (hat i hi).c4⟩⟩
theorem TextsIn.on {w w' : World} {G : Nat → Prop} {v : Value} {l : List (List Inl)} (h : TextsIn w G v l) (hb : Below w.heap.size w w') : TextsIn w' G v l := by
  obtain ⟨a, cap, he, hc, hm, hl⟩ := h
  refine ⟨a, cap, he, hc, hm, ?_⟩
  rcases hl with hl | ⟨g, o, ha, hlt, hG, hat⟩
  · exact .inl hl
  · refine .inr ⟨g, o, ha, Nat.lt_of_lt_of_le hlt hb.size, hG, fun i hi => ?_⟩
    obtain ⟨vi, h1, h2⟩ := hat i hi
    exact ⟨vi, (hb.cell (p := ⟨g, _, none⟩) hlt).trans h1, h2.on hb⟩
theorem WrPost.back {w0 w w1 : World} {Fn : Nat → Prop} {nb : Nat} {s : HSt} {vd : Value} {w' : World} (h : WrPost w0 w1 Fn nb s vd w') (hb : Below w.heap.size w w1) : WrPost w0 w Fn nb s vd w' := by
  obtain ⟨F', hn, hF⟩ := h.notes
  have hs := hb.size
  refine ⟨?_, h.below, (Frame.of_below (F := Fn) hb).trans h.frame (fun _ h => .inl h), ⟨F', hn, fun k hk => ?_⟩⟩
  · refine ⟨h.dgs.1, ?_⟩
    rcases h.dgs.2 with e | ⟨g, cap, cur, e, hg, r⟩
    · exact .inl e
    · exact .inr ⟨g, cap, cur, e, Nat.le_trans hs hg, r⟩
  · rcases hF k hk with e | e
    · exact .inl e
    · exact .inr (Nat.le_trans hs e)

def kOf (kb k : Nat) : Nat → Option Obj := withB (fun _ => none) kb (.cells #[.int .i64 k] 3)
/-- what stands at the head of each round -/
structure BRel (w0 w1 : World) (Fn : Nat → Prop) (b wb nb kb : Nat) (c : Cfg) (texts : List (List Inl)) (bs : List Blk) (s0 : HSt) (i heads k : Nat) (s : HSt) (vin : Value) (w : World) : Prop where
  st : PSt w0 w1 Fn ⟨vin, kOf kb k⟩ b (.pointer (some ⟨wb, 0, none⟩)) nb s w
  fits : BFits i s
  room : Fits (100 * (bs.length - i)) s
  eq : blocksF c texts (bs.drop i) heads k s = blocksF c texts bs 0 0 s0
  hk : k ≤ i
  hh : heads ≤ i

end Go.Proofs.YtpabackkapgkpaaGreatDoor
