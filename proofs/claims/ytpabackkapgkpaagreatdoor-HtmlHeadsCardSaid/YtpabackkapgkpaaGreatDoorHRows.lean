/- Nodes gathered in a row of the call's own, handed to a new writer. -/
import Derived.Test.YtpabackkapgkpaaGreatDoorHLaw
namespace Go.Proofs.YtpabackkapgkpaaGreatDoor
open Go.RowKit Go.Lib

theorem info_inl : (Tryz.prog.info? 45).map (fun i => (i.zero, i.size, i.bytes)) = some (some (.agg #[.int .i64 0, .int .i64 0, .string ⟨#[]⟩, .string ⟨#[]⟩, .string ⟨#[]⟩]), 5, 64) := by kernel_rfl
theorem info_blk : (Tryz.prog.info? 50).map (fun i => (i.zero, i.size, i.bytes)) = some (some (.agg #[.int .i64 0, .int .i64 0, .int .i64 0, .bool false, .string ⟨#[]⟩, .string ⟨#[]⟩]), 6, 64) := by kernel_rfl
theorem news_lit {w : World} {m : Nat} (hm : w.heap.size = m) (l : List Value) (E : TypeId) : ∀ ad, some (⟨m, 0, none⟩ : Addr) = some ad → ∀ j x, l[j]? = some x → (w.alloc (.cells l.toArray E)).cell? (ad.add j) = some x := by
  subst hm
  intro ad had j x hx
  cases had
  have h : (⟨w.heap.size, 0, none⟩ : Addr).add j = ⟨w.heap.size, j, none⟩ := by rw [Lib.add_plain, Nat.zero_add]
  rw [h, Lib.cell_of_heap (heap_alloc_new w _)]
  simpa using hx
/-- a new writer, its notes laid behind the row -/
theorem row_inline {w0 w : World} {base : Nat} (hB : Below w0.heap.size w0 w) (hT : Tabs w0) (n co no ra : Bool) (de : Int) {secs : List Sec} {vS : Value} (hS : SecsIn w w.heap.size vS secs) (hc : Cfg.Small ⟨n, co, no, ra, de, secs⟩) {v : Value} {l : List Inl} (hrow : w.ownsRow base 45 5 v l.length (l.flatMap Inl.cells)) (hl : l.length ≤ 5000) (hs : ∀ x ∈ l, x.Small) {X : ByteArray} {s : HSt}
    (hS' : nodesS ⟨n, co, no, ra, de, secs⟩ l ⟨[], [], [], [], []⟩ = s) (hX : X.data.toList = s.out) :
    Calls Tryz.prog 15 #[.pointer (some ⟨w.heap.size + 1, 0, none⟩), v]
      ((w.alloc (.cells #[.slice none 0 0, .slice none 0 0] 35)).alloc (.cells #[.bool n, .bool co, .bool no, .bool ra, .int .i64 de, vS, .pointer (some ⟨w.heap.size, 0, none⟩)] 37))
      fun e w' => ∃ a cap F', e = .returned (.tuple #[.string X, .slice a s.dg.length cap]) ∧ Pen w0 ⟨n, co, no, ra, de, secs⟩ (w.heap.size + 1) w.heap.size s.L s.C F' w' := by
  have P0 := Pen.fresh hB n co no ra de secs vS hS
  have hb : Below w.heap.size w ((w.alloc (.cells #[.slice none 0 0, .slice none 0 0] 35)).alloc (.cells #[.bool n, .bool co, .bool no, .bool ra, .int .i64 de, vS, .pointer (some ⟨w.heap.size, 0, none⟩)] 37)) :=
    ((Below.refl _ w).alloc (Nat.le_refl _) _).alloc (by simp) _
  have V := inls_row (Fn := (· = w.heap.size)) hrow (fun g hg h => by have := (hrow.lt g hg).2; have h : g = w.heap.size := h; omega)
  refine (inline_pen P0 hT hc (V.on hb) hs (fits_nil (by omega)) hl hS' hX).mono ?_
  rintro e w' ⟨a, cap, F', he, hP, -, -⟩
  exact ⟨a, cap, F', he, hP⟩
end Go.Proofs.YtpabackkapgkpaaGreatDoor
