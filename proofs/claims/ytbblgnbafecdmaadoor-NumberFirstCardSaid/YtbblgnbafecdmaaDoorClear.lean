/- clear of a slice that lies in a block known whole, as a step of the walk. -/
import Derived.Test.YtbblgnbafecdmaaDoorKeep
import Derived.Laws.CopyRow
import Derived.Lib.SliceRun
namespace Go.Proofs.YtbblgnbafecdmaaDoor
open Go.RowKit

theorem run_clear_row {P : Program} (w : World) (t e ty : TypeId) (z : Value) (ht : P.underlying t = some (.slice e)) (hv : ∀ w, (zeroValue e).run P w = .ok z w) (hz : z.cells = #[z]) (h1 : z.oneCell' = true)
    (ap : Option Addr) (n c g off : Nat) (hap : 0 < n → ap = some ⟨g, off, none⟩) (cur : List Value) (T : TypeId) (hg : w.heap[g]? = some (.cells cur.toArray T (0, 0))) (hfit : off + n ≤ cur.length) :
    ∃ w', (Builtin.clear_ #[t] ty #[.slice ap n c]).run P w = .ok (.tuple #[]) w' ∧ w'.heap[g]? = some (.cells (cur.take off ++ List.replicate n z ++ cur.drop (off + n)).toArray T (0, 0)) ∧ w.grownBy w' (some g) := by
  by_cases hn : n = 0
  · subst hn
    refine ⟨w, ?_, by simpa using hg, ⟨rfl, rfl, rfl, Nat.le_refl _, fun _ _ _ => rfl⟩⟩
    cases ap <;> simp [Builtin.clear_, run_underlying ht]
  · have hap := hap (by omega)
    subst hap
    have hzc : (Builtin.zeroCells z.cells n).toList = List.replicate n z := by
      rw [hz]
      simp [Builtin.zeroCells]
      apply List.ext_getElem
      · simp
      · intro i h1 h2
        simp [Nat.mod_one]
    have hst := run_storeCells_at P g off T (List.replicate n z) 0 cur.toArray w hg (by simpa using hfit) (fun v hv' => by rw [List.eq_of_mem_replicate hv']; exact h1)
    simp only [Nat.add_zero, List.length_replicate] at hst
    refine ⟨w.setRow g (cur.take off ++ List.replicate n z ++ cur.drop (off + n)).toArray, ?_, setRow_heap w g _ _ _ _ hg, ⟨rfl, rfl, rfl, by simp [World.setRow], fun k _ hk => setRow_other w g k _ (fun e => hk (by rw [e]))⟩⟩
    obtain ⟨m, rfl⟩ : ∃ m, n = m + 1 := ⟨n - 1, by omega⟩
    simp [Builtin.clear_, run_underlying ht, hv, hzc, hst]

theorem wpList_clear_row {P : Program} {w : World} {ops : Array Oper} {rest : List Oper} {o : Oper} {a : Act} {Q : Exit → Act → World → Prop} (hgd : o.guard = none) (x : Operand) (t : TypeId)
    (ho : o.op = .call { callee := .builtin .clear, args := #[x], argTypes := #[t] })
    (e : TypeId) (z : Value) (ht : P.underlying t = some (.slice e)) (hv : ∀ w, (zeroValue e).run P w = .ok z w) (hz : z.cells = #[z]) (h1 : z.oneCell' = true)
    (ap : Option Addr) (n c : Nat) (hx : a.eval x = .slice ap n c) (g off : Nat) (hap : 0 < n → ap = some ⟨g, off, none⟩) (cur : List Value) (T : TypeId) (hg : w.heap[g]? = some (.cells cur.toArray T (0, 0))) (hfit : off + n ≤ cur.length)
    (h : ∀ w', Hid (w'.heap[g]? = some (.cells (cur.take off ++ List.replicate n z ++ cur.drop (off + n)).toArray T (0, 0))) → w.grownBy w' (some g) → wpList P ops Q rest (a.put o.dst (.tuple #[])) w') : wpList P ops Q (o :: rest) a w := by
  refine wpList_plain hgd fun K hK => ?_
  obtain ⟨w', hr, h2, h3⟩ := run_clear_row (P := P) w t e o.type z ht hv hz h1 ap n c g off hap cur T hg hfit
  unfold Oper.wp execOp
  simp only [ho, resolve, invoke, builtin, Sem.run_bind, Sem.run_pure, Result.andThen_ok, List.map_toArray, List.map_cons, List.map_nil, hx, hr]
  exact hK _ _ (h w' h2 h3)
end Go.Proofs.YtbblgnbafecdmaaDoor
