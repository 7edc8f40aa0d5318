/- number.All: the walk. -/
import Derived.Test.YtbblgnbafecdmaaGreatDoorKeep
import Derived.Laws.CopyRow
import Derived.Lib.SliceRun
import Derived.Test.YtbblgnbafecdmaaGreatDoorDigs
import Derived.Test.YtbblgnbafecdmaaGreatDoorNames
import Derived.OwnWalk
import Derived.IntWalk
import Derived.Outline
namespace Go.Proofs.YtbblgnbafecdmaaGreatDoor
open Go.RowKit

theorem run_clear_row {P : Program} (w : World) (t e ty : TypeId) (z : Value) (ht : P.underlying t = some (.slice e)) (hv : ∀ w, (zeroValue e).run P w = .ok z w) (hz : z.cells = #[z]) (h1 : z.oneCell' = true)
    (ap : Option Addr) (n c g off : Nat) (hap : 0 < n → ap = some ⟨g, off, none⟩) (cur : List Value) (T : TypeId) (hg : w.heap[g]? = some (.cells cur.toArray T (0, 0))) (hfit : off + n ≤ cur.length) :
    ∃ w', (Builtin.clear_ #[t] ty #[.slice ap n c]).run P w = .ok (.tuple #[]) w' ∧ w'.heap[g]? = some (.cells (cur.take off ++ List.replicate n z ++ cur.drop (off + n)).toArray T (0, 0)) ∧ w.grownBy w' (some g) := by
  by_cases hn : n = 0
  · subst hn
    refine ⟨w, ?_, by simpa using hg, ⟨rfl, rfl, rfl, Nat.le_refl _, fun _ _ _ => rfl⟩⟩
    cases ap <;> simp [Builtin.clear_, run_underlying ht]
  · have hap := hap (by omega)
    subst hap
    have hzc : (Builtin.zeroCells z.cells n).toList = List.replicate n z := by
      rw [hz]
      simp [Builtin.zeroCells]
      apply List.ext_getElem
      · simp
      · intro i h1 h2
        simp [Nat.mod_one]
    have hst := run_storeCells_at P g off T (List.replicate n z) 0 cur.toArray w hg (by simpa using hfit) (fun v hv' => by rw [List.eq_of_mem_replicate hv']; exact h1)
    simp only [Nat.add_zero, List.length_replicate] at hst
    refine ⟨w.setRow g (cur.take off ++ List.replicate n z ++ cur.drop (off + n)).toArray, ?_, setRow_heap w g _ _ _ _ hg, ⟨rfl, rfl, rfl, by simp [World.setRow], fun k _ hk => setRow_other w g k _ (fun e => hk (by rw [e]))⟩⟩
    obtain ⟨m, rfl⟩ : ∃ m, n = m + 1 := ⟨n - 1, by omega⟩
    simp [Builtin.clear_, run_underlying ht, hv, hzc, hst]

theorem wpList_clear_row {P : Program} {w : World} {ops : Array Oper} {rest : List Oper} {o : Oper} {a : Act} {Q : Exit → Act → World → Prop} (hgd : o.guard = none) (x : Operand) (t : TypeId)
    (ho : o.op = .call { callee := .builtin .clear, args := #[x], argTypes := #[t] })
    (e : TypeId) (z : Value) (ht : P.underlying t = some (.slice e)) (hv : ∀ w, (zeroValue e).run P w = .ok z w) (hz : z.cells = #[z]) (h1 : z.oneCell' = true)
    (ap : Option Addr) (n c : Nat) (hx : a.eval x = .slice ap n c) (g off : Nat) (hap : 0 < n → ap = some ⟨g, off, none⟩) (cur : List Value) (T : TypeId) (hg : w.heap[g]? = some (.cells cur.toArray T (0, 0))) (hfit : off + n ≤ cur.length)
    (h : ∀ w', Hid (w'.heap[g]? = some (.cells (cur.take off ++ List.replicate n z ++ cur.drop (off + n)).toArray T (0, 0))) → w.grownBy w' (some g) → wpList P ops Q rest (a.put o.dst (.tuple #[])) w') : wpList P ops Q (o :: rest) a w := by
  refine wpList_plain hgd fun K hK => ?_
  obtain ⟨w', hr, h2, h3⟩ := run_clear_row (P := P) w t e o.type z ht hv hz h1 ap n c g off hap cur T hg hfit
  unfold Oper.wp execOp
  simp only [ho, resolve, invoke, builtin, Sem.run_bind, Sem.run_pure, Result.andThen_ok, List.map_toArray, List.map_cons, List.map_nil, hx, hr]
  exact hK _ _ (h w' h2 h3)
end Go.Proofs.YtbblgnbafecdmaaGreatDoor
namespace Go.Proofs.YtbblgnbafecdmaaGreatDoor
open Go.RowKit Go.Lib

theorem info_str : (Tryz.prog.info? 9).map (fun i => (i.zero, i.size, i.bytes)) = some (some (.string ⟨#[]⟩), 1, 16) := by kernel_rfl
theorem info_int : (Tryz.prog.info? 3).map (fun i => (i.zero, i.size, i.bytes)) = some (some (.int .i64 0), 1, 8) := by kernel_rfl
theorem zeroInt (w : World) : (zeroValue 3).run Tryz.prog w = .ok (.int .i64 0) w := by kernel_rfl
theorem row_not_struct {w : World} {base : Nat} {e T : TypeId} {sz : Nat} {v : Value} {n : Nat} {xs : List Value} {b : Nat} {cs : Array Value} (h : w.ownsRow base e sz v n xs) (hb : w.heap[b]? = some (.cells cs T (0, 0))) (he : e ≠ T) : v.ownBlock ≠ some b := by
  intro hg
  obtain ⟨-, c1, h1⟩ := row_block h hg
  rw [hb] at h1
  simp only [Option.some.injEq, Obj.cells.injEq] at h1
  exact he h1.2.1.symm
theorem news_at {w : World} {m : Nat} (hm : w.heap.size = m) (v : Value) (E : TypeId) : ∀ ad, some (⟨m, 0, none⟩ : Addr) = some ad → ∀ j u, [v][j]? = some u → (w.alloc (.cells #[v] E)).cell? (ad.add j) = some u := by
  subst hm
  intro ad had j u hu
  cases had
  cases j with
  | zero => simp at hu; subst hu; simp [Addr.add]
  | succ j => simp at hu

/-- numbers lie in a slice -/
def IntsIn (w : World) (v : Value) (l : List Int) : Prop :=
  (l = [] ∧ ∃ a cap, v = .slice a 0 cap) ∨ ∃ b o cap, v = .slice (some ⟨b, o, none⟩) l.length cap ∧ b < w.heap.size ∧ ∀ i (h : i < l.length), w.cell? ⟨b, o + i, none⟩ = some (.int .i64 l[i])
theorem IntsIn.below {w w' : World} {v : Value} {l : List Int} (h : IntsIn w v l) (hb : Below w.heap.size w w') : IntsIn w' v l := by
  rcases h with h | ⟨b, o, cap, hv, hlt, hc⟩
  · exact .inl h
  · exact .inr ⟨b, o, cap, hv, Nat.lt_of_lt_of_le hlt hb.size, fun i hi => (hb.cell (p := ⟨b, o + i, none⟩) hlt).trans (hc i hi)⟩
theorem IntsIn.form {w : World} {v : Value} {l : List Int} (h : IntsIn w v l) : ∃ a cap, v = .slice a l.length cap := by
  rcases h with ⟨rfl, a, cap, rfl⟩ | ⟨b, o, cap, rfl, -⟩
  · exact ⟨_, _, rfl⟩
  · exact ⟨_, _, rfl⟩
theorem IntsIn.cells {w : World} {v : Value} {l : List Int} {a : Option Addr} {cap : Nat} (h : IntsIn w v l) (hv : v = .slice a l.length cap) (hne : 0 < l.length) : ∃ b o, a = some ⟨b, o, none⟩ ∧ b < w.heap.size ∧ ∀ i (h : i < l.length), w.cell? ⟨b, o + i, none⟩ = some (.int .i64 l[i]) := by
  rcases h with ⟨rfl, -⟩ | ⟨b, o, cap', rfl, hb, hc⟩
  · simp at hne
  · simp only [Value.slice.injEq] at hv
    exact ⟨b, o, hv.1.symm, hb, hc⟩

/-- the counts lie in block K -/
def CntAt (K : Nat) (c : List Nat) (w : World) : Prop := w.heap[K]? = some (.cells (c.map (fun n : Nat => Value.int .i64 n)).toArray 53 (0, 0))
theorem CntAt.kept {K : Nat} {c : List Nat} {w w' : World} (h : CntAt K c w) (hb : w'.heap[K]? = w.heap[K]?) : CntAt K c w' := hb.trans h
theorem CntAt.lt {K : Nat} {c : List Nat} {w : World} (h : CntAt K c w) : K < w.heap.size := (Array.getElem?_eq_some_iff.1 h).1
theorem CntAt.below {K : Nat} {c : List Nat} {w w' : World} (h : CntAt K c w) (hb : Below w.heap.size w w') : CntAt K c w' := h.kept (hb.block K h.lt)
theorem CntAt.cell {K : Nat} {c : List Nat} {w : World} (h : CntAt K c w) (j : Nat) (hj : j < c.length) : w.cell? ⟨K, j, none⟩ = some (.int .i64 c[j]) ∧ w.frozen? ⟨K, j, none⟩ = false := by
  refine ⟨?_, frozen_of_row w K j _ _ h⟩
  rw [cell_of_row w K j _ _ _ h]
  simp [hj]
theorem CntAt.set {K : Nat} {c : List Nat} {w : World} (h : CntAt K c w) (j x : Nat) : CntAt K (c.set j x) (w.setCell ⟨K, j, none⟩ (.int .i64 x)) := by
  unfold CntAt
  rw [heap_setCell_same w K j _ _ _ h]
  congr 2
  rw [List.map_set]
  simp

/-- the texts of numbers -/
def texts (l : List (List UInt8)) : List ByteArray := l.map fun b => ⟨b.toArray⟩
/-- behind k headings -/
structure AllSt (w0 : World) (K : Nat) (l : List Int) (out : Value) (w : World) : Prop where
  cnt : CntAt K (stC l) w
  row : w.ownsRow w0.heap.size 9 1 out l.length ((texts (allN l)).map .string)
  below : Below w0.heap.size w0 w
/-- .. and of the next one the text -/
theorem AllSt.next {w0 : World} {K : Nat} {l : List Int} {x : Int} {out v' : Value} {w w' : World} {X : ByteArray} {o : Obj} (hc : CntAt K (stC (l ++ [x])) w) (hB : Below w0.heap.size w0 w) (hrow : w.ownsRow w0.heap.size 9 1 out l.length ((texts (allN l)).map .string))
    (hX : X.data.toList = numK (stC l) x) (hown : w'.ownsRow w0.heap.size 9 1 v' (l.length + 1) ((texts (allN l)).map .string ++ [.string X])) (hg : (w.alloc o).grownBy w' out.ownBlock) : AllSt w0 K (l ++ [x]) v' w' := by
  refine ⟨?_, ?_, ?_⟩
  · refine hc.kept ?_
    rw [hg.block K (by have := hc.lt; simp; omega) (fun e => row_not_struct hrow hc (by decide) e.symm)]
    exact Below.heap_alloc _ _ _ hc.lt
  · rw [List.length_append, List.length_singleton]
    have e : (texts (allN (l ++ [x]))).map Value.string = (texts (allN l)).map .string ++ [.string X] := by
      rw [allN_snoc]
      have : X = ⟨(numK (stC l) x).toArray⟩ := ba_eq (by rw [hX])
      simp [texts, this]
    rw [e]
    exact hown
  · exact (hB.alloc hB.size o).grown hg (by have := hB.size; simp; omega) (fun k hk => (hrow.lt k hk).1)

theorem take_next {l : List Int} {k : Nat} (h : k < l.length) : l.take (k + 1) = l.take k ++ [l[k]] := List.take_succ_eq_append_getElem h

/-- the next one's counts are there, its text not yet -/
structure MidSt (w0 : World) (K : Nat) (l : List Int) (x : Int) (out : Value) (w : World) : Prop where
  cnt : CntAt K (stC (l ++ [x])) w
  row : w.ownsRow w0.heap.size 9 1 out l.length ((texts (allN l)).map .string)
  below : Below w0.heap.size w0 w
theorem MidSt.on {w0 : World} {K : Nat} {l : List Int} {x : Int} {out : Value} {w w' : World} (h : MidSt w0 K l x out w) (hb : Below w.heap.size w w') : MidSt w0 K l x out w' :=
  ⟨h.cnt.below hb, row_kept h.row (fun g hg => hb.block g (h.row.lt g hg).2), h.below.trans (hb.mono h.below.size)⟩
theorem AllSt.bad {w0 : World} {K : Nat} {l : List Int} {x : Int} {out : Value} {w : World} (h : AllSt w0 K l out w) (hx : okLev x = false) : MidSt w0 K l x out w :=
  ⟨by rw [stC_snoc, nextC_bad hx]; exact h.cnt, h.row, h.below⟩
theorem MidSt.next {w0 : World} {K : Nat} {l : List Int} {x : Int} {out v' : Value} {w w' : World} {X : ByteArray} {o : Obj} (h : MidSt w0 K l x out w)
    (hX : X.data.toList = numK (stC l) x) (hown : w'.ownsRow w0.heap.size 9 1 v' (l.length + 1) ((texts (allN l)).map .string ++ [.string X])) (hg : (w.alloc o).grownBy w' out.ownBlock) : AllSt w0 K (l ++ [x]) v' w' :=
  AllSt.next h.cnt h.below h.row hX hown hg

theorem numF_take {c : List Nat} {i : Nat} (h : i < c.length) : numF [] (c.take (i + 1)) = if 0 < c[i] then digs (numF [] (c.take i)) c[i] else numF [] (c.take i) := by
  rw [List.take_succ_eq_append_getElem h, numF_snoc]
theorem bump_set {c : List Nat} {j n : Nat} (h : c.length = 6) (hj : j < 6) (hn : c[j]? = some n) : bump c (j + 1) = (c.set j (n + 1)).take (j + 1) ++ List.replicate (5 - j) 0 ++ (c.set j (n + 1)).drop (j + 1 + (5 - j)) := by
  match c, h with
  | [a, b, c, d, e, f], _ =>
    have : j = 0 ∨ j = 1 ∨ j = 2 ∨ j = 3 ∨ j = 4 ∨ j = 5 := by omega
    rcases this with rfl | rfl | rfl | rfl | rfl | rfl <;> (cases hn; rfl)
theorem AllSt.good {w0 : World} {K : Nat} {l : List Int} {j n : Nat} {out : Value} {w w' : World} (h : AllSt w0 K l out w) (hK : w0.heap.size ≤ K) (hj : j < 6) (hn : (stC l)[j]? = some n)
    (hc : w'.heap[K]? = some (.cells ((((stC l).set j (n + 1)).map (fun n : Nat => Value.int .i64 n)).take (j + 1) ++ List.replicate (5 - j) (Value.int .i64 0) ++ (((stC l).set j (n + 1)).map (fun n : Nat => Value.int .i64 n)).drop (j + 1 + (5 - j))).toArray 53 (0, 0)))
    (hg : (w.setCell ⟨K, j, none⟩ (.int .i64 ((n : Int) + 1))).grownBy w' (some K)) : MidSt w0 K l ((j : Int) + 1) out w' := by
  have hne := row_not_struct h.row h.cnt (by decide)
  refine ⟨?_, ?_, ?_⟩
  · have hok : okLev ((j : Int) + 1) = true := okLev_iff.2 ⟨by omega, by omega⟩
    have ht : ((j : Int) + 1).toNat = j + 1 := by omega
    unfold CntAt
    rw [hc, stC_snoc]
    unfold nextC
    rw [if_pos hok, ht, bump_set (stC_len l) hj hn]
    simp only [List.map_append, List.map_take, List.map_drop, List.map_replicate]
    rfl
  · refine row_kept h.row (fun g hgb => ?_)
    have hgk : g ≠ K := fun e => hne (by rw [hgb, e])
    rw [hg.block g (by simpa [World.setCell] using (h.row.lt g hgb).2) (by simpa using hgk)]
    exact Below.heap_setCell _ _ _ _ hgk
  · exact (h.below.setCell hK _).grown hg (by have := h.below.size; simpa [World.setCell] using this) (fun k hk => by cases hk; exact hK)

theorem slice_from (K j : Nat) (hj : j < 5) (w : World) : (Instr.sliceAt 53 (.pointer (some ⟨K, 0, none⟩)) (some (.int .i64 ((j : Int) + 1))) none none).run Tryz.prog w = .ok (.slice (some ⟨K, j + 1, none⟩) (5 - j) (5 - j)) w := by
  have hA : Tryz.prog.arrayLen 53 = 6 := by kernel_rfl
  rw [run_sliceAt_array_l (P := Tryz.prog) w _ _ (by kernel_rfl) .i64 ((j : Int) + 1) (by omega) (by rw [hA]; omega)]
  have e : ((j : Int) + 1).toNat = j + 1 := by omega
  have hs : (sizeOf (Tryz.prog.elem 53)).run Tryz.prog w = .ok 1 w := by kernel_rfl
  simp [hs, hA, e, slicedAt, Addr.add, show ¬ 6 = j + 1 by omega]
theorem slice_to (K j : Nat) (hj : j < 6) (w : World) : (Instr.sliceAt 53 (.pointer (some ⟨K, 0, none⟩)) none (some (.int .i64 ((j : Int) + 1))) none).run Tryz.prog w = .ok (.slice (some ⟨K, 0, none⟩) (j + 1) 6) w := by
  have hA : Tryz.prog.arrayLen 53 = 6 := by kernel_rfl
  rw [run_sliceAt_array_h (P := Tryz.prog) w _ _ (by kernel_rfl) .i64 ((j : Int) + 1) (by omega) (by rw [hA]; omega)]
  have e : ((j : Int) + 1).toNat = j + 1 := by omega
  have hs : (sizeOf (Tryz.prog.elem 53)).run Tryz.prog w = .ok 1 w := by kernel_rfl
  simp [hs, hA, e, slicedAt, Addr.add]
set_option maxRecDepth 100000 in
set_option maxHeartbeats 2000000 in
theorem all_any {w : World} (hT : Tabs w) (v : Value) (l : List Int) (hv : IntsIn w v l) (hl : l.length ≤ 1000) :
    Calls Tryz.prog 6 #[v] w fun e w' => ∃ v', e = .returned v' ∧ w'.ownsRow w.heap.size 9 1 v' l.length ((texts (allN l)).map .string) ∧ Below w.heap.size w w' := by
  obtain ⟨a, cap, rfl⟩ := hv.form
  have HV := Lib.hid hv
  have HT := Lib.hid hT
  have HLOW := Lib.hid hT.low
  clear hv hT
  obtain ⟨i0, hi, hz0, hz1, hz2⟩ := info_parts info_str
  have HI0 : Hid (Tryz.prog.info? 9 = some i0 ∧ i0.zero = some (.string ⟨#[]⟩) ∧ i0.size = 1 ∧ i0.bytes = 16) := ⟨hi, hz0, hz1, hz2⟩
  clear hi hz0 hz1 hz2
  have hli : (l.length : Int) ≤ 1000 := by omega
  go_enter Tryz.func6, Tryz.ntmps6
  go_wp2_with fail
  go_loopw [4, 12] (fun ou i wr => ∃ (k : Nat) (out : Value), k ≤ l.length ∧ i = .int .i64 k ∧ out = ou ∧ AllSt w w.heap.size (l.take k) out wr) (fun _ i _ => l.length - (RowKit.intOf i).toNat)
  case atStart => exact ⟨0, _, Nat.zero_le _, rfl, rfl, ⟨heap_alloc_new w _, World.ownsRow_nil _ _ _ _, (Below.refl _ _).alloc (Nat.le_refl _) _⟩⟩
  case round =>
    obtain ⟨k, out, hk, rfl, rfl, hS⟩ := hrel
    have hkl : (l.take k).length = k := by rw [List.length_take]; omega
    by_cases hlt : k < l.length
    · obtain ⟨b, o, rfl, hb, hcell⟩ := HV.out.cells rfl (by omega)
      have cx := (hS.below.cell (p := ⟨b, o + k, none⟩) hb).trans (hcell k hlt)
      have hnx := Lib.hid (take_next hlt)
      clear hcell
      generalize l[k] = x at cx hnx
      generalize l.take k = L at hS hkl hnx
      have hm1 : L.length + 1 ≤ maxLen := by unfold maxLen; omega
      have hm2 : (L.length + 1) * 16 ≤ 140737488355328 := by omega
      have hLi : L.length ≤ 1000 := by omega
      have hLk := Lib.hid hkl
      clear hkl
      cases hok : okLev x with
      | false =>
        have hM := hS.bad hok
        have hN0 := Lib.hid (numK_bad (c := stC L) hok)
        have hcase : decide ((1 : Int) ≤ x) = false ∨ (decide ((1 : Int) ≤ x) = true ∧ decide (x ≤ 6) = false) := by
          unfold okLev at hok
          simp only [Bool.and_eq_false_iff, decide_eq_false_iff_not, decide_eq_true_eq] at hok ⊢
          omega
        have HM := Lib.hid hM
        have hba : w.heap.size ≤ (wr.alloc (.cells #[.string ⟨#[]⟩] 9)).heap.size := by have := hS.below.size; simp; omega
        clear hok hM hS
        rcases hcase with t1 | ⟨t1, t2⟩
        all_goals go_wp2_with (at_builtin; refine wpList_append_any rfl (.tmp 43) (.tmp 45) 23 rfl w.heap.size 9 i0 (.string ⟨#[]⟩) 1 16 Tryz.underlying23 HI0.out.1 HI0.out.2.1 HI0.out.2.2.1 HI0.out.2.2.2 rfl (by decide) out L.length ((texts (allN L)).map .string) rfl (HM.out.row.alloc _) (some ⟨wr.heap.size, 0, none⟩) 1 1 [.string ⟨#[]⟩] rfl rfl (fun h => by cases h) (news_at rfl _ _) (fun u hu => by rw [List.mem_singleton.1 hu]; rfl) hm1 hm2 hba ?_; intro v' w2 hown2 hgr2 hblk2; have HN := Lib.hid (HM.out.next (X := ⟨#[]⟩) hN0.out.symm hown2 hgr2); clear hown2 hgr2 hblk2)
        all_goals go_roundw
        case rel => exact ⟨k + 1, _, by omega, by go_num, rfl, by rw [hnx.out]; exact HN.out⟩
        case measure => simp only [RowKit.intOf]; omega
        case rel => exact ⟨k + 1, _, by omega, by go_num, rfl, by rw [hnx.out]; exact HN.out⟩
        case measure => simp only [RowKit.intOf]; omega
      | true =>
        obtain ⟨j, hj, rfl⟩ : ∃ j : Nat, j < 6 ∧ x = (j : Int) + 1 := by
          have := okLev_iff.1 hok
          exact ⟨(x - 1).toNat, by omega, by omega⟩
        have t1 : decide ((1 : Int) ≤ (j : Int) + 1) = true := by simp only [decide_eq_true_eq]; omega
        have t2 : decide ((j : Int) + 1 ≤ 6) = true := by simp only [decide_eq_true_eq]; omega
        obtain ⟨n0, hn0, hn0le, c1, f1⟩ : ∃ n0 : Nat, (stC L)[j]? = some n0 ∧ n0 ≤ 1000 ∧ wr.cell? ⟨w.heap.size, j, none⟩ = some (.int .i64 n0) ∧ wr.frozen? ⟨w.heap.size, j, none⟩ = false := by
          have hc6 : j < (stC L).length := by rw [stC_len]; exact hj
          obtain ⟨c1, f1⟩ := hS.cnt.cell j hc6
          exact ⟨_, List.getElem?_eq_getElem hc6, by have := stC_le L _ (List.getElem_mem hc6); omega, c1, f1⟩
        have hset := hS.cnt.set j (n0 + 1)
        rw [show (((n0 + 1 : Nat)) : Int) = (n0 : Int) + 1 by omega] at hset
        have HCS : Hid ((wr.setCell ⟨w.heap.size, j, none⟩ (.int .i64 ((n0 : Int) + 1))).heap[w.heap.size]? = some (.cells (((stC L).set j (n0 + 1)).map (fun n : Nat => Value.int .i64 n)).toArray 53 (0, 0))) := hset
        have hlen6 : (j + 1) + (5 - j) ≤ (((stC L).set j (n0 + 1)).map (fun n : Nat => Value.int .i64 n)).length := by rw [List.length_map, List.length_set, stC_len]; omega
        have HS := Lib.hid hS
        have HN0 := Lib.hid hn0
        have HL6 := Lib.hid hlen6
        have HNC := Lib.hid (show bump (stC L) (j + 1) = nextC (stC L) ((j : Int) + 1) by
          unfold nextC; rw [if_pos hok, show ((j : Int) + 1).toNat = j + 1 by omega])
        have HNK := Lib.hid (show numK (stC L) ((j : Int) + 1) = numF [] ((nextC (stC L) ((j : Int) + 1)).take (j + 1)) by
          unfold numK; rw [if_pos hok, show ((j : Int) + 1).toNat = j + 1 by omega])
        have hj0 : (0 : Int) ≤ (j : Int) := by omega
        have hj6 : (j : Int) < 6 := by omega
        have hj7 : (j : Int) + 1 ≤ 6 := by omega
        have hn0i : (n0 : Int) ≤ 1000 := by omega
        have hKlt : w.heap.size < wr.heap.size := hS.cnt.lt
        clear hS hn0 hset hlen6 hok
        by_cases h5 : j = 5
        · subst h5
          go_wp2_with (with_reducible refine wpList_clear_row rfl (.tmp 29) 22 rfl 3 (.int .i64 0) Tryz.underlying22 zeroInt rfl rfl _ _ _ rfl w.heap.size 6 (fun h => absurd h (by decide)) _ _ HCS.out (by simpa using HL6.out) ?_; intro w2 hc2 hg2)
          have HM := Lib.hid (HS.out.good (Nat.le_refl _) (by omega) HN0.out hc2.out hg2)
          have HNK2 := Lib.hid (show numK (stC L) ((5 : Int) + 1) = numF [] ((stC (L ++ [(5 : Int) + 1])).take 6) by rw [stC_snoc]; exact HNK.out)
          clear hc2 hg2 HCS HL6 HNC HNK HS c1 f1
          have hC6 := stC_len (L ++ [((5 : Nat) : Int) + 1])
          have hCle := stC_le (L ++ [((5 : Nat) : Int) + 1])
          rw [List.length_append, List.length_singleton] at hCle
          have HCnt := Lib.hid HM.out.cnt
          generalize stC (L ++ [((5 : Nat) : Int) + 1]) = C at hC6 hCle HCnt HNK2
          have HC6 := Lib.hid hC6
          have HCle := Lib.hid hCle
          clear hC6 hCle
          go_loopw [7, 33] (fun t i wi => ∃ (q : Nat) (X : ByteArray), q ≤ 6 ∧ i = .int .i64 q ∧ t = .string X ∧ Hid (X.data.toList = numF [] (C.take q)) ∧ X.size ≤ 22 * q ∧ Below w2.heap.size w2 wi) (fun _ i _ => 6 - (RowKit.intOf i).toNat)
          case atStart => exact ⟨0, _, Nat.zero_le _, rfl, rfl, Lib.hid rfl, Nat.le_refl _, Below.refl _ _⟩
          case round =>
            obtain ⟨q, X, hq, rfl, rfl, HX, hXs, hBi⟩ := hrel
            by_cases hql : q < 6
            · obtain ⟨n1, hn1, hn1le, c2⟩ : ∃ n1 : Nat, C[q]? = some n1 ∧ n1 ≤ 1001 ∧ wr.cell? ⟨w.heap.size, q, none⟩ = some (.int .i64 n1) := by
                have hc6 : q < C.length := by rw [HC6.out]; omega
                exact ⟨_, List.getElem?_eq_getElem hc6, by have := HCle.out _ (List.getElem_mem hc6); omega, ((HCnt.out.below hBi).cell q hc6).1⟩
              have HTi := Lib.hid (HT.out.under HLOW.out (HM.out.below.trans (hBi.mono HM.out.below.size)))
              have hst := Lib.hid (show numF [] (C.take (q + 1)) = if 0 < n1 then digs X.data.toList n1 else X.data.toList by
                obtain ⟨hc6, h9⟩ := List.getElem?_eq_some_iff.1 hn1
                rw [numF_take hc6, h9, HX.out])
              clear hn1
              by_cases hpos : 0 < n1
              · have b1 : decide (0 < n1) = true := by simp only [decide_eq_true_eq]; omega
                have hdl := digs_len (a := X.data.toList) (n := n1) (by omega)
                rw [← ba_size] at hdl
                have HX' : Hid ((⟨(digs X.data.toList n1).toArray⟩ : ByteArray).data.toList = numF [] (C.take (q + 1))) := by rw [hst.out, if_pos hpos]; exact rfl
                have hXs' : (⟨(digs X.data.toList n1).toArray⟩ : ByteArray).size ≤ 22 * (q + 1) := by rw [ba_size]; show (digs X.data.toList n1).length ≤ _; omega
                have cD := digits_any HTi.out X n1 (by omega) (by omega)
                generalize (⟨(digs X.data.toList n1).toArray⟩ : ByteArray) = Y at HX' hXs' cD
                clear hdl hpos hst
                go_wp2_with fail
                refine cD.mono ?_
                rintro e w3 ⟨rfl, hb3⟩
                clear cD
                go_wp2_with fail
                go_roundw
                case rel => exact ⟨q + 1, Y, by omega, by go_num, rfl, HX', hXs', hBi.trans (hb3.mono hBi.size)⟩
                case measure => simp only [RowKit.intOf]; omega
              · have b1 : decide (0 < n1) = false := by simp only [decide_eq_false_iff_not]; omega
                have HX' : Hid (X.data.toList = numF [] (C.take (q + 1))) := Lib.hid (by rw [hst.out, if_neg hpos])
                clear hpos hst
                go_wp2_with fail
                go_roundw
                case rel => exact ⟨q + 1, X, by omega, by go_num, rfl, HX', by omega, hBi⟩
                case measure => simp only [RowKit.intOf]; omega
            · obtain rfl : q = 6 := by omega
              have HXK := Lib.hid (HX.out.trans HNK2.out.symm)
              have HM2 := Lib.hid (HM.out.on hBi)
              have hba : w.heap.size ≤ (wr.alloc (.cells #[.string X] 9)).heap.size := by have := HM2.out.below.size; simp; omega
              clear HM HNK2 HX HCnt
              go_wp2_with (at_builtin; refine wpList_append_any rfl (.tmp 43) (.tmp 45) 23 rfl w.heap.size 9 i0 (.string ⟨#[]⟩) 1 16 Tryz.underlying23 HI0.out.1 HI0.out.2.1 HI0.out.2.2.1 HI0.out.2.2.2 rfl (by decide) out L.length ((texts (allN L)).map .string) rfl (HM2.out.row.alloc _) (some ⟨wr.heap.size, 0, none⟩) 1 1 [.string X] rfl rfl (fun h => by cases h) (news_at rfl _ _) (fun u hu => by rw [List.mem_singleton.1 hu]; rfl) hm1 hm2 hba ?_; intro v' w4 hown4 hgr4 hblk4; have HN := Lib.hid (HM2.out.next (X := X) HXK.out hown4 hgr4); clear hown4 hgr4 hblk4)
              go_roundw
              case rel => exact ⟨k + 1, _, by omega, by go_num, rfl, by rw [hnx.out]; exact HN.out⟩
              case measure => simp only [RowKit.intOf]; omega
        · have hsl := slice_from w.heap.size j (by omega)
          have hsh := slice_to w.heap.size j hj
          go_wp2_with (with_reducible refine wpList_clear_row rfl (.tmp 29) 22 rfl 3 (.int .i64 0) Tryz.underlying22 zeroInt rfl rfl _ _ _ rfl w.heap.size (j + 1) (fun _ => rfl) _ _ HCS.out HL6.out ?_; intro w2 hc2 hg2)
          have HM := Lib.hid (HS.out.good (Nat.le_refl _) (by omega) HN0.out hc2.out hg2)
          have HNK2 := Lib.hid (show numK (stC L) ((j : Int) + 1) = numF [] ((stC (L ++ [(j : Int) + 1])).take (j + 1)) by rw [stC_snoc]; exact HNK.out)
          clear hc2 hg2 HCS HL6 HNC HNK HS c1 f1
          have hC6 := stC_len (L ++ [((j : Nat) : Int) + 1])
          have hCle := stC_le (L ++ [((j : Nat) : Int) + 1])
          rw [List.length_append, List.length_singleton] at hCle
          have HCnt := Lib.hid HM.out.cnt
          generalize stC (L ++ [((j : Nat) : Int) + 1]) = C at hC6 hCle HCnt HNK2
          have HC6 := Lib.hid hC6
          have HCle := Lib.hid hCle
          clear hC6 hCle
          go_loopw [7, 33] (fun t i wi => ∃ (q : Nat) (X : ByteArray), q ≤ (j + 1) ∧ i = .int .i64 q ∧ t = .string X ∧ Hid (X.data.toList = numF [] (C.take q)) ∧ X.size ≤ 22 * q ∧ Below w2.heap.size w2 wi) (fun _ i _ => (j + 1) - (RowKit.intOf i).toNat)
          case atStart => exact ⟨0, _, Nat.zero_le _, rfl, rfl, Lib.hid rfl, Nat.le_refl _, Below.refl _ _⟩
          case round =>
            obtain ⟨q, X, hq, rfl, rfl, HX, hXs, hBi⟩ := hrel
            by_cases hql : q < (j + 1)
            · obtain ⟨n1, hn1, hn1le, c2⟩ : ∃ n1 : Nat, C[q]? = some n1 ∧ n1 ≤ 1001 ∧ wr.cell? ⟨w.heap.size, q, none⟩ = some (.int .i64 n1) := by
                have hc6 : q < C.length := by rw [HC6.out]; omega
                exact ⟨_, List.getElem?_eq_getElem hc6, by have := HCle.out _ (List.getElem_mem hc6); omega, ((HCnt.out.below hBi).cell q hc6).1⟩
              have HTi := Lib.hid (HT.out.under HLOW.out (HM.out.below.trans (hBi.mono HM.out.below.size)))
              have hst := Lib.hid (show numF [] (C.take (q + 1)) = if 0 < n1 then digs X.data.toList n1 else X.data.toList by
                obtain ⟨hc6, h9⟩ := List.getElem?_eq_some_iff.1 hn1
                rw [numF_take hc6, h9, HX.out])
              clear hn1
              by_cases hpos : 0 < n1
              · have b1 : decide (0 < n1) = true := by simp only [decide_eq_true_eq]; omega
                have hdl := digs_len (a := X.data.toList) (n := n1) (by omega)
                rw [← ba_size] at hdl
                have HX' : Hid ((⟨(digs X.data.toList n1).toArray⟩ : ByteArray).data.toList = numF [] (C.take (q + 1))) := by rw [hst.out, if_pos hpos]; exact rfl
                have hXs' : (⟨(digs X.data.toList n1).toArray⟩ : ByteArray).size ≤ 22 * (q + 1) := by rw [ba_size]; show (digs X.data.toList n1).length ≤ _; omega
                have cD := digits_any HTi.out X n1 (by omega) (by omega)
                generalize (⟨(digs X.data.toList n1).toArray⟩ : ByteArray) = Y at HX' hXs' cD
                clear hdl hpos hst
                go_wp2_with fail
                refine cD.mono ?_
                rintro e w3 ⟨rfl, hb3⟩
                clear cD
                go_wp2_with fail
                go_roundw
                case rel => exact ⟨q + 1, Y, by omega, by go_num, rfl, HX', hXs', hBi.trans (hb3.mono hBi.size)⟩
                case measure => simp only [RowKit.intOf]; omega
              · have b1 : decide (0 < n1) = false := by simp only [decide_eq_false_iff_not]; omega
                have HX' : Hid (X.data.toList = numF [] (C.take (q + 1))) := Lib.hid (by rw [hst.out, if_neg hpos])
                clear hpos hst
                go_wp2_with fail
                go_roundw
                case rel => exact ⟨q + 1, X, by omega, by go_num, rfl, HX', by omega, hBi⟩
                case measure => simp only [RowKit.intOf]; omega
            · obtain rfl : q = (j + 1) := by omega
              have HXK := Lib.hid (HX.out.trans HNK2.out.symm)
              have HM2 := Lib.hid (HM.out.on hBi)
              have hba : w.heap.size ≤ (wr.alloc (.cells #[.string X] 9)).heap.size := by have := HM2.out.below.size; simp; omega
              clear HM HNK2 HX HCnt
              go_wp2_with (at_builtin; refine wpList_append_any rfl (.tmp 43) (.tmp 45) 23 rfl w.heap.size 9 i0 (.string ⟨#[]⟩) 1 16 Tryz.underlying23 HI0.out.1 HI0.out.2.1 HI0.out.2.2.1 HI0.out.2.2.2 rfl (by decide) out L.length ((texts (allN L)).map .string) rfl (HM2.out.row.alloc _) (some ⟨wr.heap.size, 0, none⟩) 1 1 [.string X] rfl rfl (fun h => by cases h) (news_at rfl _ _) (fun u hu => by rw [List.mem_singleton.1 hu]; rfl) hm1 hm2 hba ?_; intro v' w4 hown4 hgr4 hblk4; have HN := Lib.hid (HM2.out.next (X := X) HXK.out hown4 hgr4); clear hown4 hgr4 hblk4)
              go_roundw
              case rel => exact ⟨k + 1, _, by omega, by go_num, rfl, by rw [hnx.out]; exact HN.out⟩
              case measure => simp only [RowKit.intOf]; omega
    · go_wp2_with fail
      go_ret
      have hk' : k = l.length := by omega
      subst hk'
      rw [List.take_length] at hS
      exact ⟨out, rfl, hS.row, hS.below⟩
end Go.Proofs.YtbblgnbafecdmaaGreatDoor
