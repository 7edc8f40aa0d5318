/- The paper on which HTML is written: a struct that holds a strings.Builder as its second field; what the builder's methods do there. -/
import Derived.Test.YtpabackkapgkpaaGreatDoorFrame
import Derived.Test.YtpabackkapgkpaaGreatDoorBuild
import Derived.Lib.FrozenHead2
import Derived.Lib.OthersKept
import Derived.RegionTactic
import Derived.ChangeAlike
namespace Go.Proofs.YtpabackkapgkpaaGreatDoor
open Go.RowKit Go.Lib

/-- a paper lies in block b: its writer, what its builder holds, its list of diags; p: the builder's own address, or nil -/
def PaperAt (B b : Nat) (wr p dg : Value) (l : List UInt8) (w : World) : Prop :=
  B ≤ b ∧ ∃ v, w.heap[b]? = some (.cells #[wr, p, v, dg] 74 (0, 0)) ∧ w.ownsRowF B 5 1 v l.length (Lib.byteCells l)
def IsPaper (B b : Nat) (wr dg : Value) (l : List UInt8) (w : World) : Prop :=
  PaperAt B b wr (.pointer none) dg l w ∨ PaperAt B b wr (.pointer (some ⟨b, 1, none⟩)) dg l w

theorem ownsF_ne {w : World} {B : Nat} {e T : TypeId} {v : Value} {n : Nat} {xs : List Value} {b : Nat} {cs : Array Value} {fr : Nat × Nat} (hown : w.ownsRowF B e 1 v n xs) (hb : w.heap[b]? = some (.cells cs T fr)) (hTe : T ≠ e) : v.ownBlock ≠ some b := by
  rcases hown.2 with ⟨rfl, _⟩ | ⟨g, cap, cur, fz, rfl, _, hg, _⟩
  · simp [Value.ownBlock]
  · intro h
    simp only [Value.ownBlock, Option.some.injEq] at h
    subst h
    rw [hg] at hb
    simp only [Option.some.injEq, Obj.cells.injEq] at hb
    exact hTe hb.2.1.symm
theorem ownsF_kept {w w' : World} {B : Nat} {e : TypeId} {v : Value} {n : Nat} {xs : List Value} (h : w.ownsRowF B e 1 v n xs) (hk : ∀ g, v.ownBlock = some g → w'.heap[g]? = w.heap[g]?) : w'.ownsRowF B e 1 v n xs := by
  refine ⟨h.1, ?_⟩
  rcases h.2 with hn | ⟨g, cap, cur, fz, rfl, hb, hgg, rest⟩
  · exact .inl hn
  · exact .inr ⟨g, cap, cur, fz, rfl, hb, (hk g rfl).trans hgg, rest⟩
theorem ownsF_lt {w : World} {B : Nat} {e : TypeId} {v : Value} {n : Nat} {xs : List Value} (h : w.ownsRowF B e 1 v n xs) : ∀ g, v.ownBlock = some g → B ≤ g ∧ g < w.heap.size := by
  intro g hg
  rcases h.2 with ⟨rfl, _⟩ | ⟨g', cap, cur, fz, rfl, hb, hgg, _⟩
  · simp [Value.ownBlock] at hg
  · simp [Value.ownBlock] at hg
    subst hg
    exact ⟨hb, (Array.getElem?_eq_some_iff.1 hgg).1⟩

theorem PaperAt.lt {B b : Nat} {wr p dg : Value} {l : List UInt8} {w : World} (h : PaperAt B b wr p dg l w) : b < w.heap.size := by
  obtain ⟨-, v, hb, -⟩ := h
  exact (Array.getElem?_eq_some_iff.1 hb).1
theorem PaperAt.shape {B b : Nat} {wr p dg : Value} {l : List UInt8} {w : World} (h : PaperAt B b wr p dg l w) : w.shape? b = some (74, 4) := by
  obtain ⟨-, v, hb, -⟩ := h
  simp [World.shape?, hb]
theorem PaperAt.cell1 {B b : Nat} {wr p dg : Value} {l : List UInt8} {w : World} (h : PaperAt B b wr p dg l w) : w.cell? ⟨b, 1, none⟩ = some p := by
  obtain ⟨-, v, hb, -⟩ := h
  simp [World.cell?, hb]
theorem PaperAt.cell0 {B b : Nat} {wr p dg : Value} {l : List UInt8} {w : World} (h : PaperAt B b wr p dg l w) : w.cell? ⟨b, 0, none⟩ = some wr := by
  obtain ⟨-, v, hb, -⟩ := h
  simp [World.cell?, hb]
theorem PaperAt.cell3 {B b : Nat} {wr p dg : Value} {l : List UInt8} {w : World} (h : PaperAt B b wr p dg l w) : w.cell? ⟨b, 3, none⟩ = some dg := by
  obtain ⟨-, v, hb, -⟩ := h
  simp [World.cell?, hb]
theorem PaperAt.frozen {B b : Nat} {wr p dg : Value} {l : List UInt8} {w : World} (h : PaperAt B b wr p dg l w) (j : Nat) : w.frozen? ⟨b, j, none⟩ = false := by
  obtain ⟨-, v, hb, -⟩ := h
  exact frozen_of_row w b j _ _ hb
theorem PaperAt.used {B b : Nat} {wr p dg : Value} {l : List UInt8} {w : World} (h : PaperAt B b wr p dg l w) (q : Value) : PaperAt B b wr q dg l (w.setCell ⟨b, 1, none⟩ q) := by
  obtain ⟨hB, v, hb, hown⟩ := h
  refine ⟨hB, v, by rw [heap_setCell_same w b 1 _ _ _ hb]; rfl, ownsF_kept hown (fun g hg => Below.heap_setCell w ⟨b, 1, none⟩ q g (fun e => ownsF_ne hown hb (by decide) (by rw [hg, e])))⟩
theorem PaperAt.put {B b : Nat} {wr p dg v v' : Value} {l : List UInt8} {w : World} (hB : B ≤ b) (hb : w.heap[b]? = some (.cells #[wr, p, v, dg] 74 (0, 0))) (hown : w.ownsRowF B 5 1 v' l.length (Lib.byteCells l)) : PaperAt B b wr p dg l (w.setCell ⟨b, 2, none⟩ v') :=
  ⟨hB, v', by rw [heap_setCell_same w b 2 _ _ _ hb]; rfl, ownsF_kept hown (fun g hg => Below.heap_setCell w ⟨b, 2, none⟩ v' g (fun e => ownsF_ne hown hb (by decide) (by rw [hg, e])))⟩
theorem PaperAt.kept {B b : Nat} {wr p dg : Value} {l : List UInt8} {w w' : World} (h : PaperAt B b wr p dg l w) (hk : ∀ k, B ≤ k → k < w.heap.size → (k = b ∨ ∃ c fz, w.heap[k]? = some (.cells c 5 fz)) → w'.heap[k]? = w.heap[k]?) : PaperAt B b wr p dg l w' := by
  have hlt := h.lt
  obtain ⟨hB, v, hb, hown⟩ := h
  exact ⟨hB, v, (hk b hB hlt (.inl rfl)).trans hb, ownsF_kept hown (fun g hg => hk g (ownsF_lt hown g hg).1 (ownsF_lt hown g hg).2 (.inr (Lib.ownsRowF_kind hown g hg)))⟩

theorem size_builder : (Tryz.prog.info? 72).map (·.size) = some 2 := by kernel_rfl
theorem info_byte : (Tryz.prog.info? 5).map (fun i => (i.zero, i.size, i.bytes)) = some (some (.int .u8 0), 1, 1) := by kernel_rfl
theorem lies_builder : liesAt Tryz.prog Tryz.prog.depth 74 (4 / Tryz.prog.cellsOf 74) 1 72 1 = true := by kernel_rfl

set_option maxHeartbeats 1000000 in
set_option maxRecDepth 100000 in
theorem check_fresh (b : Nat) (w : World) (h0 : w.cell? ⟨b, 1, none⟩ = some (.pointer none)) (hsh : w.shape? b = some (74, 4)) (hfz : w.frozen? ⟨b, 1, none⟩ = false) :
    Calls Tryz.prog 52 #[.pointer (some ⟨b, 1, none⟩)] w fun e w' => e = .returned (.tuple #[]) ∧ w' = w.setCell ⟨b, 1, none⟩ (.pointer (some ⟨b, 1, none⟩)) := by
  obtain ⟨j, hj, hjs⟩ := Option.map_eq_some_iff.1 size_builder
  go_enter Tryz.func52, Tryz.ntmps52
  go_wp2_with fail
  rw [Lib.run_to_unsafe w ⟨b, 1, none⟩ Tryz.underlying70 Tryz.underlying106 hj (by rw [hjs]; decide) hsh (by show 1 < 4; decide)]
  simp only [Result.andThen]
  rw [Oper.upon_value]
  go_wp2_with fail
  rw [run_callFunc_extern Tryz.func67 (by kernel_rfl) (by kernel_rfl) (by kernel_rfl) (e := Extern.AbiNoEscape.same) (by kernel_rfl)]
  rw [Lib.run_noEscape]
  simp only [Result.andThen]
  rw [Oper.upon_value]
  go_wp2_with fail
  rw [Lib.run_from_unsafe w ⟨b, 1, none⟩ Tryz.underlying106 Tryz.underlying70 hj hsh lies_builder]
  simp only [Result.andThen]
  rw [Oper.upon_value]
  go_wp2_with fail
  go_end0
  exact ⟨rfl, rfl⟩
set_option maxHeartbeats 1000000 in
set_option maxRecDepth 100000 in
theorem check_used (b : Nat) (w : World) (h0 : w.cell? ⟨b, 1, none⟩ = some (.pointer (some ⟨b, 1, none⟩))) :
    Calls Tryz.prog 52 #[.pointer (some ⟨b, 1, none⟩)] w fun e w' => e = .returned (.tuple #[]) ∧ w' = w := by
  obtain ⟨j, hj, hjs⟩ := Option.map_eq_some_iff.1 size_builder
  have hne := Lib.run_neq_ptr_same (P := Tryz.prog) w (tp := 70) ⟨b, 1, none⟩ Tryz.underlying70 hj
  go_enter Tryz.func52, Tryz.ntmps52
  go_wp2_with fail
  go_end0
  exact ⟨rfl, rfl⟩

/-- behind a write: the paper, the world below, what else lies there -/
structure Penned (B b : Nat) (wr dg : Value) (l : List UInt8) (w w' : World) : Prop where
  paper : PaperAt B b wr (.pointer (some ⟨b, 1, none⟩)) dg l w'
  below : Below B w w'
  kept : Lib.OthersKept 5 (some b) w w'

theorem check_any {B b : Nat} {wr dg : Value} {l : List UInt8} {w : World} (h : IsPaper B b wr dg l w) :
    Calls Tryz.prog 52 #[.pointer (some ⟨b, 1, none⟩)] w fun e w' => e = .returned (.tuple #[]) ∧ Penned B b wr dg l w w' := by
  rcases h with h | h
  · refine (check_fresh b w h.cell1 h.shape (h.frozen 1)).mono ?_
    rintro e w' ⟨rfl, rfl⟩
    exact ⟨rfl, h.used _, (Below.refl B w).setCell (p := ⟨b, 1, none⟩) h.1 _, (Lib.OthersKept.refl _ _ w).setCell ⟨b, 1, none⟩ rfl _⟩
  · refine (check_used b w h.cell1).mono ?_
    rintro e w' ⟨rfl, rfl⟩
    exact ⟨rfl, h, Below.refl B _, Lib.OthersKept.refl _ _ _⟩

set_option maxHeartbeats 2000000 in
set_option maxRecDepth 100000 in
theorem pen_str {B b : Nat} {wr dg : Value} {l t : List UInt8} {X : ByteArray} {w : World} (h : IsPaper B b wr dg l w) (hBw : B ≤ w.heap.size) (hX : X.data.toList = t) (hlen : l.length + t.length ≤ 140737488355328) :
    Calls Tryz.prog 33 #[.pointer (some ⟨b, 1, none⟩), .string X] w fun e w' => e = .returned (.tuple #[.int .i64 X.size, .nilIface]) ∧ Penned B b wr dg (l ++ t) w w' := by
  obtain ⟨i0, hi, hz0, hz1, hz2⟩ := info_parts info_byte
  have HI0 : Hid (Tryz.prog.info? 5 = some i0 ∧ i0.zero = some (.int .u8 0) ∧ i0.size = 1 ∧ i0.bytes = 1) := ⟨hi, hz0, hz1, hz2⟩
  have hXs : X.size = t.length := by rw [ba_size, hX]
  have HX := Lib.hid (show Lib.strCells X = Lib.byteCells t from strCells_of hX)
  have HXS := Lib.hid hXs
  clear hi hz0 hz1 hz2 hX hXs
  go_enter Tryz.func33, Tryz.ntmps33
  go_wp2_with fail
  refine (check_any h).mono ?_
  rintro e w1 ⟨rfl, ⟨⟨hB, v, hbk, hown⟩, hb1, hk1⟩⟩
  have hne := ownsF_ne hown hbk (by decide)
  have c1 : w1.cell? ⟨b, 1, none⟩ = some (.pointer (some ⟨b, 1, none⟩)) := by rw [Lib.cell_of_heap hbk]; rfl
  have c2 : w1.cell? ⟨b, 2, none⟩ = some v := by rw [Lib.cell_of_heap hbk]; rfl
  have HB1 := Lib.hid hb1
  have HK1 := Lib.hid hk1
  have HOWN := Lib.hid hown
  have HBK := Lib.hid hbk
  clear hb1 hk1 hown hbk h
  go_wp2_with (at_builtin; refine Lib.wpList_append_own_stringF _ rfl _ _ 62 9 rfl B 5 i0 Tryz.underlying62 Tryz.underlying9 HI0.out.1 HI0.out.2.1 HI0.out.2.2.1 HI0.out.2.2.2 _ _ _ rfl HOWN.out X rfl ?c3 ?c4 ?c5 ?_)
  case c3 => rw [HXS.out]; unfold maxLen; omega
  case c4 => rw [HXS.out]; omega
  case c5 => have := HB1.out.size; omega
  intro v' w2 hown' hgrow _
  have hlt : b < w1.heap.size := (Array.getElem?_eq_some_iff.1 HBK.out).1
  have hb2 : w2.heap[b]? = some (.cells #[wr, .pointer (some ⟨b, 1, none⟩), v, dg] 74 (0, 0)) := by
    rw [hgrow.block b hlt (fun e => hne e.symm)]
    exact HBK.out
  have d2 : w2.cell? ⟨b, 2, none⟩ = some v := by rw [Lib.cell_of_heap hb2]; rfl
  have f2 : w2.frozen? ⟨b, 2, none⟩ = false := Lib.frozen_of_heap hb2 2
  have HB2 := Lib.hid hb2
  have HO := Lib.hid hown'
  have HG := Lib.hid hgrow
  obtain ⟨ao, n', cap, rfl⟩ : ∃ ao n' cap, v' = .slice ao n' cap := by
    rcases hown'.2 with ⟨hv, _⟩ | ⟨g, cap, cur, fz, hv, _⟩
    · exact ⟨_, _, _, hv⟩
    · exact ⟨_, _, _, hv⟩
  clear hb2 hown' hgrow
  go_wp2_with fail
  go_ret2
  refine ⟨rfl, ?_, ?_, (HK1.out.grown HG.out (Lib.ownsRowF_kind HOWN.out)).setCell ⟨b, 2, none⟩ rfl _⟩
  · exact PaperAt.put hB HB2.out (by rw [Lib.byteCells_append, ← HX.out, List.length_append, ← HXS.out]; exact HO.out)
  · exact (HB1.out.grown HG.out (by have := HB1.out.size; omega) (fun k hk => (HOWN.out.lt k hk).1)).setCell (p := ⟨b, 2, none⟩) hB _

set_option maxHeartbeats 2000000 in
set_option maxRecDepth 100000 in
theorem pen_byte {B b : Nat} {wr dg : Value} {l : List UInt8} {c : UInt8} {w : World} (h : IsPaper B b wr dg l w) (hBw : B ≤ w.heap.size) (hlen : l.length + 1 ≤ 140737488355328) :
    Calls Tryz.prog 53 #[.pointer (some ⟨b, 1, none⟩), .int .u8 c.toNat] w fun e w' => e = .returned .nilIface ∧ Penned B b wr dg (l ++ [c]) w w' := by
  obtain ⟨i0, hi, hz0, hz1, hz2⟩ := info_parts info_byte
  have HI0 : Hid (Tryz.prog.info? 5 = some i0 ∧ i0.zero = some (.int .u8 0) ∧ i0.size = 1 ∧ i0.bytes = 1) := ⟨hi, hz0, hz1, hz2⟩
  clear hi hz0 hz1 hz2
  go_enter Tryz.func53, Tryz.ntmps53
  go_wp2_with fail
  refine (check_any h).mono ?_
  rintro e w1 ⟨rfl, ⟨⟨hB, v, hbk, hown⟩, hb1, hk1⟩⟩
  have hne := ownsF_ne hown hbk (by decide)
  have c1 : w1.cell? ⟨b, 1, none⟩ = some (.pointer (some ⟨b, 1, none⟩)) := by rw [Lib.cell_of_heap hbk]; rfl
  have c2 : w1.cell? ⟨b, 2, none⟩ = some v := by rw [Lib.cell_of_heap hbk]; rfl
  have hlt : b < w1.heap.size := (Array.getElem?_eq_some_iff.1 hbk).1
  have HB1 := Lib.hid hb1
  have HK1 := Lib.hid hk1
  have HOWN := Lib.hid hown
  have HBK := Lib.hid hbk
  clear hb1 hk1 hown hbk h
  go_wp2_with (at_builtin; refine wpList_append_ownF _ rfl _ _ 62 rfl B 5 i0 (.int .u8 0) 1 1 Tryz.underlying62 HI0.out.1 HI0.out.2.1 HI0.out.2.2.1 HI0.out.2.2.2 rfl (by decide) _ _ _ rfl (HOWN.out.alloc _) ⟨w1.heap.size, 0, none⟩ 1 1 [.int .u8 c.toNat] rfl rfl ?c1 ?c2 ?c3 ?c4 ?c5 ?_)
  case c1 =>
    intro j u hj
    match j, hj with
    | 0, hj => simp at hj; subst hj; simp [Addr.add]
  case c2 => intro u hu; simp at hu; subst hu; rfl
  case c3 => unfold maxLen; omega
  case c4 => omega
  case c5 => have := HB1.out.size; simp; omega
  intro v' w2 hown' hgrow _
  have hb2 : w2.heap[b]? = some (.cells #[wr, .pointer (some ⟨b, 1, none⟩), v, dg] 74 (0, 0)) := by
    rw [hgrow.block b (by simp; omega) (fun e => hne e.symm), Lib.alloc_old w1 _ b hlt]
    exact HBK.out
  have d2 : w2.cell? ⟨b, 2, none⟩ = some v := by rw [Lib.cell_of_heap hb2]; rfl
  have f2 : w2.frozen? ⟨b, 2, none⟩ = false := Lib.frozen_of_heap hb2 2
  have HB2 := Lib.hid hb2
  have HO := Lib.hid hown'
  have HG := Lib.hid hgrow
  obtain ⟨ao, n', cap, rfl⟩ : ∃ ao n' cap, v' = .slice ao n' cap := by
    rcases hown'.2 with ⟨hv, _⟩ | ⟨g, cap, cur, fz, hv, _⟩
    · exact ⟨_, _, _, hv⟩
    · exact ⟨_, _, _, hv⟩
  clear hb2 hown' hgrow
  go_wp2_with fail
  go_ret
  refine ⟨rfl, ?_, ?_, ((HK1.out.alloc _).grown HG.out (Lib.ownsRowF_kind (HOWN.out.alloc _))).setCell ⟨b, 2, none⟩ rfl _⟩
  · exact PaperAt.put hB HB2.out (by rw [Lib.byteCells_append, List.length_append]; exact HO.out)
  · exact ((HB1.out.alloc (by have := HB1.out.size; omega) _).grown HG.out (by have := HB1.out.size; simp; omega) (fun k hk => (HOWN.out.lt k hk).1)).setCell (p := ⟨b, 2, none⟩) hB _
end Go.Proofs.YtpabackkapgkpaaGreatDoor
