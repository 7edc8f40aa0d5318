/- (*html.paper).cross: the walk. -/
import Derived.Test.YtpabackkapgkpaaGreatDoorHNode
import Derived.Lib.QuietBelow
namespace Go.Proofs.YtpabackkapgkpaaGreatDoor
open Go.RowKit Go.Lib

theorem info_diag : (Tryz.prog.info? 123).map (fun i => (i.zero, i.size, i.bytes)) = some (some (.agg #[.int .i64 0, .string ⟨#[]⟩]), 2, 24) := by kernel_rfl
theorem news_two (w : World) (u v : Value) (E : TypeId) : ∀ ad, some (⟨w.heap.size, 0, none⟩ : Addr) = some ad → ∀ j x, [u, v][j]? = some x → (w.alloc (.cells #[u, v] E)).cell? (ad.add j) = some x := by
  intro ad had j x hx
  cases had
  match j with
  | 0 => simp at hx; subst hx; simp [Addr.add]
  | 1 => simp at hx; subst hx; rw [show (⟨w.heap.size, 0, none⟩ : Addr).add 1 = ⟨w.heap.size, 1, none⟩ from rfl, Lib.cell_of_heap (heap_alloc_new w _)]; rfl
  | j + 2 => simp at hx
theorem news_two_at {w : World} {m : Nat} (hm : w.heap.size = m) (u v : Value) (E : TypeId) : ∀ ad, some (⟨m, 0, none⟩ : Addr) = some ad → ∀ j x, [u, v][j]? = some x → (w.alloc (.cells #[u, v] E)).cell? (ad.add j) = some x := by
  subst hm; exact news_two w u v E
theorem dgCells_append (l : List ByteArray) (x : ByteArray) : dgCells (l ++ [x]) = dgCells l ++ [.int .i64 3, .string x] := by unfold dgCells; simp

/-- the list of what an author should know has grown -/
theorem PSt.diag {w0 w1 : World} {Fn : Nat → Prop} {v9 : Held} {b : Nat} {wr : Value} {nb : Nat} {s : HSt} {w w2 : World} {dg v' : Value} {nm : ByteArray} {o : Obj} (h : PSt w0 w1 Fn v9 b wr nb s w) (hp : IsPaper w1.heap.size b wr dg s.out w) (hd : w.ownsRow w1.heap.size 123 2 dg s.dg.length (dgCells s.dg))
    (hown : w2.ownsRow w1.heap.size 123 2 v' (s.dg.length + 1) (dgCells s.dg ++ [.int .i64 3, .string nm])) (hgr : (w.alloc o).grownBy w2 dg.ownBlock) :
    PSt w0 w1 Fn v9 b wr nb { s with dg := s.dg ++ [nm] } (w2.setCell ⟨b, 3, none⟩ v') := by
  obtain ⟨F', hn, hF⟩ := h.notes
  have hsz := h.frame.size
  have hbw : Below w1.heap.size w w2 := ((Below.refl _ w).alloc hsz o).grown hgr (by simp; omega) (fun k hk => (hd.lt k hk).1)
  have hB := hp.lt.1
  have hbs : Below w1.heap.size w (w2.setCell ⟨b, 3, none⟩ v') := hbw.setCell (p := ⟨b, 3, none⟩) hB v'
  have hk : ∀ k cs T fz, w.heap[k]? = some (.cells cs T fz) → T ≠ 123 → k ≠ b → (w2.setCell ⟨b, 3, none⟩ v').heap[k]? = w.heap[k]? := by
    intro k cs T fz hc hT hkb
    have hlt := (Array.getElem?_eq_some_iff.1 hc).1
    rw [Below.heap_setCell _ _ _ _ hkb, hgr.block k (by simp; omega) (fun e => by
      obtain ⟨-, cur, h9⟩ := row_block hd e.symm
      rw [hc] at h9; cases h9; exact hT rfl), Below.heap_alloc _ _ _ hlt]
  have hrow : ∀ {base : Nat} {e : TypeId} {size : Nat} {v : Value} {n : Nat} {xs : List Value}, w.ownsRow base e size v n xs → e ≠ 123 → e ≠ 74 → (w2.setCell ⟨b, 3, none⟩ v').ownsRow base e size v n xs := by
    intro base e size v n xs hr he1 he2
    refine row_kept hr fun g hg => ?_
    obtain ⟨-, cur, hc⟩ := row_block hr hg
    obtain ⟨cs, hb⟩ := hp.block
    exact hk g _ _ _ hc he1 (fun e9 => by subst e9; rw [hb] at hc; cases hc; exact he2 rfl)
  refine ⟨h.below.trans (hbs.mono h.le), h.le, ⟨hbs.os.trans h.frame.os, hbs.tape.trans h.frame.tape, hbs.output.trans h.frame.output, Nat.le_trans hsz hbs.size, fun k hk hF => (hbs.block k hk).trans (h.frame.block k hk hF)⟩, ⟨v', ?_, ?_⟩, ⟨F', ?_, hF⟩, hrow h.stk (by decide) (by decide), fun g o hk9 => by
    obtain ⟨h1, cs9, T, rfl, n1, n2, n3, n4⟩ := h.ctr g o hk9
    obtain ⟨cs, hb⟩ := hp.block
    exact ⟨(hk g _ _ _ h1 n3 (fun e => by subst e; rw [hb] at h1; cases h1; exact n2 rfl)).trans h1, cs9, T, rfl, n1, n2, n3, n4⟩⟩
  · have hpp : ∀ p, PaperAt w1.heap.size b wr p dg s.out w → PaperAt w1.heap.size b wr p v' s.out (w2.setCell ⟨b, 3, none⟩ v') := by
      intro p hp9
      obtain ⟨-, v, hb, hw⟩ := hp9
      have hblt := (Array.getElem?_eq_some_iff.1 hb).1
      have hb2 : w2.heap[b]? = some (.cells #[wr, p, v, dg] 74 (0, 0)) := by
        rw [hgr.block b (by simp; omega) (fun e => by
          obtain ⟨-, cur, h9⟩ := row_block hd e.symm
          rw [hb] at h9; cases h9), Below.heap_alloc _ _ _ hblt]
        exact hb
      refine ⟨hB, v, by rw [heap_setCell_same w2 b 3 _ _ _ hb2]; rfl, ownsF_kept hw fun g hg => ?_⟩
      obtain ⟨cs, fz, hc⟩ := Lib.ownsRowF_kind hw g hg
      exact hk g _ _ _ hc (by decide) (fun e => by subst e; rw [hb] at hc; cases hc)
    rcases hp with hp | hp
    · exact .inl (hpp _ hp)
    · exact .inr (hpp _ hp)
  · have hn9 : v'.ownBlock ≠ some b := by
      obtain ⟨cs, hb⟩ := hp.block
      have hblt := (Array.getElem?_eq_some_iff.1 hb).1
      have hb2 : w2.heap[b]? = some (.cells cs 74 (0, 0)) := by
        rw [hgr.block b (by simp; omega) (fun e => by
          obtain ⟨-, cur, h9⟩ := row_block hd e.symm
          rw [hb] at h9; cases h9), Below.heap_alloc _ _ _ hblt]
        exact hb
      exact row_not hown hb2 (by decide)
    have e : (s.dg ++ [nm]).length = s.dg.length + 1 := by simp
    show (w2.setCell ⟨b, 3, none⟩ v').ownsRow _ _ _ v' (s.dg ++ [nm]).length (dgCells (s.dg ++ [nm]))
    rw [e, dgCells_append]
    exact row_kept hown fun g hg => Below.heap_setCell _ _ _ _ (fun e9 => hn9 (by rw [hg, e9]))
  · obtain ⟨hg, hl, v1, v2, hnb, h1, h2, hF'⟩ := hn
    obtain ⟨cs, hb⟩ := hp.block
    exact ⟨hg, hl, v1, v2, (hk nb _ _ _ hnb (by decide) (fun e => by subst e; rw [hb] at hnb; cases hnb)).trans hnb, hrow h1 (by decide) (by decide), hrow h2 (by decide) (by decide), hF'⟩

/-- the list's field, behind the append -/
theorem diag_cells {w w2 : World} {B b : Nat} {wr dg : Value} {l : List UInt8} {n : Nat} {xs : List Value} {o : Obj} (hp : IsPaper B b wr dg l w) (hd : w.ownsRow B 123 2 dg n xs) (hgr : (w.alloc o).grownBy w2 dg.ownBlock) :
    w2.cell? ⟨b, 3, none⟩ = some dg ∧ w2.frozen? ⟨b, 3, none⟩ = false := by
  have hlt := hp.lt.2
  obtain ⟨cs, hb⟩ := hp.block
  have e : w2.heap[b]? = w.heap[b]? := by
    rw [hgr.block b (by simp; omega) (fun e => by
      obtain ⟨-, cur, h9⟩ := row_block hd e.symm
      rw [hb] at h9; cases h9), Below.heap_alloc _ _ _ hlt]
  exact ⟨(World.cell?_of_block (a := ⟨b, 3, none⟩) e).trans hp.cell3, (World.frozen?_of_block (a := ⟨b, 3, none⟩) e).trans (frozen_paper hp 3)⟩
theorem row_slice {w : World} {base : Nat} {e : TypeId} {size : Nat} {v : Value} {n : Nat} {xs : List Value} (h : w.ownsRow base e size v n xs) : ∃ a cap, v = .slice a n cap := by
  rcases h.2 with ⟨rfl, h0⟩ | ⟨g, cap, cur, rfl, _⟩
  · rw [h0]; exact ⟨_, _, rfl⟩
  · exact ⟨_, _, rfl⟩
/-- a cell, in whatever world stands behind -/
theorem cells_on {w : World} {a : Addr} {v : Value} (h : w.cell? a = some v) : ∀ d os, (Sort.grow (redrawn w d) os).cell? a = some v := fun d os => cell_regrown h d os

set_option maxHeartbeats 4000000 in
set_option maxRecDepth 100000 in
theorem cross_any {w0 w1 : World} {Fn : Nat → Prop} {v9 : Held} {b wb nb N : Nat} {c : Cfg} {s : HSt} {w : World} {nm X : ByteArray} (h : PSt w0 w1 Fn v9 b (.pointer (some ⟨wb, 0, none⟩)) nb s w) (hw : WriterAt w1 Fn c wb nb) (hf : Fits (N + 1) s) (hc : c.Small) (hn : nm.size ≤ 100000)
    (hX : X.data.toList = crossL c nm) :
    Calls Tryz.prog 64 #[.pointer (some ⟨b, 0, none⟩), .string nm] w fun e w' => e = .returned (.string X) ∧ PSt w0 w1 Fn v9 b (.pointer (some ⟨wb, 0, none⟩)) nb (if (findSec nm c.secs).2 = true then s else { s with dg := s.dg ++ [nm] }) w' := by
  obtain ⟨vS, hcw, hS⟩ := h.writer hw
  obtain ⟨dg, hp, hd⟩ := h.paper
  have c0 := hp.cell0
  have c3 := hp.cell3
  obtain ⟨k0, -, -, k5, -⟩ := writer_cells hcw
  have hwlt := (Array.getElem?_eq_some_iff.1 hcw).1
  have hblt := hp.lt.2
  have H := Lib.hid h
  have HX := Lib.hid hX
  have cF := find_any nm vS c.secs w hS
  cases hfo : (findSec nm c.secs).2 with
  | true =>
    obtain ⟨hm, ha⟩ := findSec_small hfo
    have hsm := callSec_size (n := c.number) (hc _ hm)
    have has : (findSec nm c.secs).1.anchor.size ≤ 100000 := by rw [ha]; exact hn
    unfold crossL at HX
    rw [hfo] at HX cF
    simp only [if_true] at HX ⊢
    generalize (findSec nm c.secs).1 = sc at *
    obtain ⟨C, hC⟩ : ∃ Y : ByteArray, Y = callSec sc c.number := ⟨_, rfl⟩
    rw [← hC] at hsm HX
    have ccl := fun w => call_any sc c.number w
    rw [← hC] at ccl
    obtain ⟨E, hE⟩ : ∃ Y : ByteArray, Y.data.toList = escL C.data.toList := ⟨_, ba_mk _⟩
    have hEs : E.size ≤ 6600000 := by
      have := escL_length C.data.toList
      rw [← ba_size] at this
      rw [ba_size, hE]; omega
    have HE := Lib.hid hE
    obtain ⟨lv, no, an, tx⟩ := sc
    simp only [Sec.val] at cF ccl has HX
    clear h hX hfo hm ha hC hE hS hp hd hcw
    generalize c.number = cn at *
    go_enter Tryz.func64, Tryz.ntmps64
    go_wp2_with fail
    refine cF.mono ?_
    rintro e w2 ⟨rfl, h2⟩
    have d0 := (h2.cell (p := ⟨b, 0, none⟩) hblt).trans c0
    have dk := (h2.cell (p := ⟨wb, 0, none⟩) hwlt).trans k0
    have hs2 := h2.size
    have H2 := Lib.hid h2
    clear cF c0 c3 k0 k5 h2
    go_upto_region 5 with fail
    have HB3 := Lib.hid ((Below.refl w2.heap.size w2).alloc (Nat.le_refl _) (.cells #[.int .i64 lv, .string no, .string an, .string tx] 29))
    have e0 := (HB3.out.cell (p := ⟨b, 0, none⟩) (by show b < w2.heap.size; omega)).trans d0
    have ek := (HB3.out.cell (p := ⟨wb, 0, none⟩) (by show wb < w2.heap.size; omega)).trans dk
    obtain ⟨q0, q1, q2, q3, -⟩ := block4 (heap_alloc_new w2 (.cells #[.int .i64 lv, .string no, .string an, .string tx] 29))
    generalize hw3 : w2.alloc (.cells #[.int .i64 lv, .string no, .string an, .string tx] 29) = w3 at *
    replace hw3 := Lib.hid hw3
    replace e0 := cells_on e0
    replace ek := cells_on ek
    replace q0 := cells_on q0
    replace q1 := cells_on q1
    replace q2 := cells_on q2
    replace q3 := cells_on q3
    have cc1 : ∀ d os, Calls Tryz.prog 77 #[.agg #[.int .i64 lv, .string no, .string an, .string tx], .bool cn] (Sort.grow (redrawn w3 d) os) fun e w'' => e = .returned (.string C) ∧ ∃ p : Regrown, w'' = Sort.grow (redrawn w3 p.d) p.os := fun d os => Calls.regrown_of (ccl _)
    have cc2 : ∀ d os, Calls Tryz.prog 18 #[.string C] (Sort.grow (redrawn w3 d) os) fun e w'' => e = .returned (.string E) ∧ ∃ p : Regrown, w'' = Sort.grow (redrawn w3 p.d) p.os := fun d os => Calls.regrown_of (Esc_lit (w0 := Sort.grow (redrawn w3 d) os) HE.out.symm (by omega) (Below.refl _ _))
    clear ccl
    refine wp_region_quiet_below (by kernel_rfl) (by kernel_rfl) ?_
    repeat (first | quiet_step (first | exact cc1 _ _ | exact cc2 _ _) | (refine wpQuiet_step (fun K hK => ?_); go_simp; apply Exists.intro; refine ⟨fun _ => ?_, hK _ ?_⟩; (rw [if_neg (by omega)]; exact ⟨rfl, rfl⟩); clear hK K))
    refine wpQuiet_nil ?_
    intro _ hw'
    obtain ⟨⟨dq, osq⟩, hw''⟩ := hw'
    subst hw''
    have HBq := Lib.hid (HB3.out.trans ((below_regrown w3 dq osq).mono HB3.out.size))
    go_wp2_with fail
    go_ret
    refine ⟨ret_string (ba_eq ?_), (H.out.on H2.out).on HBq.out⟩
    simp only [ba_append, HE.out, HX.out]
    try simp [List.append_assoc]
  | false =>
    unfold crossL at HX
    rw [hfo] at HX cF
    rw [if_neg (by decide)] at HX ⊢
    generalize (findSec nm c.secs).1 = sc at *
    obtain ⟨lv, no, an, tx⟩ := sc
    simp only [Sec.val] at cF
    have hns : (⟨#[91, 35]⟩ ++ nm ++ ⟨#[93]⟩ : ByteArray).size ≤ 2000000 := by
      rw [ba_size, ba_append, ba_append]; simp only [List.length_append]; rw [ba_size] at hn; show 2 + nm.data.toList.length + 1 ≤ 2000000; omega
    have hdl := hf.dgs
    have HE := Lib.hid (show escL (⟨#[91, 35]⟩ ++ nm ++ ⟨#[93]⟩ : ByteArray).data.toList = X.data.toList by rw [HX.out]; simp)
    obtain ⟨i0, hi, hz0, hz1, hz2⟩ := info_parts info_diag
    have HI0 : Hid (Tryz.prog.info? 123 = some i0 ∧ i0.zero = some (.agg #[.int .i64 0, .string ⟨#[]⟩]) ∧ i0.size = 2 ∧ i0.bytes = 24) := ⟨hi, hz0, hz1, hz2⟩
    have hbsz := h.frame.size
    clear hX hfo hS hcw h hw hf hc hi hz0 hz1 hz2 hp hd
    go_enter Tryz.func64, Tryz.ntmps64
    go_wp2_with fail
    refine cF.mono ?_
    rintro e w2 ⟨rfl, h2⟩
    have hs2 := h2.size
    have h3 : Below w.heap.size w (w2.alloc (.cells #[.int .i64 lv, .string no, .string an, .string tx] 29)) := h2.alloc hs2 _
    obtain ⟨w3, hw3⟩ : ∃ w3, w3 = w2.alloc (.cells #[.int .i64 lv, .string no, .string an, .string tx] 29) := ⟨_, rfl⟩
    rw [← hw3] at h3
    have H3 := Lib.hid (H.out.on h3)
    obtain ⟨dg3, hp3, hd3⟩ := H3.out.paper
    have d0 := hp3.cell0
    have d3 := hp3.cell3
    have df := frozen_paper hp3 3
    have hb3 := hp3.lt.2
    obtain ⟨a3, cap3, hdv⟩ : ∃ a cap, dg3 = .slice a s.dg.length cap := by
      rcases hd3.2 with ⟨rfl, h0⟩ | ⟨g, cap, cur, rfl, _⟩
      · rw [h0]; exact ⟨_, _, rfl⟩
      · exact ⟨_, _, rfl⟩
    subst hdv
    have HP3 := Lib.hid hp3
    have HD3 := Lib.hid hd3
    clear cF h2 hp3 hd3 c0 c3 h3
    subst hw3
    have cE : ∀ w : World, Calls Tryz.prog 18 #[.string (⟨#[91, 35]⟩ ++ nm ++ ⟨#[93]⟩)] w fun e w' => e = .returned (.string X) ∧ Below w.heap.size w w' := fun w => Esc_lit HE.out hns (Below.refl _ _)
    have hm1 : s.dg.length + 1 ≤ maxLen := by unfold maxLen; omega
    have hm2 : (s.dg.length + 1) * 24 ≤ 140737488355328 := by omega
    have hba : w1.heap.size ≤ ((w2.alloc (.cells #[.int .i64 lv, .string no, .string an, .string tx] 29)).alloc (.cells #[.int .i64 3, .string nm] 123)).heap.size := by simp; omega
    have hz2 : (w2.alloc (.cells #[.int .i64 lv, .string no, .string an, .string tx] 29)).heap.size = w2.heap.size + 1 := by simp
    go_wp2_with (at_builtin; go_loud (refine wpList_append_any rfl (.tmp 25) (.tmp 28) 38 rfl w1.heap.size 123 i0 (.agg #[.int .i64 0, .string ⟨#[]⟩]) 2 24 Tryz.underlying38 HI0.out.1 HI0.out.2.1 HI0.out.2.2.1 HI0.out.2.2.2 rfl (by decide) (.slice a3 s.dg.length cap3) s.dg.length (dgCells s.dg) rfl (HD3.out.alloc _) (some ⟨w2.heap.size + 1, 0, none⟩) 1 1 [.int .i64 3, .string nm] rfl rfl (fun h => by cases h) (news_two_at hz2 _ _ _) (fun u hu => by simp at hu; rcases hu with rfl | rfl <;> rfl) hm1 hm2 hba ?_; intro v' w4 hown4 hgr4 hblk4; obtain ⟨d43, d4f⟩ := diag_cells HP3.out HD3.out hgr4; obtain ⟨a4, cap4, rfl⟩ : ∃ a cap, v' = .slice a (s.dg.length + 1) cap := (row_slice hown4); have H5 := Lib.hid (PSt.diag H3.out HP3.out HD3.out hown4 hgr4); clear hown4 hgr4 hblk4))
    refine (cE _).mono ?_
    rintro e w6 ⟨rfl, hb6⟩
    have H6 := Lib.hid (H5.out.on hb6)
    clear hb6
    go_wp2_with fail
    go_ret
    exact ⟨rfl, H6.out⟩
end Go.Proofs.YtpabackkapgkpaaGreatDoor
