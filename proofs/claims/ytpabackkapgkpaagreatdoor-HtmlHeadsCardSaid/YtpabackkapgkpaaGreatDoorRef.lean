/- (*note.Notes).Ref, All, Times: the walks. -/
import Derived.Test.YtpabackkapgkpaaGreatDoorNote
import Derived.OwnWalk
import Derived.Below
import Derived.IntWalk
namespace Go.Proofs.YtpabackkapgkpaaGreatDoor
open Go.RowKit Go.Lib

theorem info_str : (Tryz.prog.info? 9).map (fun i => (i.zero, i.size, i.bytes)) = some (some (.string ⟨#[]⟩), 1, 16) := by kernel_rfl
theorem info_int : (Tryz.prog.info? 3).map (fun i => (i.zero, i.size, i.bytes)) = some (some (.int .i64 0), 1, 8) := by kernel_rfl

/-- a struct of a list of names and a list of numbers lies at block b, the call's own; F: its blocks -/
structure NotesAt (T : TypeId) (base : Nat) (F : Nat → Prop) (b : Nat) (L : List ByteArray) (C : List Int) (w : World) : Prop where
  ge : base ≤ b
  len : C.length = L.length
  rows : ∃ v1 v2, w.heap[b]? = some (.cells #[v1, v2] T (0, 0)) ∧ w.ownsRow base 9 1 v1 L.length (L.map .string) ∧ w.ownsRow base 3 1 v2 C.length (C.map (.int .i64)) ∧ ∀ k, F k ↔ (k = b ∨ v1.ownBlock = some k ∨ v2.ownBlock = some k)

theorem NotesAt.frame {T : TypeId} {base : Nat} {F G : Nat → Prop} {b : Nat} {L : List ByteArray} {C : List Int} {w w' : World} (h : NotesAt T base F b L C w) (hf : Frame G w w') (hd : ∀ k, F k → ¬ G k) : NotesAt T base F b L C w' := by
  obtain ⟨hg, hl, v1, v2, hb, h1, h2, hF⟩ := h
  exact ⟨hg, hl, v1, v2, hf.at hb (hd b ((hF b).2 (.inl rfl))), hf.row h1 (fun g hg => hd g ((hF g).2 (.inr (.inl hg)))), hf.row h2 (fun g hg => hd g ((hF g).2 (.inr (.inr hg)))), hF⟩
theorem NotesAt.lt {T : TypeId} {base : Nat} {F : Nat → Prop} {b : Nat} {L : List ByteArray} {C : List Int} {w : World} (h : NotesAt T base F b L C w) : ∀ k, F k → base ≤ k ∧ k < w.heap.size := by
  obtain ⟨hg, hl, v1, v2, hb, h1, h2, hF⟩ := h
  intro k hk
  rcases (hF k).1 hk with rfl | e | e
  · exact ⟨hg, (Array.getElem?_eq_some_iff.1 hb).1⟩
  · exact h1.lt k e
  · exact h2.lt k e
theorem NotesAt.fresh {T : TypeId} {base : Nat} (w : World) (hb : base ≤ w.heap.size) : NotesAt T base (· = w.heap.size) w.heap.size [] [] (w.alloc (.cells #[.slice none 0 0, .slice none 0 0] T)) :=
  ⟨hb, rfl, _, _, heap_alloc_new w _, World.ownsRow_nil _ _ _ _, World.ownsRow_nil _ _ _ _, fun k => by simp [Value.ownBlock]⟩

theorem namesIn_row {w : World} {base : Nat} {v : Value} {L : List ByteArray} (h : w.ownsRow base 9 1 v L.length (L.map .string)) : NamesIn w v L := by
  by_cases hL : L = []
  · subst hL
    rcases h.2 with ⟨rfl, _⟩ | ⟨g, cap, cur, rfl, _⟩
    · exact .inl ⟨rfl, _, _, rfl⟩
    · exact .inl ⟨rfl, _, _, rfl⟩
  · have hn : 0 < (L.map Value.string).length := by rw [List.length_map]; exact List.length_pos_iff.2 hL
    obtain ⟨g, cap, rfl, _⟩ := row_some h hn
    refine .inr ⟨g, 0, cap, rfl, (h.lt g rfl).2, fun i hi => ?_⟩
    rw [h.cellAt (0 + i) (by omega), Nat.zero_add]
    simp [hi]

set_option maxHeartbeats 2000000 in
theorem ref_found {base : Nat} {F : Nat → Prop} {b k : Nat} {L : List ByteArray} {C : List Int} {nm : ByteArray} {w : World} (h : NotesAt 35 base F b L C w) {c : Int} (hck : C[k]? = some c) (hidx : idxName nm L 0 = k)
    (hL : L.length ≤ 100000) (hn : nm.size ≤ 9223372036854775807) (hl : ∀ x ∈ L, x.size ≤ 9223372036854775807) (hc0 : 0 ≤ c) (hc1 : c ≤ 1000000000) :
    Calls Tryz.prog 20 #[.pointer (some ⟨b, 0, none⟩), .string nm] w fun e w' => e = .returned (.tuple #[.int .i64 (k + 1), .int .i64 (c + 1)]) ∧ NotesAt 35 base F b L (C.set k (c + 1)) w' ∧ Frame F w w' := by
  have hk : k < C.length := (List.getElem?_eq_some_iff.1 hck).1
  have HCK := Lib.hid hck
  clear hck
  have HN := Lib.hid h
  have HI := Lib.hid hidx
  have HL := Lib.hid hl
  have hLk : k < 100000 := by have := h.len; omega
  obtain ⟨v1, v2, hb, h1, h2, hF⟩ := h.rows
  have hc := cell_of_row w b 0 #[v1, v2] _ _ hb
  simp only [List.getElem?_toArray, List.getElem?_cons_zero] at hc
  have HV := Lib.hid (namesIn_row h1)
  clear h hidx hl hb h1 h2 hF
  go_enter Tryz.func20, Tryz.ntmps20
  go_wp2_with fail
  refine (at_any nm L b v1 _ (by simpa using hc) HV.out hL hn HL.out).mono ?_
  rintro e w1 ⟨rfl, hb1⟩
  rw [HI.out]
  have hfr : Frame (fun _ => False) w w1 := Frame.of_below hb1
  have hN1 := HN.out.frame hfr (fun _ _ h => h)
  have HN1 := Lib.hid hN1
  obtain ⟨u1, u2, hb, h1, h2, hF⟩ := hN1.rows
  obtain ⟨g, cap, rfl, hcap⟩ := row_some h2 (by rw [List.length_map]; omega)
  obtain ⟨-, cur, hg⟩ := row_block h2 rfl
  have hbg : ¬ b = g := by
    rintro rfl
    rw [hb] at hg
    simp only [Option.some.injEq, Obj.cells.injEq] at hg
    exact absurd hg.2.1 (by decide)
  have hgb : ¬ g = b := fun e => hbg e.symm
  have c1 : w1.cell? ⟨b, 1, none⟩ = some (.slice (some ⟨g, 0, none⟩) C.length cap) := by
    have := cell_of_row w1 b 1 _ _ _ hb; simpa using this
  have ck : w1.cell? ⟨g, k, none⟩ = some (.int .i64 c) := by
    rw [h2.cellAt k (by omega), List.getElem?_map, HCK.out]; rfl
  have fk : w1.frozen? ⟨g, k, none⟩ = false := h2.frozenAt k
  have hst := h2.stored k (.int .i64 (c + 1))
  have HST := Lib.hid hst
  have HB := Lib.hid hb
  have H1 := Lib.hid h1
  have HF := Lib.hid hF
  have HFR := Lib.hid hfr
  clear hst hb h1 h2 hF hfr hN1 hg hc hb1
  have hki : (k : Int) < C.length := by omega
  have hk0 : 0 ≤ (k : Int) := by omega
  go_wp2_with fail
  have e1 : IntKind.i64.wrap ((k : Int) + 1) = (k : Int) + 1 := IntWalk.i64_in _ (by omega)
  go_quiet (fail)
  go_wp2_with fail
  go_ret2
  refine ⟨rfl, ?_, ?_⟩
  · refine NotesAt.frame (G := fun _ => False) (w := w1.setCell ⟨g, k, none⟩ (.int .i64 (c + 1))) ⟨HN1.out.ge, by rw [List.length_set]; exact HN1.out.len, u1, _, ?_, ?_, ?_, HF.out⟩ (Frame.of_below (bel_drewN (Below.refl _ _) _)) (fun _ _ h => h)
    · rw [HST.out.2.block b (Array.getElem?_eq_some_iff.1 HB.out).1 (by simpa using hbg)]; exact HB.out
    · refine row_kept H1.out (fun g' hg' => ?_)
      obtain ⟨-, cur', hg''⟩ := row_block H1.out hg'
      refine HST.out.2.block g' (H1.out.lt g' hg').2 ?_
      intro e
      cases e
      have hx := row_block HST.out.1 (g := g) rfl
      obtain ⟨-, cur2, hx⟩ := hx
      simp only [World.setCell, Array.getElem?_modify] at hx
      rw [hg''] at hx
      simp at hx
    · rw [List.length_set, List.map_set]; exact HST.out.1
  · exact (HFR.out.weaken (fun _ h => h.elim)).trans ((Frame.of_grown HST.out.2 (fun x hx => by cases hx; exact (HF.out g).2 (.inr (.inr rfl)))).trans (Frame.of_below (F := fun _ => False) (bel_drewN (Below.refl _ _) _)) (fun _ h => h.elim)) (fun _ h => .inl h)

/-- two rows of different element types lie in different blocks -/
theorem rows_apart {w : World} {base : Nat} {e e' : TypeId} {sz sz' : Nat} {v v' : Value} {n n' : Nat} {xs xs' : List Value} (h : w.ownsRow base e sz v n xs) (h' : w.ownsRow base e' sz' v' n' xs') (he : e ≠ e') : ∀ g, v.ownBlock = some g → v'.ownBlock ≠ some g := by
  intro g hg hg'
  obtain ⟨-, c1, h1⟩ := row_block h hg
  obtain ⟨-, c2, h2⟩ := row_block h' hg'
  rw [h1] at h2
  simp only [Option.some.injEq, Obj.cells.injEq] at h2
  exact he h2.2.1
theorem row_not_struct {w : World} {base : Nat} {e T : TypeId} {sz : Nat} {v : Value} {n : Nat} {xs : List Value} {b : Nat} {cs : Array Value} (h : w.ownsRow base e sz v n xs) (hb : w.heap[b]? = some (.cells cs T (0, 0))) (he : e ≠ T) : v.ownBlock ≠ some b := by
  intro hg
  obtain ⟨-, c1, h1⟩ := row_block h hg
  rw [hb] at h1
  simp only [Option.some.injEq, Obj.cells.injEq] at h1
  exact he h1.2.1.symm

theorem news_one (w : World) (v : Value) (E : TypeId) : ∀ ad, some (⟨w.heap.size, 0, none⟩ : Addr) = some ad → ∀ j u, [v][j]? = some u → (w.alloc (.cells #[v] E)).cell? (ad.add j) = some u := by
  intro ad had j u hu
  cases had
  cases j with
  | zero => simp at hu; subst hu; simp [Addr.add]
  | succ j => simp at hu

theorem news_at {w : World} {m : Nat} (hm : w.heap.size = m) (v : Value) (E : TypeId) : ∀ ad, some (⟨m, 0, none⟩ : Addr) = some ad → ∀ j u, [v][j]? = some u → (w.alloc (.cells #[v] E)).cell? (ad.add j) = some u := by
  subst hm; exact news_one w v E
theorem set_size (w : World) (b i : Nat) (x : Value) : (w.setCell ⟨b, i, none⟩ x).heap.size = w.heap.size := by simp [World.setCell]
/-- a struct's block and its rows, behind an append onto the one: what the other reads as -/
theorem heap_apart {w w' : World} {row : Option Nat} {b : Nat} {o : Obj} (hg : w.grownBy w' row) (hb : w.heap[b]? = some o) (hne : row ≠ some b) : w'.heap[b]? = some o :=
  (hg.block b (Array.getElem?_eq_some_iff.1 hb).1 (fun e => hne e.symm)).trans hb
theorem heap_set {w : World} {b i : Nat} {u1 u2 x : Value} {T : TypeId} (hb : w.heap[b]? = some (.cells #[u1, u2] T (0, 0))) : (w.setCell ⟨b, 0, none⟩ x).heap[b]? = some (.cells #[x, u2] T (0, 0)) ∧ (w.setCell ⟨b, 1, none⟩ x).heap[b]? = some (.cells #[u1, x] T (0, 0)) ∧ i = i := by
  refine ⟨?_, ?_, rfl⟩
  · simp [World.setCell, Array.getElem?_modify, hb]
  · simp [World.setCell, Array.getElem?_modify, hb]
theorem row_set {w : World} {b i : Nat} {x : Value} {base : Nat} {e : TypeId} {sz : Nat} {v : Value} {n : Nat} {xs : List Value} (h : w.ownsRow base e sz v n xs) (hne : v.ownBlock ≠ some b) : (w.setCell ⟨b, i, none⟩ x).ownsRow base e sz v n xs :=
  row_kept h (fun g hg => Below.heap_setCell w ⟨b, i, none⟩ x g (fun e => hne (by rw [hg, e])))
theorem grown_set {w : World} {b i : Nat} {x : Value} : w.grownBy (w.setCell ⟨b, i, none⟩ x) (some b) :=
  ⟨rfl, rfl, rfl, by simp [World.setCell], fun k _ hk => Below.heap_setCell w ⟨b, i, none⟩ x k (fun e => hk (by rw [e]))⟩
theorem cells_two {w : World} {b : Nat} {u1 u2 : Value} {T : TypeId} (hb : w.heap[b]? = some (.cells #[u1, u2] T (0, 0))) : w.cell? ⟨b, 0, none⟩ = some u1 ∧ w.cell? ⟨b, 1, none⟩ = some u2 ∧ w.frozen? ⟨b, 0, none⟩ = false ∧ w.frozen? ⟨b, 1, none⟩ = false :=
  ⟨by have := cell_of_row w b 0 _ _ _ hb; simpa using this, by have := cell_of_row w b 1 _ _ _ hb; simpa using this, frozen_of_row w b 0 _ _ hb, frozen_of_row w b 1 _ _ hb⟩

/-- behind the append onto the first field's row -/
theorem after1 {w1 w2 : World} {base b n m : Nat} {T E1 E2 : TypeId} {u1 u2 v1' : Value} {o : Obj} {xs ys : List Value} {x : Value} (hTE1 : E1 ≠ T) (hE : E1 ≠ E2)
    (hb : w1.heap[b]? = some (.cells #[u1, u2] T (0, 0))) (h1 : w1.ownsRow base E1 1 u1 n xs) (h2 : w1.ownsRow base E2 1 u2 m ys)
    (hown : w2.ownsRow base E1 1 v1' (n + 1) (xs ++ [x])) (hgr : (w1.alloc o).grownBy w2 u1.ownBlock) :
    ∃ g1 c1, v1' = .slice (some ⟨g1, 0, none⟩) (n + 1) c1 ∧ ¬ b = g1 ∧ Hid (w2.heap[b]? = some (.cells #[u1, u2] T (0, 0))) ∧ Hid (w2.ownsRow base E2 1 u2 m ys) ∧ Hid (w2.ownsRow base E1 1 v1' (n + 1) (xs ++ [x])) ∧ Hid ((w1.alloc o).grownBy w2 u1.ownBlock) ∧
      w2.cell? ⟨b, 0, none⟩ = some u1 ∧ w2.cell? ⟨b, 1, none⟩ = some u2 ∧ w2.frozen? ⟨b, 0, none⟩ = false ∧ w2.frozen? ⟨b, 1, none⟩ = false ∧ w1.heap.size < w2.heap.size ∧ b < w2.heap.size := by
  obtain ⟨g1, c1, rfl, -⟩ := row_some hown (by simp)
  have hb' : w2.heap[b]? = some (.cells #[u1, u2] T (0, 0)) := heap_apart hgr (by rw [Below.heap_alloc _ _ _ (Array.getElem?_eq_some_iff.1 hb).1]; exact hb) (row_not_struct h1 hb hTE1)
  have hn := row_not_struct hown hb' hTE1
  have hs := hgr.size
  obtain ⟨k0, k1, k2, k3⟩ := cells_two hb'
  refine ⟨g1, c1, rfl, fun e => hn (by rw [e]; rfl), hb', ?_, hown, hgr, k0, k1, k2, k3, by simp at hs; omega, (Array.getElem?_eq_some_iff.1 hb').1⟩
  refine row_kept h2 (fun g hg => ?_)
  have hlt := (h2.lt g hg).2
  rw [hgr.block g (by simp; omega) (fun e => rows_apart h2 h1 (fun e => hE e.symm) g hg e.symm), Below.heap_alloc _ _ _ hlt]

/-- behind the append onto the second field's row; the first field's store lies between -/
theorem after2 {w2 w4 : World} {base b n m : Nat} {T E1 E2 : TypeId} {u1 u2 v1 v2' : Value} {o : Obj} {xs ys : List Value} {y : Value} (hTE1 : E1 ≠ T) (hTE2 : E2 ≠ T) (hE : E1 ≠ E2)
    (hb : w2.heap[b]? = some (.cells #[u1, u2] T (0, 0))) (h1 : w2.ownsRow base E1 1 v1 n xs) (h2 : w2.ownsRow base E2 1 u2 m ys)
    (hown : w4.ownsRow base E2 1 v2' (m + 1) (ys ++ [y])) (hgr : ((w2.setCell ⟨b, 0, none⟩ v1).alloc o).grownBy w4 u2.ownBlock) :
    ∃ g2 c2, v2' = .slice (some ⟨g2, 0, none⟩) (m + 1) c2 ∧ ¬ b = g2 ∧ ¬ g2 = b ∧ Hid (w4.heap[b]? = some (.cells #[v1, u2] T (0, 0))) ∧ Hid (w4.ownsRow base E1 1 v1 n xs) ∧ Hid (w4.ownsRow base E2 1 v2' (m + 1) (ys ++ [y])) ∧ Hid (((w2.setCell ⟨b, 0, none⟩ v1).alloc o).grownBy w4 u2.ownBlock) ∧
      w4.cell? ⟨b, 1, none⟩ = some u2 ∧ w4.frozen? ⟨b, 1, none⟩ = false ∧ w4.cell? ⟨g2, m, none⟩ = some y ∧ w4.frozen? ⟨g2, m, none⟩ = false ∧ w2.heap.size < w4.heap.size := by
  obtain ⟨g2, c2, rfl, -⟩ := row_some hown (by simp)
  have hu2 := row_not_struct h2 hb hTE2
  have hu1 := row_not_struct h1 hb hTE1
  have hb3 := (heap_set (i := 0) (x := v1) hb).1
  have hblt : b < (w2.setCell ⟨b, 0, none⟩ v1).heap.size := (Array.getElem?_eq_some_iff.1 hb3).1
  have hb' : w4.heap[b]? = some (.cells #[v1, u2] T (0, 0)) := heap_apart hgr (by rw [Below.heap_alloc _ _ _ hblt]; exact hb3) hu2
  have hn := row_not_struct hown hb' hTE2
  have hs := hgr.size
  have h1' := row_set (b := b) (i := 0) (x := v1) h1 hu1
  obtain ⟨-, k1, -, k3⟩ := cells_two hb'
  have hlen := hown.1
  rw [List.length_append, List.length_singleton] at hlen
  refine ⟨g2, c2, rfl, fun e => hn (by rw [e]; rfl), fun e => hn (by rw [e]; rfl), hb', ?_, hown, hgr, k1, k3, ?_, hown.frozenAt m, by simp [World.setCell] at hs; omega⟩
  · refine row_kept h1' (fun g hg => ?_)
    have hlt := (h1'.lt g hg).2
    rw [hgr.block g (by simp at hlt ⊢; omega) (fun e => rows_apart h1 h2 hE g hg e.symm), Below.heap_alloc _ _ _ hlt]
  · have hm : ys.length = m := by omega
    rw [hown.cellAt m (by omega)]
    simp [hm]

set_option maxRecDepth 100000 in
set_option maxHeartbeats 1000000 in
theorem ref_new {base : Nat} {F : Nat → Prop} {b : Nat} {L : List ByteArray} {C : List Int} {nm : ByteArray} {w : World} (h : NotesAt 35 base F b L C w) (hidx : idxName nm L 0 = -1)
    (hL : L.length ≤ 100000) (hn : nm.size ≤ 9223372036854775807) (hl : ∀ x ∈ L, x.size ≤ 9223372036854775807) (hbw : base ≤ w.heap.size) :
    Calls Tryz.prog 20 #[.pointer (some ⟨b, 0, none⟩), .string nm] w fun e w' => e = .returned (.tuple #[.int .i64 (L.length + 1), .int .i64 1]) ∧ (∃ F', NotesAt 35 base F' b (L ++ [nm]) (C ++ [1]) w' ∧ ∀ k, F' k → F k ∨ w.heap.size ≤ k) ∧ Frame F w w' := by
  have HN := Lib.hid h
  have HI := Lib.hid hidx
  have HL := Lib.hid hl
  have hlen := h.len
  have HLEN := Lib.hid hlen
  obtain ⟨v1, v2, hb, h1, h2, hF⟩ := h.rows
  have hc := cell_of_row w b 0 #[v1, v2] _ _ hb
  simp only [List.getElem?_toArray, List.getElem?_cons_zero] at hc
  have HV := Lib.hid (namesIn_row h1)
  clear h hidx hl hb h1 h2 hF hlen
  obtain ⟨i0, hi, hz0, hz1, hz2⟩ := info_parts info_str
  obtain ⟨j0, hj, hy0, hy1, hy2⟩ := info_parts info_int
  have HI0 : Hid (Tryz.prog.info? 9 = some i0 ∧ i0.zero = some (.string ⟨#[]⟩) ∧ i0.size = 1 ∧ i0.bytes = 16) := ⟨hi, hz0, hz1, hz2⟩
  have HJ0 : Hid (Tryz.prog.info? 3 = some j0 ∧ j0.zero = some (.int .i64 0) ∧ j0.size = 1 ∧ j0.bytes = 8) := ⟨hj, hy0, hy1, hy2⟩
  clear hi hz0 hz1 hz2 hj hy0 hy1 hy2
  go_enter Tryz.func20, Tryz.ntmps20
  go_wp2_with fail
  refine (at_any nm L b v1 _ (by simpa using hc) HV.out hL hn HL.out).mono ?_
  rintro e w1 ⟨rfl, hb1⟩
  rw [HI.out]
  have hfr : Frame (fun _ => False) w w1 := Frame.of_below hb1
  have hN1 := HN.out.frame hfr (fun _ _ h => h)
  have HN1 := Lib.hid hN1
  obtain ⟨u1, u2, hb, h1, h2, hF⟩ := hN1.rows
  rw [HLEN.out] at h2
  have hsz1 := hb1.size
  have hblt : b < w1.heap.size := (Array.getElem?_eq_some_iff.1 hb).1
  have hbne : ¬ b = w1.heap.size := by omega
  have c0 : w1.cell? ⟨b, 0, none⟩ = some u1 := by have := cell_of_row w1 b 0 _ _ _ hb; simpa using this
  have hlen0 : ∃ a cap, u1 = .slice a L.length cap := by
    rcases h1.2 with ⟨rfl, h0⟩ | ⟨g, cap, cur, rfl, _⟩
    · rw [h0]; exact ⟨_, _, rfl⟩
    · exact ⟨_, _, rfl⟩
  obtain ⟨a1, cap1, rfl⟩ := hlen0
  have HB := Lib.hid hb
  have H1 := Lib.hid h1
  have H2 := Lib.hid h2
  have HF := Lib.hid hF
  have HFR := Lib.hid hfr
  have HS1 := Lib.hid hsz1
  clear hb h1 h2 hF hfr hN1 hc hb1 hsz1
  have hb2 : base ≤ w1.heap.size := Nat.le_trans hbw HS1.out
  have hba : base ≤ (w1.alloc (.cells #[.string nm] 9)).heap.size := by simp; omega
  have hm1 : L.length + 1 ≤ maxLen := by unfold maxLen; omega
  have hm2 : (L.length + 1) * 16 ≤ 140737488355328 := by omega
  have hu1 : (Value.slice a1 L.length cap1).ownBlock ≠ some b := row_not_struct H1.out HB.out (by decide)
  have hu2 : u2.ownBlock ≠ some b := row_not_struct H2.out HB.out (by decide)
  have HU1 := Lib.hid hu1
  have HU2 := Lib.hid hu2
  clear hu1 hu2
  go_wp2_with (first
    | (at_builtin; refine wpList_append_any rfl (.tmp 23) (.tmp 25) 32 rfl base 9 i0 (.string ⟨#[]⟩) 1 16 Tryz.underlying32 HI0.out.1 HI0.out.2.1 HI0.out.2.2.1 HI0.out.2.2.2 rfl (by decide) (.slice a1 L.length cap1) L.length (L.map .string) rfl (H1.out.alloc _) (some ⟨w1.heap.size, 0, none⟩) 1 1 [.string nm] rfl rfl (fun h => by cases h) (news_one w1 _ _) (fun u hu => by rw [List.mem_singleton.1 hu]; rfl) hm1 hm2 hba ?_; intro v1' w2 hown2 hgr2 hblk2; obtain ⟨g1, k1, rfl, hbg1, HB2, HH2, HO1, HG2, c20, c21, f20, f21, hs2, hbs2⟩ := after1 (by decide) (by decide) HB.out H1.out H2.out hown2 hgr2; have HBK2 := Lib.hid hblk2; clear hown2 hgr2 hblk2)
    | (at_builtin; refine wpList_append_any rfl (.tmp 33) (.tmp 34) 33 rfl base 3 j0 (.int .i64 0) 1 8 Tryz.underlying33 HJ0.out.1 HJ0.out.2.1 HJ0.out.2.2.1 HJ0.out.2.2.2 rfl (by decide) u2 L.length (C.map (.int .i64)) rfl ((row_set HH2.out HU2.out).alloc _) (some ⟨w2.heap.size, 0, none⟩) 1 1 [.int .i64 0] rfl rfl (fun h => by cases h) (news_at (set_size _ _ _ _) _ _) (fun u hu => by rw [List.mem_singleton.1 hu]; rfl) hm1 (by omega) (by simp; omega) ?_; intro v2' w4 hown4 hgr4 hblk4; obtain ⟨g2, k2, rfl, hbg2, hgb2, HB4, HO14, HO24, HG4, c41, f41, c4n, f4n, hs4⟩ := after2 (by decide) (by decide) (by decide) HB2.out HO1.out HH2.out hown4 hgr4; have HBK4 := Lib.hid hblk4; clear hown4 hgr4 hblk4))
  have e1 : IntKind.i64.wrap ((L.length : Int) + 1) = (L.length : Int) + 1 := IntWalk.i64_in _ (by omega)
  go_quiet (fail)
  go_wp2_with fail
  go_ret2
  have hn1 := row_not_struct HO14.out HB4.out (by decide)
  have hn2 := row_not_struct HO24.out HB4.out (by decide)
  have hb5 := (heap_set (i := 0) (x := .slice (some ⟨g2, 0, none⟩) (L.length + 1) k2) HB4.out).2.1
  have r15 := row_set (b := b) (i := 1) (x := .slice (some ⟨g2, 0, none⟩) (L.length + 1) k2) HO14.out hn1
  have r25 := row_set (b := b) (i := 1) (x := .slice (some ⟨g2, 0, none⟩) (L.length + 1) k2) HO24.out hn2
  have ha := rows_apart r15 r25 (by decide)
  have hst := r25.stored L.length (.int .i64 1)
  have hFb : F b := (HF.out b).2 (.inl rfl)
  have hFg1 : ∀ k, (Value.slice (some ⟨g1, 0, none⟩) (L.length + 1) k1).ownBlock = some k → F k ∨ w.heap.size ≤ k := by
    intro k hk
    rcases HBK2.out with h | h
    · exact .inl ((HF.out k).2 (.inr (.inl (by rw [← h]; exact hk))))
    · right; rw [hk] at h; simp at h; have := HS1.out; omega
  have hFg2 : ∀ k, (Value.slice (some ⟨g2, 0, none⟩) (L.length + 1) k2).ownBlock = some k → F k ∨ w.heap.size ≤ k := by
    intro k hk
    rcases HBK4.out with h | h
    · exact .inl ((HF.out k).2 (.inr (.inr (by rw [← h]; exact hk))))
    · right; rw [hk] at h; simp at h; have := HS1.out; omega
  refine ⟨rfl, ⟨fun k => k = b ∨ (Value.slice (some ⟨g1, 0, none⟩) (L.length + 1) k1).ownBlock = some k ∨ (Value.slice (some ⟨g2, 0, none⟩) (L.length + 1) k2).ownBlock = some k, ?_, ?_⟩, ?_⟩
  · refine NotesAt.frame (G := fun _ => False) ⟨HN1.out.ge, by simp [HLEN.out], _, _, ?_, ?_, ?_, fun k => Iff.rfl⟩ (Frame.of_below (bel_drewN (Below.refl _ _) _)) (fun _ _ h => h)
    · rw [Below.heap_setCell _ _ _ _ hbg2]; exact hb5
    · rw [List.length_append, List.map_append]
      exact row_set r15 (fun e => ha g2 e rfl)
    · have hl : (C ++ [1]).length = L.length + 1 := by simp [HLEN.out]
      have hm : (C ++ [1]).map (Value.int IntKind.i64) = (C.map (Value.int IntKind.i64) ++ [Value.int IntKind.i64 0]).set L.length (Value.int IntKind.i64 1) := by
        rw [List.set_append_right _ _ (by rw [List.length_map]; exact Nat.le_of_eq HLEN.out), List.length_map, HLEN.out, Nat.sub_self]; simp
      rw [hl, hm]; exact hst.1
  · rintro k (rfl | hk | hk)
    · exact .inl hFb
    · exact hFg1 k hk
    · exact hFg2 k hk
  · have f1 : Frame F w w1 := HFR.out.weaken (fun _ h => h.elim)
    have f2 := f1.trans (Frame.of_below (F := fun _ => False) ((Below.refl _ w1).alloc (Nat.le_refl _) (.cells #[.string nm] 9))) (fun _ h => h.elim)
    have f3 := f2.trans (Frame.of_grown (F := F) HG2.out (fun k hk => (HF.out k).2 (.inr (.inl hk)))) (fun _ h => .inl h)
    have f4 := f3.trans (Frame.of_grown (F := F) (grown_set (b := b) (i := 0) (x := .slice (some ⟨g1, 0, none⟩) (L.length + 1) k1)) (fun k hk => by cases hk; exact hFb)) (fun _ h => .inl h)
    have f5 := f4.trans (Frame.of_below (F := fun _ => False) ((Below.refl _ _).alloc (Nat.le_refl _) (.cells #[.int .i64 0] 3))) (fun _ h => h.elim)
    have f6 := f5.trans (Frame.of_grown (F := F) HG4.out (fun k hk => (HF.out k).2 (.inr (.inr hk)))) (fun _ h => .inl h)
    have f7 := f6.trans (Frame.of_grown (F := F) (grown_set (b := b) (i := 1) (x := .slice (some ⟨g2, 0, none⟩) (L.length + 1) k2)) (fun k hk => by cases hk; exact hFb)) (fun _ h => .inl h)
    have f8 := f7.trans (Frame.of_grown (F := fun k => k = g2) (grown_set (b := g2) (i := L.length) (x := .int .i64 1)) (fun k hk => by cases hk; rfl)) (fun i h => by subst h; exact hFg2 i rfl)
    exact f8.trans (Frame.of_below (F := fun _ => False) (bel_drewN (Below.refl _ _) _)) (fun _ h => h.elim)
end Go.Proofs.YtpabackkapgkpaaGreatDoor
