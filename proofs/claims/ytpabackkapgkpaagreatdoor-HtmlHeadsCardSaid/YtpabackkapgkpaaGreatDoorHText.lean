/- The closure of Blocks; the row of blocks grown. -/
import Derived.Test.YtpabackkapgkpaaGreatDoorHHold
namespace Go.Proofs.YtpabackkapgkpaaGreatDoor
open Go.RowKit Go.Lib

structure BlkAt (w : World) (b o : Nat) (x : Blk) : Prop where
  c0 : w.cell? ⟨b, o, none⟩ = some (.int .i64 x.kind)
  c1 : w.cell? ⟨b, o + 1, none⟩ = some (.int .i64 x.depth)
  c2 : w.cell? ⟨b, o + 2, none⟩ = some (.int .i64 x.n)
  c3 : w.cell? ⟨b, o + 3, none⟩ = some (.bool x.tight)
  c4 : w.cell? ⟨b, o + 4, none⟩ = some (.string x.text)
  c5 : w.cell? ⟨b, o + 5, none⟩ = some (.string x.info)
def BlksIn (w : World) (G : Nat → Prop) (v : Value) (l : List Blk) : Prop :=
  ∃ a cap, v = .slice a l.length cap ∧ l.length ≤ cap ∧ cap ≤ 9223372036854775807 ∧
    (l = [] ∨ ∃ b o, a = some ⟨b, o, none⟩ ∧ b < w.heap.size ∧ ¬ G b ∧ ∀ i (h : i < l.length), BlkAt w b (o + i * 6) l[i])
def TextsIn (w : World) (G : Nat → Prop) (v : Value) (l : List (List Inl)) : Prop :=
  ∃ a cap, v = .slice a l.length cap ∧ l.length ≤ cap ∧ cap ≤ 9223372036854775807 ∧
    (l = [] ∨ ∃ b o, a = some ⟨b, o, none⟩ ∧ b < w.heap.size ∧ ¬ G b ∧ ∀ i (h : i < l.length), ∃ vi, w.cell? ⟨b, o + i, none⟩ = some vi ∧ InlsIn w G vi l[i])

theorem inls_nil (w : World) (G : Nat → Prop) : InlsIn w G (.slice none 0 0) [] := ⟨none, 0, rfl, Nat.le_refl _, by decide, .inl rfl⟩
theorem IntCell {w : World} {g : Nat} {n : Int} (h : w.heap[g]? = some (.cells #[.int .i64 n] 3)) : w.cell? ⟨g, 0, none⟩ = some (.int .i64 n) ∧ w.frozen? ⟨g, 0, none⟩ = false ∧ g < w.heap.size :=
  ⟨by simp [World.cell?, h], by simp [World.frozen?, h], (Array.getElem?_eq_some_iff.1 h).1⟩

set_option maxHeartbeats 2000000 in
set_option maxRecDepth 100000 in
theorem text_any {w0 w1 : World} {Fn : Nat → Prop} {v : Value} {kq : Nat → Option Obj} {b nb kb tb k : Nat} {wr vT : Value} {s : HSt} {w : World} {texts : List (List Inl)} (h : PSt w0 w1 Fn ⟨v, kq⟩ b wr nb s w) (hk : kq kb = some (.cells #[.int .i64 k] 3)) (hkb : w1.heap.size ≤ kb) (htb : tb < w1.heap.size) (hFt : ¬ Fn tb)
    (hc : w1.cell? ⟨tb, 0, none⟩ = some vT) (hT : TextsIn w1 Fn vT texts) (hk9 : k ≤ 1000000) :
    Calls Tryz.prog 34 #[.pointer (some ⟨kb, 0, none⟩), .pointer (some ⟨tb, 0, none⟩)] w fun e w' => ∃ vl, e = .returned vl ∧ InlsIn w1 Fn vl (textOf texts k) ∧ PSt w0 w1 Fn ⟨v, withB kq kb (.cells #[.int .i64 ((k + 1 : Nat) : Int)] 3)⟩ b wr nb s w' := by
  obtain ⟨a, cap, rfl, hcl, hcm, hat⟩ := hT
  obtain ⟨hkc, hkf, hklt⟩ := IntCell (h.ctr kb _ hk).1
  have hold : ∀ g j, g < w1.heap.size → ¬ Fn g → w.cell? ⟨g, j, none⟩ = w1.cell? ⟨g, j, none⟩ := fun g j hg hF => by simp [World.cell?, h.frame.block g hg hF]
  have hct := (hold tb 0 htb hFt).trans hc
  have hne : ¬ tb = kb := by omega
  have hne' : ¬ kb = tb := by omega
  have e1 : IntKind.i64.wrap ((k : Int) + 1) = (k : Int) + 1 := IntWalk.i64_in _ (by omega)
  have e2 : IntKind.i64.wrap (((k : Int) + 1) - 1) = (k : Int) := by rw [IntWalk.i64_in _ (by omega)]; omega
  have e3 : IntKind.i64.wrap (k : Int) = (k : Int) := IntWalk.i64_in _ (by omega)
  have HC := Lib.hid (h.count hk (m := ((k + 1 : Nat) : Int)) hkb)
  have ek : ((k + 1 : Nat) : Int) = (k : Int) + 1 := by omega
  rw [ek] at HC
  rw [ek]
  by_cases hlt : k < texts.length
  · rcases hat with hat | ⟨g, o, rfl, hg, hGg, hat⟩
    · rw [hat] at hlt; simp at hlt
    obtain ⟨vi, hci, hin⟩ := hat k hlt
    have HIN := Lib.hid (show InlsIn w1 Fn vi (textOf texts k) by unfold textOf; rw [List.getD_eq_getElem?_getD, List.getElem?_eq_getElem hlt]; exact hin)
    have hci' := (hold g (o + k) hg hGg).trans hci
    have hgk : ¬ g = kb := by omega
    have f1 : decide ((texts.length : Int) < (k : Int) + 1) = false := by simp only [decide_eq_false_iff_not]; omega
    have hq0 : (0 : Int) ≤ (k : Int) := by omega
    have hq1 : (k : Int) < (texts.length : Int) := by omega
    clear hat h hin hold hc hci
    go_enter Tryz.func34, Tryz.ntmps34
    go_wp2_with fail
    go_ret
    exact ⟨_, rfl, HIN.out, HC.out⟩
  · have HIN := Lib.hid (show InlsIn w1 Fn (.slice none 0 0) (textOf texts k) by unfold textOf; rw [List.getD_eq_getElem?_getD, List.getElem?_eq_none (by omega)]; exact inls_nil _ _)
    have f1 : decide ((texts.length : Int) < (k : Int) + 1) = true := by simp only [decide_eq_true_eq]; omega
    clear hat h hold hc
    go_enter Tryz.func34, Tryz.ntmps34
    go_wp2_with fail
    go_ret
    exact ⟨_, rfl, HIN.out, HC.out⟩

theorem info_block : (Tryz.prog.info? 92).map (fun i => (i.zero, i.size, i.bytes)) = some (some (.agg #[.int .i64 0, .int .i64 0, .int .i64 0, .bool false, .string ⟨#[]⟩, .string ⟨#[]⟩, .string ⟨#[]⟩]), 7, 80) := by kernel_rfl

/-- the row of blocks has grown -/
theorem PSt.push {w0 w1 : World} {Fn : Nat → Prop} {v v' : Value} {kq : Nat → Option Obj} {b nb : Nat} {wr : Value} {s : HSt} {w w2 : World} {p : Blk × ByteArray} {o : Obj} (h : PSt w0 w1 Fn ⟨v, kq⟩ b wr nb s w)
    (hown : w2.ownsRow w1.heap.size 92 7 v' (s.stk.length + 1) (stkCells s.stk ++ (p.1.cells ++ [.string p.2]))) (hgr : (w.alloc o).grownBy w2 v.ownBlock) :
    PSt w0 w1 Fn ⟨v', kq⟩ b wr nb { s with stk := p :: s.stk } w2 := by
  obtain ⟨F', hn, hF, hK⟩ := h.notes
  obtain ⟨dg, hp, hd⟩ := h.paper
  have hstk : w.ownsRow w1.heap.size 92 7 v s.stk.length (stkCells s.stk) := h.stk
  have hsz := h.frame.size
  have hbw : Below w1.heap.size w w2 := ((Below.refl _ w).alloc hsz o).grown hgr (by simp; omega) (fun k hk => (hstk.lt k hk).1)
  have hk : ∀ (k : Nat) (cs : Array Value) (T : TypeId) (fz : Nat × Nat), w.heap[k]? = some (Obj.cells cs T fz) → T ≠ 92 → w2.heap[k]? = w.heap[k]? := by
    intro k cs T fz hc hT
    have hlt := (Array.getElem?_eq_some_iff.1 hc).1
    rw [hgr.block k (by simp; omega) (fun e => by
      obtain ⟨-, cur, h9⟩ := row_block hstk e.symm
      rw [hc] at h9; cases h9; exact hT rfl), Below.heap_alloc _ _ _ hlt]
  have hrow : ∀ {base : Nat} {e : TypeId} {size : Nat} {v : Value} {n : Nat} {xs : List Value}, w.ownsRow base e size v n xs → e ≠ 92 → w2.ownsRow base e size v n xs := by
    intro base e size v n xs hr he
    exact row_kept hr fun g hg => by obtain ⟨-, cur, hc⟩ := row_block hr hg; exact hk g _ _ _ hc he
  obtain ⟨hg, hl, v1, v2, hnb, h1, h2, hF'⟩ := hn
  refine ⟨h.below.trans (hbw.mono h.le), h.le, ⟨hbw.os.trans h.frame.os, hbw.tape.trans h.frame.tape, hbw.output.trans h.frame.output, Nat.le_trans hsz hbw.size, fun k hk hF => (hbw.block k hk).trans (h.frame.block k hk hF)⟩, ⟨dg, hp.kept (fun k hlt hkind => ?_), hrow hd (by decide)⟩,
    ⟨F', ⟨hg, hl, v1, v2, (hk nb _ _ _ hnb (by decide)).trans hnb, hrow h1 (by decide), hrow h2 (by decide), hF'⟩, hF, hK⟩, ?_, fun g o' hkq => ?_⟩
  · obtain ⟨cs, hb⟩ := hp.block
    rcases hkind with rfl | ⟨c2, fz, hc2⟩
    · exact hk _ _ _ _ hb (by decide)
    · exact hk k _ _ _ hc2 (by decide)
  · show w2.ownsRow _ _ _ v' (p :: s.stk).length (stkCells (p :: s.stk))
    rw [List.length_cons, stkCells_cons]
    exact hown
  · obtain ⟨q1, cs9, T, rfl, n1, n2, n3, n4⟩ := h.ctr g o' hkq
    exact ⟨(hk g _ _ _ q1 n4).trans q1, cs9, T, rfl, n1, n2, n3, n4⟩
end Go.Proofs.YtpabackkapgkpaaGreatDoor
