/- NumberTells: the walk. -/
import Derived.Test.YtbblgnbafecdmaaGreatDoorScApart
import Derived.Test.YtbblgnbafecdmaaGreatDoorScTexts
import Derived.Test.YtbblgnbafecdmaaGreatDoorBkTexts
import Derived.Test.YtbblgnbafecdmaaGreatDoorSecs
import Derived.Deep.QuietTactic
import Derived.BigQuiet
import Derived.Deep.Slices
import Derived.Test.YtbblgnbafecdmaaGreatDoorNAlive
import Derived.Test.YtbblgnbafecdmaaGreatDoorRow
import Derived.Test.YtbblgnbafecdmaaGreatDoorRSecs
import Derived.Deep.RegionHeld3
import Derived.Deep.DeepCutAuto
import Derived.Deep.CutBlock
namespace Go.Proofs.YtbblgnbafecdmaaGreatDoor.bk
open Go.RowKit Go.Lib

theorem Kept.less {T E : TypeId} {sz base b : Nat} {F : Nat → Prop} {vT vW vA vB vC vD : Value} {vs : List Value} {Xs : List (Nat × List Value)} {w : World} (h : Kept T E sz base F vT vW vs Xs w) (hb : BookAt b vA vB vC vD w) (hT : T ≠ TBook) (hE : E ≠ TBook) : Kept T E sz base (fun g => F g ∧ g ≠ b) vT vW vs Xs w := by
  obtain ⟨ws, h1, h2, h3, h4⟩ := h.copies
  have hlen := h.len
  refine ⟨h.len, h.rowT, ⟨ws, h1, h2, h3, fun u hu g hg => ⟨h4 u hu g hg, fun e => ?_⟩⟩, h.rows, h.apartTW, h.apart, fun g hg => ⟨h.inT g hg, fun e => row_not_struct h.rowT hb hT (by rw [hg, e])⟩, fun g hg => ⟨h.inW g hg, fun e => row_not_struct h2 hb hT (by rw [hg, e])⟩, fun v hv g hg => ⟨h.inV v hv g hg, fun e => ?_⟩⟩
  · obtain ⟨i, hi, rfl⟩ := List.getElem_of_mem hu
    have hX : i < Xs.length := by omega
    exact row_not_struct (h3 i _ _ (List.getElem?_eq_getElem hi) (List.getElem?_eq_getElem hX)) hb hE (by rw [hg, e])
  · obtain ⟨i, hi, rfl⟩ := List.getElem_of_mem hv
    have hX : i < Xs.length := by omega
    exact row_not_struct (h.rows i _ _ (List.getElem?_eq_getElem hi) (List.getElem?_eq_getElem hX)) hb hE (by rw [hg, e])

/-- a book that keeps texts (in blocks F) and sections (in blocks G), with its copies -/
structure TwoSt (base : Nat) (F G : Nat → Prop) (b : Nat) (vs us : List Value) (Ls : List (List ByteArray)) (Ms : List (List Sec)) (w : World) : Prop where
  st : ∃ vT vW vS vX, BookAt b vT vW vS vX w ∧ Kept 23 9 1 base F vT vW vs (Ls.map strX) w ∧ Kept 42 52 4 base G vS vX us (Ms.map secX) w
  dis : ∀ g, F g → ¬ G g
  fb : ¬ F b
  gb : ¬ G b
  lt : ∀ g, F g ∨ G g → base ≤ g ∧ g < w.heap.size
  ltb : base ≤ b
section
variable {base : Nat} {F G H : Nat → Prop} {b : Nat} {vs us : List Value} {Ls : List (List ByteArray)} {Ms : List (List Sec)} {w w' : World}
theorem TwoSt.frame (h : TwoSt base F G b vs us Ls Ms w) (hf : Frame H w w') (hd : ∀ g, All3 F G b g → ¬ H g) : TwoSt base F G b vs us Ls Ms w' := by
  obtain ⟨vT, vW, vS, vX, hB, hK, hS⟩ := h.st
  exact ⟨⟨vT, vW, vS, vX, hB.kept (hf.block b hB.lt (hd b (.inr (.inr rfl)))), hK.frame hf (fun g hg => hd g (.inl hg)), hS.frame hf (fun g hg => hd g (.inr (.inl hg)))⟩, h.dis, h.fb, h.gb, fun g hg => ⟨(h.lt g hg).1, Nat.lt_of_lt_of_le (h.lt g hg).2 hf.size⟩, h.ltb⟩
theorem TwoSt.below (h : TwoSt base F G b vs us Ls Ms w) (hb : Below w.heap.size w w') : TwoSt base F G b vs us Ls Ms w' :=
  h.frame (Frame.of_below (F := fun _ => False) hb) (fun _ _ h => h)
theorem TwoSt.ofTexts (h : BookSt base F b nilS nilS vs Ls w) : TwoSt base (fun g => F g ∧ g ≠ b) (fun _ => False) b vs [] Ls [] w := by
  obtain ⟨vT, vW, hB, hK⟩ := h.st
  exact ⟨⟨vT, vW, nilS, nilS, hB, hK.less hB (by decide) (by decide), Kept.nil _ _ _ _ _ _⟩, fun _ _ h => h, fun h => h.2 rfl, fun h => h, fun g hg => h.lt g (hg.resolve_right (fun h => h)).1, (h.lt b h.inb).1⟩
theorem TwoSt.sc (h : TwoSt base F G b vs us Ls Ms w) : ∃ vT vW, BookSc base (fun g => G g ∨ g = b) b vT vW us Ms w ∧ ∃ vS vX, BookAt b vT vW vS vX w ∧ Kept 23 9 1 base F vT vW vs (Ls.map strX) w := by
  obtain ⟨vT, vW, vS, vX, hB, hK, hS⟩ := h.st
  refine ⟨vT, vW, ⟨⟨vS, vX, hB, hS.weaken (fun _ h => .inl h)⟩, .inr rfl, fun g hg => ?_⟩, vS, vX, hB, hK⟩
  rcases hg with hg | rfl
  · exact h.lt g (.inr hg)
  · exact ⟨h.ltb, hB.lt⟩
end

theorem two_secs {base : Nat} {F G : Nat → Prop} {b : Nat} {vs us : List Value} {Ls : List (List ByteArray)} {Ms : List (List Sec)} {w : World} (h : TwoSt base F G b vs us Ls Ms w) (v : Value) (L : List Sec) (hv : w.ownsRow base 52 4 v L.length (L.flatMap Sec.cells)) (hnew : ∀ g, v.ownBlock = some g → ¬ All3 F G b g) (hn : us.length < 250) (hL : L.length ≤ 100000) (hbase : base ≤ w.heap.size) :
    Calls Tryz.prog 9 #[.pointer (some ⟨b, 0, none⟩), v] w fun e w' => e = .returned (.tuple #[]) ∧ (∃ G', TwoSt base F G' b vs (us ++ [v]) Ls (Ms ++ [L]) w' ∧ ∀ g, G' g → G g ∨ v.ownBlock = some g ∨ w.heap.size ≤ g) ∧ Frame (fun g => G g ∨ g = b) w w' := by
  obtain ⟨vT, vW, hS, vS, vX, hB, hK⟩ := h.sc
  refine (secs_keep hS v L hv (fun g hg hG => hnew g hg (hG.elim (fun h => .inr (.inl h)) (fun h => .inr (.inr h)))) hn hL hbase).mono ?_
  rintro e w' ⟨rfl, ⟨G', hS', hG'⟩, hf⟩
  obtain ⟨vS', vX', hB', hK'⟩ := hS'.st
  have hin : ∀ g, G' g ∧ g ≠ b → G g ∨ v.ownBlock = some g ∨ w.heap.size ≤ g := fun g hg => by
    rcases hG' g hg.1 with (h1 | h1) | h1
    · exact .inl h1
    · exact absurd h1 hg.2
    · exact .inr h1
  refine ⟨rfl, ⟨fun g => G' g ∧ g ≠ b, ⟨⟨vT, vW, vS', vX', hB', hK.frame hf (fun g hg hG => hG.elim (h.dis g hg) (fun e => h.fb (e ▸ hg))), hK'.less hB' (by decide) (by decide)⟩, fun g hg hg' => ?_, h.fb, fun hg => hg.2 rfl, fun g hg => ?_, h.ltb⟩, hin⟩, hf⟩
  · rcases hin g hg' with h1 | h1 | h1
    · exact h.dis g hg h1
    · exact hnew g h1 (.inl hg)
    · have := (h.lt g (.inl hg)).2; omega
  · rcases hg with hg | hg
    · exact ⟨(h.lt g (.inl hg)).1, Nat.lt_of_lt_of_le (h.lt g (.inl hg)).2 hf.size⟩
    · exact hS'.lt g hg.1

theorem two_apart {base : Nat} {F G : Nat → Prop} {b : Nat} {vs us : List Value} {Ls : List (List ByteArray)} {Ms : List (List Sec)} {w : World} (h : TwoSt base F G b vs us Ls Ms w) (hn : vs.length ≤ 250) (hm : us.length ≤ 250) (hL : ∀ L ∈ Ls, L.length ≤ 90000) (hM : ∀ L ∈ Ms, L.length ≤ 90000) (hbw : base ≤ w.heap.size) :
    Calls Tryz.prog 15 #[.pointer (some ⟨b, 0, none⟩)] w fun e w' => e = .returned (.bool true) ∧ Frame (All3 F G b) w w' := by
  obtain ⟨vT, vW, vS, vX, hB, hK, hS⟩ := h.st
  have hlt : ∀ g, All3 F G b g → base ≤ g ∧ g < w.heap.size := fun g hg => by
    rcases hg with hg | hg | rfl
    · exact h.lt g (.inl hg)
    · exact h.lt g (.inr hg)
    · exact ⟨h.ltb, hB.lt⟩
  refine apart_both (F := F) (G := G) ⟨⟨vT, vW, hB, hK.weaken (fun _ h => .inl h)⟩, .inr rfl, fun g hg => hlt g (hg.elim (fun h => .inl h) (fun h => .inr (.inr h)))⟩ ⟨⟨vS, vX, hB, hS.weaken (fun _ h => .inl h)⟩, .inr rfl, fun g hg => hlt g (.inr hg)⟩ ⟨hB, hK.toVs, hS.toVs, h.dis, h.lt, h.ltb⟩ h.fb h.gb hn hm hL hM hbw
end Go.Proofs.YtbblgnbafecdmaaGreatDoor.bk
namespace Go.Proofs.YtbblgnbafecdmaaGreatDoor
open Go.RowKit Go.Lib

theorem intl_cells {w : World} {a : Option Addr} {cap : Nat} {l : List Int} (h : IntsIn w (.slice a l.length cap) l) : ∀ ad, a = some ad → ∀ j u, (l.map (Value.int .i64))[j]? = some u → w.cell? (ad.add j) = some u := by
  rintro ad rfl j u hu
  by_cases h0 : 0 < l.length
  · obtain ⟨b, o, he, -, hc⟩ := h.cells rfl h0
    cases he
    obtain ⟨hj, he⟩ := List.getElem?_eq_some_iff.1 hu
    rw [List.length_map] at hj
    rw [Go.WideShapes.add_plain, hc j hj, ← he, List.getElem_map]
  · have : l = [] := List.eq_nil_of_length_eq_zero (by omega)
    subst this
    simp at hu
theorem intl_one (l : List Int) : ∀ u ∈ l.map (Value.int .i64), u.oneCell' = true := by
  intro u hu
  obtain ⟨x, -, rfl⟩ := List.mem_map.1 hu
  rfl
theorem intl_none {w : World} {l : List Int} {cap : Nat} (h : IntsIn w (.slice none l.length cap) l) : l.length = 0 := by
  rcases h with ⟨rfl, -⟩ | ⟨b, o, c, he, -⟩
  · rfl
  · cases he

set_option maxHeartbeats 1000000 in
theorem copy_ints {w : World} (a : Option Addr) (cap : Nat) (l : List Int) (hv : IntsIn w (.slice a l.length cap) l) (hl : l.length ≤ 1000) :
    Calls Tryz.prog 16 #[.slice a l.length cap] w fun e w' => ∃ u, e = .returned u ∧ w'.ownsRow w.heap.size 3 1 u l.length (l.map (.int .i64)) ∧ Below w.heap.size w w' := by
  obtain ⟨i0, hi, hz0, hz1, hz2⟩ := info_parts info_int
  have HI0 : Hid (Tryz.prog.info? 3 = some i0 ∧ i0.zero = some (.int .i64 0) ∧ i0.size = 1 ∧ i0.bytes = 8) := ⟨hi, hz0, hz1, hz2⟩
  have HV := Lib.hid hv
  have hnone := Lib.hid (show a = none → l.length = 0 from fun h => by subst h; exact intl_none hv)
  have hll := Lib.hid (show (l.map (Value.int .i64)).length = l.length by rw [List.length_map])
  clear hv hi hz0 hz1 hz2
  go_enter Tryz.func16, Tryz.ntmps16
  go_wp2_with (at_builtin; (refine wpList_append_keep rfl (.const (.slice none 0 0)) (.tmp 3) 22 rfl w.heap.size 3 i0 (.int .i64 0) 1 8 Tryz.underlying22 HI0.out.1 HI0.out.2.1 HI0.out.2.2.1 HI0.out.2.2.2 rfl (by decide) (.slice none 0 0) 0 [] rfl (World.ownsRow_nil _ _ _ _) a l.length cap (l.map (.int .i64)) rfl (by have := hll.out; omega) hnone.out (intl_cells HV.out) (intl_one l) (by unfold maxLen; omega) (by omega) (Nat.le_refl _) ?_; intro v' w2 hown2 hkp2 hgr2 hblk2; have HO := Lib.hid hown2; have HG := Lib.hid hgr2; clear hown2 hkp2 hgr2 hblk2))
  go_ret
  refine ⟨v', rfl, by simpa using HO.out, (Below.refl _ _).grown HG.out (Nat.le_refl _) (fun k hk => by simp [Value.ownBlock] at hk)⟩

set_option maxRecDepth 100000 in
set_option maxHeartbeats 1000000 in
theorem same_ints {w : World} (v u : Value) (L : List Int) (hv : IntsIn w v L) (hu : IntsIn w u L) (hm : L.length ≤ 1000) :
    Calls Tryz.prog 23 #[v, u] w fun e w' => e = .returned (.bool true) ∧ Below w.heap.size w w' := by
  obtain ⟨a, ca, rfl⟩ := hv.form
  obtain ⟨b, cb, rfl⟩ := hu.form
  have HV := Lib.hid hv
  have HU := Lib.hid hu
  clear hv hu
  have t1 : ((L.length : Int) == (L.length : Int)) = true := by simp
  have t2 : ((L.length : Int) != (L.length : Int)) = false := by rw [bne, t1]; rfl
  go_enter Tryz.func23, Tryz.ntmps23
  go_wp2_with fail
  go_loopw [5] (fun i wr => ∃ k : Nat, k ≤ L.length ∧ i = .int .i64 k ∧ Below w.heap.size w wr) (fun i _ => L.length - (RowKit.intOf i).toNat)
  case atStart => exact ⟨0, Nat.zero_le _, rfl, Below.refl _ _⟩
  case round =>
    obtain ⟨k, hk, rfl, hB⟩ := hrel
    by_cases hlt : k < L.length
    · obtain ⟨b1, o1, rfl, hb1, hc1⟩ := HV.out.cells rfl (by omega)
      obtain ⟨b2, o2, rfl, hb2, hc2⟩ := HU.out.cells rfl (by omega)
      have c1 := (hB.cell (p := ⟨b1, o1 + k, none⟩) hb1).trans (hc1 k hlt)
      have c2 := (hB.cell (p := ⟨b2, o2 + k, none⟩) hb2).trans (hc2 k hlt)
      clear hc1 hc2
      have hk0 : (0 : Int) ≤ (k : Int) := by omega
      have hk1 : (k : Int) < L.length := by omega
      generalize L[k] = x at *
      have hq : (x == x) = true := by simp
      go_wp2_with fail
      go_quiet (fail)
      go_wp2_with fail
      go_roundw
      case rel => exact ⟨k + 1, by omega, by go_num, below_drewN hB _⟩
      case measure => simp only [RowKit.intOf]; omega
    · go_wp2_with fail
      go_ret
      exact ⟨rfl, hB⟩

/-- a list with room behind it, in which a mark stands -/
structure LentI (w : World) (base : Nat) (g cap : Nat) (l : List Int) : Prop where
  row : w.ownsRow base 3 1 (.slice (some ⟨g, 0, none⟩) (l.length + 1) cap) (l.length + 1) ((l ++ [-77]).map (.int .i64))
  cap : l.length + 1 ≤ cap
theorem LentI.on {w w' : World} {base g cap : Nat} {l : List Int} (h : LentI w base g cap l) (hb : Below w.heap.size w w') : LentI w' base g cap l := ⟨row_kept h.row (fun g hg => hb.block g (h.row.lt g hg).2), h.cap⟩
theorem LentI.lt {w : World} {base g cap : Nat} {l : List Int} (h : LentI w base g cap l) : base ≤ g ∧ g < w.heap.size := h.row.lt g rfl
theorem LentI.ints {w : World} {base g cap : Nat} {l : List Int} (h : LentI w base g cap l) : IntsIn w (.slice (some ⟨g, 0, none⟩) l.length cap) l := by
  by_cases h0 : l = []
  · subst h0; exact .inl ⟨rfl, _, _, rfl⟩
  · refine .inr ⟨g, 0, cap, rfl, h.lt.2, fun i hi => ?_⟩
    rw [Nat.zero_add, h.row.cellAt i (by omega), List.getElem?_map, List.getElem?_append_left hi, List.getElem?_eq_getElem hi]
    rfl
theorem LentI.mark {w : World} {base g cap : Nat} {l : List Int} (h : LentI w base g cap l) : w.cell? ⟨g, l.length, none⟩ = some (.int .i64 (-77)) := by
  rw [h.row.cellAt l.length (by omega), List.getElem?_map, List.getElem?_append_right (Nat.le_refl _), Nat.sub_self]
  rfl

set_option maxRecDepth 100000 in
set_option maxHeartbeats 1000000 in
theorem lent_ints {w : World} (a : Option Addr) (cap : Nat) (l : List Int) (hv : IntsIn w (.slice a l.length cap) l) (hl : l.length ≤ 1000) :
    Calls Tryz.prog 5 #[.slice a l.length cap] w fun e w' => ∃ g c, e = .returned (.slice (some ⟨g, 0, none⟩) l.length c) ∧ LentI w' w.heap.size g c l ∧ Below w.heap.size w w' := by
  obtain ⟨i0, hi, hz0, hz1, hz2⟩ := info_parts info_int
  have HI0 : Hid (Tryz.prog.info? 3 = some i0 ∧ i0.zero = some (.int .i64 0) ∧ i0.size = 1 ∧ i0.bytes = 8) := ⟨hi, hz0, hz1, hz2⟩
  have cC := copy_ints a cap l hv hl
  have hli : (l.length : Int) ≤ 1000 := by omega
  clear hv hi hz0 hz1 hz2
  go_enter Tryz.func5, Tryz.ntmps5
  go_wp2_with fail
  refine cC.mono ?_
  rintro e w1 ⟨u, rfl, hr, hb1⟩
  have HR := Lib.hid hr
  have HB1 := Lib.hid hb1
  have hm1 : l.length + 1 ≤ maxLen := by unfold maxLen; omega
  have hm2 : (l.length + 1) * 8 ≤ 140737488355328 := by omega
  have hba : w.heap.size ≤ (w1.alloc (.cells #[.int .i64 (-77)] 3)).heap.size := by have := hb1.size; simp; omega
  clear hr hb1 cC
  go_wp2_with (at_builtin; (refine wpList_append_any rfl (.tmp 4) (.tmp 5) 22 rfl w.heap.size 3 i0 (.int .i64 0) 1 8 Tryz.underlying22 HI0.out.1 HI0.out.2.1 HI0.out.2.2.1 HI0.out.2.2.2 rfl (by decide) u l.length (l.map (.int .i64)) rfl (HR.out.alloc _) (some ⟨w1.heap.size, 0, none⟩) 1 1 [.int .i64 (-77)] rfl rfl (fun h => by cases h) (news_at rfl _ _) (fun u hu => by rw [List.mem_singleton.1 hu]; rfl) hm1 hm2 hba ?_; intro v' w2 hown2 hgr2 hblk2; obtain ⟨g, c, rfl, hcap⟩ := row_some hown2 (by simp); have HO := Lib.hid hown2; have HG := Lib.hid hgr2; clear hown2 hgr2 hblk2))
  have hcl : l.length ≤ c := by omega
  have hcl2 : (l.length : Int) ≤ (c : Int) := by omega
  go_wp2_with fail
  go_ret
  refine ⟨g, c, rfl, ⟨by rw [List.map_append]; exact HO.out, hcap⟩, (HB1.out.alloc HB1.out.size _).grown HG.out hba (fun k hk => (HR.out.lt k hk).1)⟩

set_option maxHeartbeats 1000000 in
theorem stays_ints {w : World} {base g c : Nat} (b : Option Addr) (cap : Nat) (l : List Int) (hm : LentI w base g c l) (hv : IntsIn w (.slice b l.length cap) l) (hl : l.length ≤ 1000) :
    Calls Tryz.prog 12 #[.slice (some ⟨g, 0, none⟩) l.length c, .slice b l.length cap] w fun e w' => e = .returned (.bool true) ∧ Below w.heap.size w w' := by
  have cS := same_ints (.slice (some ⟨g, 0, none⟩) l.length c) (.slice b l.length cap) l hm.ints hv hl
  have hmk := hm.mark
  have hglt := hm.lt.2
  have hcap := hm.cap
  have hli : (l.length : Int) ≤ 1000 := by omega
  have hci : (l.length : Int) + 1 ≤ (c : Int) := by omega
  clear hm hv
  go_enter Tryz.func12, Tryz.ntmps12
  go_wp2_with fail
  refine cS.mono ?_
  rintro e w1 ⟨rfl, hb1⟩
  have HB1 := Lib.hid hb1
  have hmk1 := (hb1.cell (p := ⟨g, l.length, none⟩) hglt).trans hmk
  clear hb1 hmk cS
  go_wp2_with fail
  go_ret
  exact ⟨rfl, HB1.out⟩
end Go.Proofs.YtbblgnbafecdmaaGreatDoor
namespace Go.Proofs.YtbblgnbafecdmaaGreatDoor
open Go.RowKit Go.Lib

theorem row_slice {w : World} {base : Nat} {e : TypeId} {sz : Nat} {v : Value} {n : Nat} {xs : List Value} (h : w.ownsRow base e sz v n xs) : ∃ a cap, v = .slice a n cap := by
  obtain ⟨a, cap, h, -⟩ := bk.row_form h
  exact ⟨a, cap, h⟩
/-- what is kept behind the numbers: x, y the two lists -/
structure NumSt (w0 : World) (F : Nat → Prop) (b gm cm : Nat) (l : List Int) (x y : Value) (w : World) : Prop where
  two : bk.TwoSt w0.heap.size F (fun _ => False) b [x, y] [] [texts (allN l), texts (allN l)] [] w
  lent : LentI w w0.heap.size gm cm l
  far : ¬ F gm ∧ gm ≠ b
  below : Below w0.heap.size w0 w

theorem info_head : (Tryz.prog.info? 41).map (fun i => (i.zero, i.size, i.bytes)) = some (some (.agg #[.int .i64 0, .string ⟨#[]⟩]), 2, 24) := by kernel_rfl
/-- the headings and their texts, behind k levels -/
structure HeadSt (w7 : World) (l : List Int) (k : Nat) (hd lv : Value) (hs : List Hd) (w : World) : Prop where
  lev : hs.map (·.level) = l.take k
  len : hs.length = k
  sz : ∀ h ∈ hs, h.text.size ≤ 100
  hrow : w.ownsRow w7.heap.size 41 2 hd hs.length (hs.flatMap Hd.cells)
  lrow : w.ownsRow w7.heap.size 9 1 lv hs.length ((hs.map (·.text)).map .string)
  below : Below w7.heap.size w7 w
theorem HeadSt.mid {w7 : World} {l : List Int} {k : Nat} {hd lv : Value} {hs : List Hd} {w wa : World} {o : Obj} (h : HeadSt w7 l k hd lv hs w) (hg : (w.alloc o).grownBy wa hd.ownBlock) : wa.ownsRow w7.heap.size 9 1 lv hs.length ((hs.map (·.text)).map .string) ∧ Below w7.heap.size w7 wa := by
  have hr := h.hrow.alloc o
  have hl := h.lrow.alloc o
  have hB1 := h.below.alloc h.below.size o
  exact ⟨row_kept hl (fun g hgb => hg.block g (hl.lt g hgb).2 (fun e => rows_apart hl hr (by decide) g hgb e.symm)), hB1.grown hg hB1.size (fun g hg => (h.hrow.lt g hg).1)⟩
theorem HeadSt.next {w7 : World} {l : List Int} {k : Nat} {hd lv hd' lv' : Value} {hs : List Hd} {w wa wb : World} {o o' : Obj} {lev : Int} {txt : ByteArray} (h : HeadSt w7 l k hd lv hs w) (hlev : l.take (k + 1) = l.take k ++ [lev]) (hs9 : txt.size ≤ 100)
    (hown1 : wa.ownsRow w7.heap.size 41 2 hd' (hs.length + 1) (hs.flatMap Hd.cells ++ Hd.cells ⟨lev, txt⟩)) (hg1 : (w.alloc o).grownBy wa hd.ownBlock)
    (hown2 : wb.ownsRow w7.heap.size 9 1 lv' (hs.length + 1) ((hs.map (·.text)).map .string ++ [.string txt])) (hg2 : (wa.alloc o').grownBy wb lv.ownBlock) : HeadSt w7 l (k + 1) hd' lv' (hs ++ [⟨lev, txt⟩]) wb := by
  obtain ⟨hl, hB⟩ := h.mid hg1
  have hB1 := hB.alloc hB.size o'
  have hl1 := hl.alloc o'
  have hh1 := hown1.alloc o'
  refine ⟨by rw [List.map_append, h.lev, hlev]; rfl, by rw [List.length_append, h.len]; rfl, fun x hx => ?_, ?_, ?_, hB1.grown hg2 hB1.size (fun g hg => (hl.lt g hg).1)⟩
  · rcases List.mem_append.1 hx with hx | hx
    · exact h.sz x hx
    · rw [List.mem_singleton.1 hx]; exact hs9
  · rw [List.length_append, List.flatMap_append]
    have := row_kept hh1 (fun g hgb => hg2.block g (hh1.lt g hgb).2 (fun e => rows_apart hh1 hl1 (by decide) g hgb e.symm))
    simpa using this
  · rw [List.length_append, List.map_append, List.map_append]
    exact hown2

theorem heads_get : ∀ (l : List Hd) (i j : Nat) (h : i < l.length), j < 2 → (l.flatMap Hd.cells)[i * 2 + j]? = (Hd.cells l[i])[j]?
  | x :: l, 0, j, _, hj => by
    rw [List.flatMap_cons, Nat.zero_mul, Nat.zero_add, List.getElem?_append_left (by show j < 2; exact hj)]
    rfl
  | x :: l, i + 1, j, h, hj => by
    have e : (i + 1) * 2 + j = (Hd.cells x).length + (i * 2 + j) := by show _ = 2 + _; omega
    rw [List.flatMap_cons, e, List.getElem?_append_right (by omega), Nat.add_sub_cancel_left, heads_get l i j (by simpa using h) hj]
    rfl
theorem heads_len (l : List Hd) : (l.flatMap Hd.cells).length = l.length * 2 := by
  induction l with
  | nil => rfl
  | cons s l ih => rw [List.flatMap_cons, List.length_append, ih, List.length_cons]; show 2 + _ = _; omega
theorem hdsIn_row {w : World} {base : Nat} {v : Value} {hs : List Hd} (h : w.ownsRow base 41 2 v hs.length (hs.flatMap Hd.cells)) : HdsIn w v hs := by
  by_cases hL : hs = []
  · subst hL
    rcases h.2 with ⟨rfl, _⟩ | ⟨g, cap, cur, rfl, _⟩
    · exact .inl ⟨rfl, _, _, rfl⟩
    · exact .inl ⟨rfl, _, _, rfl⟩
  · have h1 : 0 < hs.length := List.length_pos_iff.2 hL
    obtain ⟨g, cap, rfl, _⟩ := row_some h (by rw [heads_len]; omega)
    refine .inr ⟨g, 0, cap, rfl, (h.lt g rfl).2, fun i hi => ?_⟩
    have k := fun j (hj : j < 2) => (h.cellAt (i * 2 + j) (by omega)).trans (heads_get hs i j hi hj)
    rw [Nat.zero_add]
    exact ⟨k 0 (by omega), k 1 (by omega)⟩
/-- behind all that is kept -/
structure EndSt (w0 : World) (B7 : Nat) (F G : Nat → Prop) (b gm cm : Nat) (l : List Int) (hs : List Hd) (S : List Sec) (x y s r lv : Value) (w : World) : Prop where
  two : bk.TwoSt w0.heap.size F G b [x, y] [s, r] [texts (allN l), texts (allN l)] [S, S] w
  lent : LentI w w0.heap.size gm cm l
  lrow : w.ownsRow B7 9 1 lv hs.length ((hs.map (·.text)).map .string)
  below : Below w0.heap.size w0 w
theorem EndSt.on {w0 : World} {B7 : Nat} {F G : Nat → Prop} {b gm cm : Nat} {l : List Int} {hs : List Hd} {S : List Sec} {x y s r lv : Value} {w w' : World} (h : EndSt w0 B7 F G b gm cm l hs S x y s r lv w) (hb : Below w.heap.size w w') : EndSt w0 B7 F G b gm cm l hs S x y s r lv w' :=
  ⟨h.two.below hb, h.lent.on hb, row_on h.lrow hb, h.below.trans (hb.mono h.below.size)⟩
theorem EndSt.tx {w0 : World} {B7 : Nat} {F G : Nat → Prop} {b gm cm : Nat} {l : List Int} {hs : List Hd} {S : List Sec} {x y s r lv : Value} {w : World} (h : EndSt w0 B7 F G b gm cm l hs S x y s r lv w) : NamesIn w x (texts (allN l)) ∧ NamesIn w y (texts (allN l)) ∧ bk.SecsW w s S ∧ bk.SecsW w r S := by
  obtain ⟨vT, vW, vS, vX, hB, hK, hS⟩ := h.two.st
  exact ⟨namesIn_row (hK.rows 0 x _ rfl rfl), namesIn_row (hK.rows 1 y _ rfl rfl), bk.secsW_row (hS.rows 0 s _ rfl rfl), bk.secsW_row (hS.rows 1 r _ rfl rfl)⟩

set_option maxRecDepth 100000 in
set_option maxHeartbeats 8000000 in
theorem tells_main (a0 a1 : Option Addr) (cap0 cap1 : Nat) (l : List Int) (T : List ByteArray) (W : World) (hT : Tabs W) (hu : IntsIn W (.slice a0 l.length cap0) l) (hv : NamesIn W (.slice a1 T.length cap1) T) (hl : l.length ≤ 60) (hT0 : 0 < T.length) (hT1 : T.length ≤ 60) (hsz : ∀ s ∈ T, s.size ≤ 9223372036854775807) :
    Calls Tryz.prog 3 #[.slice a0 l.length cap0, .slice a1 T.length cap1] W fun e w' => e = .returned (.bool true) ∧ Below W.heap.size W w' := by
  have HU := Lib.hid hu
  have HV := Lib.hid hv
  have HT := Lib.hid hT
  have HLOW := Lib.hid hT.low
  have HSZ := Lib.hid hsz
  have hli : (l.length : Int) ≤ 60 := by omega
  have hti : (T.length : Int) ≤ 60 := by omega
  have htp : (0 : Int) < T.length := by omega
  have g1 : decide ((60 : Int) < l.length) = false := by simp only [decide_eq_false_iff_not]; omega
  have g2 : ((T.length : Int) == 0) = false := by rw [beq_eq_false_iff_ne]; omega
  have g3 : decide ((60 : Int) < T.length) = false := by simp only [decide_eq_false_iff_not]; omega
  have cAl := alive_any hT
  clear hu hv hT hsz
  go_enter Tryz.func3, Tryz.ntmps3
  go_wp2_with fail
  refine cAl.mono ?_
  rintro e w1 ⟨rfl, hb1⟩
  have HB1 := Lib.hid hb1
  have HU1 := Lib.hid (HU.out.below hb1)
  have hs1 := hb1.size
  clear hb1 cAl
  go_wp2_with fail
  refine (lent_ints a0 cap0 l HU1.out (by omega)).mono ?_
  rintro e w2 ⟨gm, cm, rfl, hlent, hb2⟩
  have HB2 := Lib.hid (HB1.out.trans (hb2.mono HB1.out.size))
  have HL2 := Lib.hid hlent
  have hs2 := hb2.size
  have hB0 := Lib.hid (bk.BookSt.fresh (base := W.heap.size) w2 HB2.out.size)
  have HB3 := Lib.hid (HB2.out.alloc HB2.out.size (.cells (bk.bookCells bk.nilS bk.nilS bk.nilS bk.nilS) bk.TBook))
  have HL3 := Lib.hid (hlent.on ((Below.refl _ w2).alloc (Nat.le_refl _) (.cells (bk.bookCells bk.nilS bk.nilS bk.nilS bk.nilS) bk.TBook)))
  clear hb2 hlent
  have cA := all_any (HT.out.under HLOW.out HB3.out) (.slice (some ⟨gm, 0, none⟩) l.length cm) l HL3.out.ints (by omega)
  go_wp2_with fail
  refine cA.mono ?_
  rintro e w4 ⟨x, rfl, hx, hb4⟩
  have HAL := Lib.hid (show (texts (allN l)).length = l.length by unfold texts; rw [List.length_map, allN_len])
  have HB4 := Lib.hid (HB3.out.trans (hb4.mono HB3.out.size))
  have HL4 := Lib.hid (HL3.out.on hb4)
  have HX4 := Lib.hid hx
  have HK4 := Lib.hid ((hB0.out.below (hb4.mono (Nat.le_refl _))))
  have hs4 := hb4.size
  clear hx hb4 cA
  have cA := all_any (HT.out.under HLOW.out HB4.out) (.slice (some ⟨gm, 0, none⟩) l.length cm) l HL4.out.ints (by omega)
  go_wp2_with fail
  refine cA.mono ?_
  rintro e w5 ⟨y, rfl, hy, hb5⟩
  have HB5 := Lib.hid (HB4.out.trans (hb5.mono HB4.out.size))
  have HL5 := Lib.hid (HL4.out.on hb5)
  have HK5 := Lib.hid (HK4.out.below hb5)
  have HX5 := Lib.hid (row_on HX4.out hb5)
  have HY5 := Lib.hid hy
  have HXlt := Lib.hid (fun g (hg : x.ownBlock = some g) => HX4.out.lt g hg)
  have HYlt := Lib.hid (fun g (hg : y.ownBlock = some g) => hy.lt g hg)
  have hs5 := hb5.size
  have hgm := HL2.out.lt
  have hz3 : (w2.alloc (.cells (bk.bookCells bk.nilS bk.nilS bk.nilS bk.nilS) bk.TBook)).heap.size = w2.heap.size + 1 := by simp
  rw [hz3] at hs4
  have hXl2 := Lib.hid (fun g (hg : x.ownBlock = some g) => show w2.heap.size + 1 ≤ g ∧ g < w4.heap.size by have := HXlt.out g hg; rw [hz3] at this; exact this)
  replace hz3 := Lib.hid hz3
  clear hy hb5 cA HL2 HL3 HL4 HK4 HX4 HB3 HB4
  have hbW := HB5.out.size
  have hb3W := HB2.out.size
  have cX := bk.texts_any HK5.out x (texts (allN l)) (bk.row_base (by rw [HAL.out]; exact HX5.out) (by rw [hz3.out]; omega)) (fun g hg e => by have := (hXl2.out g hg).1; omega) (by decide) (by rw [HAL.out]; omega) hbW
  go_wp2_with fail
  refine cX.mono ?_
  rintro e w6 ⟨rfl, ⟨F1, hK6, hF1⟩, hf6⟩
  have HK6 := Lib.hid hK6
  have HF1 := Lib.hid hF1
  have HY6 := Lib.hid (hf6.row HY5.out (fun g hg e => by have := (HYlt.out g hg).1; omega))
  have HL6 := Lib.hid (show LentI w6 W.heap.size gm cm l from ⟨hf6.row (bk.row_base HL5.out.row (by omega)) (fun g hg e => by have h : gm = g := Option.some.inj hg; omega), HL5.out.cap⟩)
  have HB6 := Lib.hid (hf6.on_below (fun k hk => by omega) HB5.out (Nat.le_refl _))
  have hs6 := hf6.size
  clear hK6 hF1 hf6 cX HK5
  have cY := bk.texts_any HK6.out y (texts (allN l)) (bk.row_base (by rw [HAL.out]; exact HY6.out) (by omega)) (fun g hg e => by
    have h1 := HYlt.out g hg
    rcases HF1.out g e with e | e | e
    · omega
    · have := (hXl2.out g e).2; omega
    · omega) (by simp) (by rw [HAL.out]; omega) (by omega)
  go_wp2_with fail
  refine cY.mono ?_
  rintro e w7 ⟨rfl, ⟨F2, hK7, hF2⟩, hf7⟩
  have hngm : ¬ F1 gm := fun e => by
    rcases HF1.out gm e with e | e | e
    · omega
    · have := (hXl2.out gm e).1; omega
    · omega
  have hNS : NumSt W (fun g => F2 g ∧ g ≠ w2.heap.size) w2.heap.size gm cm l x y w7 := by
    refine ⟨bk.TwoSt.ofTexts hK7, ⟨hf7.row HL6.out.row (fun g hg e => by have h : gm = g := Option.some.inj hg; subst h; exact hngm e), HL6.out.cap⟩, ⟨fun e => ?_, by omega⟩, hf7.on_below (fun k hk => (HK6.out.lt k hk).1) HB6.out (Nat.le_refl _)⟩
    rcases hF2 gm e.1 with e | e | e
    · exact hngm e
    · have := (HYlt.out gm e).1; omega
    · omega
  have HNS := Lib.hid hNS
  have hs7 := hf7.size
  clear hK7 hF2 hf7 hngm hNS cY HK6 HF1 HY6 HL6 HB6 HY5 HX5 HL5 HB5 HXlt HYlt hXl2
  go_wp2_with fail
  obtain ⟨i0, hi, hz0, hz1, hz2⟩ := info_parts info_str
  have HI0 : Hid (Tryz.prog.info? 9 = some i0 ∧ i0.zero = some (.string ⟨#[]⟩) ∧ i0.size = 1 ∧ i0.bytes = 16) := ⟨hi, hz0, hz1, hz2⟩
  clear hi hz0 hz1 hz2
  obtain ⟨j0, hi, hz0, hz1, hz2⟩ := info_parts info_head
  have HJ0 : Hid (Tryz.prog.info? 41 = some j0 ∧ j0.zero = some (.agg #[.int .i64 0, .string ⟨#[]⟩]) ∧ j0.size = 2 ∧ j0.bytes = 24) := ⟨hi, hz0, hz1, hz2⟩
  clear hi hz0 hz1 hz2
  go_loopw [50, 9, 10] (fun ii hd lv wr => ∃ (k : Nat) (hd' lv' : Value) (hs : List Hd), k ≤ l.length ∧ ii = .int .i64 k ∧ hd' = hd ∧ lv' = lv ∧ Hid (HeadSt w7 l k hd' lv' hs wr)) (fun ii _ _ _ => l.length - (RowKit.intOf ii).toNat)
  case atStart => exact ⟨0, _, _, [], Nat.zero_le _, rfl, rfl, rfl, Lib.hid ⟨rfl, rfl, fun _ h => by simp at h, World.ownsRow_nil _ _ _ _, World.ownsRow_nil _ _ _ _, Below.refl _ _⟩⟩
  case round =>
    obtain ⟨k, hd, lv, hs, hk, rfl, rfl, rfl, HS⟩ := hrel
    have hBw := Lib.hid (HNS.out.below.trans (HS.out.below.mono HNS.out.below.size))
    by_cases hlt : k < l.length
    · obtain ⟨b0, o0, rfl, hb0, hc0⟩ := HU.out.cells rfl (by omega)
      obtain ⟨b1, o1, rfl, hb1, hc1⟩ := names_cellsR HV.out rfl hT0
      have hr : k % T.length < T.length := Nat.mod_lt _ hT0
      have cl := (hBw.out.cell (p := ⟨b0, o0 + k, none⟩) hb0).trans (hc0 k hlt)
      have ct := (hBw.out.cell (p := ⟨b1, o1 + k % T.length, none⟩) hb1).trans (hc1 _ hr)
      have hnx := Lib.hid (List.take_succ_eq_append_getElem hlt)
      have hsz9 := HSZ.out T[k % T.length] (List.getElem_mem hr)
      have hrm : ((k : Int)).tmod (T.length : Int) = ((k % T.length : Nat) : Int) := by rw [Int.tmod_eq_emod_of_nonneg (by omega)]; rfl
      have hk0 : (0 : Int) ≤ (k : Int) := by omega
      have hk1 : (k : Int) < l.length := by omega
      generalize T[k % T.length] = txt at *
      generalize l[k] = lev at *
      obtain ⟨r, hreq⟩ : ∃ r, k % T.length = r := ⟨_, rfl⟩
      rw [hreq] at ct hrm hr
      replace hreq := Lib.hid hreq
      have hr0 : (0 : Int) ≤ (r : Int) := by omega
      have hr1 : (r : Int) < T.length := by omega
      clear hc0 hc1
      by_cases h100 : 100 < txt.size
      · have t1 : decide ((100 : Int) < (txt.size : Int)) = true := by simp only [decide_eq_true_eq]; omega
        go_wp2_with fail
        go_ret
        exact ⟨rfl, hBw.out⟩
      · have t1 : decide ((100 : Int) < (txt.size : Int)) = false := by simp only [decide_eq_false_iff_not]; omega
        have hsl := Lib.hid (show hs.length ≤ 60 by rw [HS.out.len]; omega)
        have hm1 : hs.length + 1 ≤ maxLen := by have := hsl.out; unfold maxLen; omega
        have hm2 : (hs.length + 1) * 24 ≤ 140737488355328 := by have := hsl.out; omega
        have hm3 : (hs.length + 1) * 16 ≤ 140737488355328 := by have := hsl.out; omega
        have hba : w7.heap.size ≤ (wr.alloc (.cells #[.int .i64 lev, .string txt] 41)).heap.size := by have := HS.out.below.size; simp; omega
        have hh100 : txt.size ≤ 100 := by omega
        have tok1 : True := trivial
        go_wp2_with (first
          | (have _g := tok1; clear tok1; at_builtin; refine wpList_append_keep rfl (.tmp 65) (.tmp 69) 39 rfl w7.heap.size 41 j0 (.agg #[.int .i64 0, .string ⟨#[]⟩]) 2 24 Tryz.underlying39 HJ0.out.1 HJ0.out.2.1 HJ0.out.2.2.1 HJ0.out.2.2.2 rfl (by decide) hd hs.length (hs.flatMap Hd.cells) rfl (HS.out.hrow.alloc _) (some ⟨wr.heap.size, 0, none⟩) 1 1 (Hd.cells ⟨lev, txt⟩) rfl rfl (fun h => by cases h) (bk.snews_at rfl _ _) (fun u hu => by simp only [Hd.cells, List.mem_cons, List.not_mem_nil, or_false] at hu; rcases hu with rfl | rfl <;> rfl) hm1 hm2 hba ?_; intro hd' wa hown1 hkp1 hgr1 hblk1; have HM := Lib.hid (HS.out.mid hgr1); have HO1 := Lib.hid hown1; have HG1 := Lib.hid hgr1; clear hown1 hkp1 hgr1 hblk1)
          | (at_builtin; refine wpList_append_keep rfl (.tmp 71) (.tmp 73) 23 rfl w7.heap.size 9 i0 (.string ⟨#[]⟩) 1 16 Tryz.underlying23 HI0.out.1 HI0.out.2.1 HI0.out.2.2.1 HI0.out.2.2.2 rfl (by decide) lv hs.length ((hs.map (·.text)).map .string) rfl (HM.out.1.alloc _) (some ⟨wa.heap.size, 0, none⟩) 1 1 [.string txt] rfl rfl (fun h => by cases h) (news_at rfl _ _) (fun u hu => by rw [List.mem_singleton.1 hu]; rfl) hm1 hm3 (by have := HM.out.2.size; simp; omega) ?_; intro lv' wb hown2 hkp2 hgr2 hblk2; have HN := Lib.hid (HS.out.next hnx.out hh100 HO1.out HG1.out hown2 hgr2); clear hown2 hkp2 hgr2 hblk2))
        go_roundw
        case rel => exact ⟨k + 1, hd', lv', _, by omega, by go_num, rfl, rfl, HN⟩
        case measure => simp only [RowKit.intOf]; omega
    · obtain rfl : k = l.length := by omega
      have hlev : hs.map (·.level) = l := by rw [HS.out.lev, List.take_length]
      have hslen := HS.out.len
      have HLEV := Lib.hid hlev
      have HSL := Lib.hid hslen
      have hs60 : hs.length ≤ 60 := by omega
      have HTr := Lib.hid (HT.out.under HLOW.out hBw.out)
      have cS1 := secs_any HTr.out hd hs (hdsIn_row HS.out.hrow) (by omega) (fun h hh => by have := HS.out.sz h hh; omega)
      clear hlev hslen hk hlt
      go_wp2_with fail
      refine cS1.mono ?_
      rintro e w8 ⟨s, ids, rfl, hch, hrs, hb8⟩
      have HS8 := Lib.hid (row_on HS.out.hrow hb8)
      have cS2 := secs_any (HTr.out.on hb8) hd hs (hdsIn_row HS8.out) (by omega) (fun h hh => by have := HS.out.sz h hh; omega)
      have HCH := Lib.hid hch
      have HRS := Lib.hid hrs
      have HB8 := Lib.hid hb8
      clear hch hrs hb8 cS1
      go_wp2_with fail
      refine cS2.mono ?_
      rintro e w9 ⟨r, ids', rfl, hch', hrr, hb9⟩
      obtain rfl := HCH.out.uniq hch'
      have hidl : ids.length = hs.length := by rw [HCH.out.1, List.length_map]
      have HSEC := Lib.hid (secsOf_len hidl)
      obtain ⟨S, hSe⟩ : ∃ S, secsOf hs ids = S := ⟨_, rfl⟩
      have HCH2 := Lib.hid (fun ids2 (h2 : Chain (hs.map (·.text.data.toList)) ids2) => show secsOf hs ids2 = S by rw [← HCH.out.uniq h2]; exact hSe)
      rw [hSe] at HRS hrr HSEC
      replace hSe := Lib.hid hSe
      have hw7r := HS.out.below.size
      have hW7 := HNS.out.below.size
      have hr8 := HB8.out.size
      have h89 := hb9.size
      have hB79 := (HS.out.below.trans (HB8.out.mono HS.out.below.size)).trans (hb9.mono (by omega))
      have hT9 := HNS.out.two.below hB79
      have hL9 := HNS.out.lent.on hB79
      have hS9 := row_on HRS.out hb9
      have hV9 := row_on (row_on HS.out.lrow HB8.out) hb9
      have hlt7 := fun g (hg : bk.All3 (fun g => _ ∧ g ≠ w2.heap.size) (fun _ => False) w2.heap.size g) => show g < w7.heap.size by
        rcases hg with hg | hg | hg
        · exact (HNS.out.two.lt g (.inl hg)).2
        · exact hg.elim
        · omega
      have HLT7 := Lib.hid hlt7
      obtain ⟨a5, c5, rfl⟩ : ∃ a c, lv = .slice a l.length c := by
        obtain ⟨a, c, h⟩ := row_slice HS.out.lrow
        exact ⟨a, c, by rw [h, HSL.out]⟩
      have hsn8 := Lib.hid (fun g (hg : s.ownBlock = some g) => HRS.out.lt g hg)
      have hrn9 := Lib.hid (fun g (hg : r.ownBlock = some g) => hrr.lt g hg)
      have hvn7 := Lib.hid (fun g (hg : (Value.slice a5 l.length c5).ownBlock = some g) => HS.out.lrow.lt g hg)
      have hb2 : w2.heap.size < w7.heap.size := HLT7.out _ (.inr (.inr rfl))
      have hW2 := HB2.out.size
      have HB9 := Lib.hid (HNS.out.below.trans (hB79.mono HNS.out.below.size))
      have cK1 := bk.two_secs hT9 s S (bk.row_base (by rw [HSEC.out]; exact hS9) (by omega)) (fun g hg hA => by have h1 := (hsn8.out g hg).1; have h2 := HLT7.out g hA; omega) (by simp) (by rw [HSEC.out]; omega) (by omega)
      have HL9 := Lib.hid hL9
      have HV9 := Lib.hid hV9
      have HR9 := Lib.hid hrr
      clear hlt7 hT9 hL9 hS9 hV9 hB79 hrr hb9 cS2 HRS HS8
      go_wp2_with fail
      refine cK1.mono ?_
      rintro e w10 ⟨rfl, ⟨G1, hK10, hG1⟩, hf10⟩
      have HK10 := Lib.hid hK10
      have HL10 := Lib.hid (show LentI w10 W.heap.size gm cm l from ⟨hf10.row HL9.out.row (fun g hg e => by
        have h : gm = g := Option.some.inj hg
        subst h
        exact HNS.out.far.2 (e.resolve_left (fun h => h))), HL9.out.cap⟩)
      have HV10 := Lib.hid (hf10.row HV9.out (fun g hg e => by
        have h1 := (hvn7.out g hg).1
        have h2 := e.resolve_left (fun h => h)
        omega))
      have HR10 := Lib.hid (hf10.row HR9.out (fun g hg e => by
        have h1 := (hrn9.out g hg).1
        have h2 := e.resolve_left (fun h => h)
        omega))
      have HB10 := Lib.hid (hf10.on_below (fun k hk => by have h2 := hk.resolve_left (fun h => h); omega) HB9.out (Nat.le_refl _))
      have h910 := hf10.size
      have HG1 := Lib.hid (fun g (h : G1 g) => show s.ownBlock = some g ∨ w9.heap.size ≤ g from (hG1 g h).resolve_left (fun h => h))
      have cK2 := bk.two_secs hK10 r S (bk.row_base (by rw [HSEC.out]; exact HR10.out) (by omega)) (fun g hg hA => by
        have h1 := hrn9.out g hg
        rcases hA with hA | hA | hA
        · have := HLT7.out g (.inl hA); omega
        · rcases HG1.out g hA with h | h
          · have := (hsn8.out g h).2; omega
          · omega
        · omega) (by simp) (by rw [HSEC.out]; omega) (by omega)
      clear hK10 hf10 hG1 cK1 HL9 HV9 HR9 HB9
      go_wp2_with fail
      refine cK2.mono ?_
      rintro e w11 ⟨rfl, ⟨G2, hK11, hG2⟩, hf11⟩
      have hE : EndSt W w7.heap.size (fun g => F2 g ∧ g ≠ w2.heap.size) G2 w2.heap.size gm cm l hs S x y s r (.slice a5 l.length c5) w11 := by
        refine ⟨hK11, ⟨hf11.row HL10.out.row (fun g hg e => ?_), HL10.out.cap⟩, hf11.row HV10.out (fun g hg e => ?_), hf11.on_below (fun k hk => ?_) HB10.out (Nat.le_refl _)⟩
        · have h : gm = g := Option.some.inj hg
          subst h
          have hgl := HNS.out.lent.lt.2
          rcases e with e | e
          · rcases HG1.out _ e with h | h
            · have := (hsn8.out _ h).1; omega
            · omega
          · exact HNS.out.far.2 e
        · have h9 := hvn7.out g hg
          rcases e with e | e
          · rcases HG1.out _ e with h | h
            · have := (hsn8.out _ h).1; omega
            · omega
          · omega
        · rcases hk with e | e
          · rcases HG1.out _ e with h | h
            · have := (hsn8.out _ h).1; omega
            · omega
          · omega
      have HE11 := Lib.hid hE
      have cN := rnums_any (w := w11) (.slice a0 l.length cap0) l (HU.out.below hE.below) (by omega)
      clear hK11 hG2 hf11 hE cK2 HK10 HL10 HV10 HR10 HB10 HG1
      go_wp2_with fail
      refine cN.mono ?_
      rintro e w12 ⟨n, rfl, hn, hb12⟩
      have HE12 := Lib.hid (HE11.out.on hb12)
      have cA1 := same_any (w := w12) x n (texts (allN l)) (texts (allN l)) HE12.out.tx.1 (namesIn_row (by rw [HAL.out]; exact hn)) (by rw [HAL.out]; omega) (by rw [HAL.out]; omega)
      rw [sameL_refl] at cA1
      clear hn hb12 cN HE11
      go_wp2_with fail
      refine cA1.mono ?_
      rintro e w13 ⟨rfl, hb13⟩
      have HE13 := Lib.hid (HE12.out.on hb13)
      have cA2 := same_any (w := w13) x y (texts (allN l)) (texts (allN l)) HE13.out.tx.1 HE13.out.tx.2.1 (by rw [HAL.out]; omega) (by rw [HAL.out]; omega)
      rw [sameL_refl] at cA2
      clear hb13 cA1 HE12
      go_wp2_with fail
      refine cA2.mono ?_
      rintro e w14 ⟨rfl, hb14⟩
      have HE14 := Lib.hid (HE13.out.on hb14)
      have cSt := stays_ints a0 cap0 l HE14.out.lent (HU.out.below HE14.out.below) (by omega)
      clear hb14 cA2 HE13
      go_wp2_with fail
      refine cSt.mono ?_
      rintro e w15 ⟨rfl, hb15⟩
      have HE15 := Lib.hid (HE14.out.on hb15)
      have cR := rsecs_any (w := w15) (HT.out.under HLOW.out HE15.out.below) a0 a5 cap0 c5 hs (by rw [HLEV.out, HSL.out]; exact HU.out.below HE15.out.below) (by rw [HSL.out]; exact namesIn_row (by rw [List.length_map]; exact HE15.out.lrow)) (by omega) (fun h hh => by have := HS.out.sz h hh; omega)
      rw [HSL.out] at cR
      clear hb15 cSt HE14
      go_wp2_with fail
      refine cR.mono ?_
      rintro e w16 ⟨q, ids2, rfl, hch2, hq, hb16⟩
      rw [HCH2.out ids2 hch2] at hq
      have HE16 := Lib.hid (HE15.out.on hb16)
      have cS3 := bk.same_secs (w := w16) s q S S HE16.out.tx.2.2.1 (bk.secsW_row hq) (by rw [HSEC.out]; omega) (by rw [HSEC.out]; omega)
      rw [bk.sameS_refl] at cS3
      clear hb16 hq hch2 cR HE15
      go_wp2_with fail
      refine cS3.mono ?_
      rintro e w17 ⟨rfl, hb17⟩
      have HE17 := Lib.hid (HE16.out.on hb17)
      have cS4 := bk.same_secs (w := w17) s r S S HE17.out.tx.2.2.1 HE17.out.tx.2.2.2 (by rw [HSEC.out]; omega) (by rw [HSEC.out]; omega)
      rw [bk.sameS_refl] at cS4
      clear hb17 cS3 HE16
      go_wp2_with fail
      refine cS4.mono ?_
      rintro e w18 ⟨rfl, hb18⟩
      have HE18 := Lib.hid (HE17.out.on hb18)
      have cAp := bk.two_apart HE18.out.two (by simp) (by simp) (fun L hL => by
        have : L = texts (allN l) := by simpa using hL
        rw [this, HAL.out]; omega) (fun L hL => by
        have : L = S := by simpa using hL
        rw [this, HSEC.out]; omega) HE18.out.below.size
      clear hb18 cS4 HE17
      go_wp2_with fail
      refine cAp.mono ?_
      rintro e w19 ⟨rfl, hf19⟩
      have HF := Lib.hid (hf19.on_below (fun k hk => by
        rcases hk with hk | hk | hk
        · exact (HE18.out.two.lt k (.inl hk)).1
        · exact (HE18.out.two.lt k (.inr hk)).1
        · rw [hk]; exact HE18.out.two.ltb) HE18.out.below (Nat.le_refl _))
      clear hf19 cAp
      go_wp2_with fail
      go_ret
      exact ⟨rfl, HF.out⟩

theorem numberTells_walk (u v : Value) (W : World) (hT : Tabs W) (h : ∃ l : List Int, RowIn W W.heap.size u (l.map (.int .i64)) ∧ ∀ z ∈ l, (Lit.int .i64 z).wf = true) (h' : ∃ l : List ByteArray, RowIn W W.heap.size v (l.map Value.string) ∧ ∀ s ∈ l, s.size ≤ 9223372036854775807) :
    Calls Tryz.prog 3 #[u, v] W fun e w' => e = .returned (.bool true) ∧ Below W.heap.size W w' := by
  obtain ⟨l, ⟨a0, cap0, rfl, hlc, hcm, hr⟩, -⟩ := h
  obtain ⟨T, ⟨a1, cap1, rfl, hlc', hcm', hr'⟩, hsz⟩ := h'
  simp only [List.length_map] at *
  by_cases hin : l.length ≤ 60 ∧ 0 < T.length ∧ T.length ≤ 60
  · obtain ⟨hl, hT0, hT1⟩ := hin
    have hI : IntsIn W (.slice a0 l.length cap0) l := by
      rcases hr with hr | ⟨b, o, ha, hb, hc⟩
      · have hr' : l = [] := by simpa using hr
        subst hr'
        exact .inl ⟨rfl, _, _, rfl⟩
      · subst ha
        exact .inr ⟨b, o, cap0, rfl, hb, fun i h => by
          have h9 := hc i h
          rw [List.getElem_map] at h9
          exact h9⟩
    have hN : NamesIn W (.slice a1 T.length cap1) T := by
      rcases hr' with hr | ⟨b, o, ha, hb, hc⟩
      · have hr' : T = [] := by simpa using hr
        subst hr'
        exact .inl ⟨rfl, _, _, rfl⟩
      · subst ha
        exact .inr ⟨b, o, cap1, rfl, hb, fun i h => by
          have h9 := hc i h
          rw [List.getElem_map] at h9
          exact h9⟩
    exact tells_main a0 a1 cap0 cap1 l T W hT hI hN hl hT0 hT1 hsz
  · have hcase : decide ((60 : Int) < l.length) = true ∨ (decide ((60 : Int) < l.length) = false ∧ ((T.length : Int) == 0) = true) ∨ (decide ((60 : Int) < l.length) = false ∧ ((T.length : Int) == 0) = false ∧ decide ((60 : Int) < T.length) = true) := by
      simp only [decide_eq_false_iff_not, decide_eq_true_eq, beq_iff_eq, beq_eq_false_iff_ne, ne_eq]
      omega
    have ha := fun w => @alive_any w
    have HT := Lib.hid hT
    have hlz : (l.length : Int) ≤ 9223372036854775807 := by omega
    have htz : (T.length : Int) ≤ 9223372036854775807 := by omega
    clear hr hr' hT hin hsz
    rcases hcase with t1 | ⟨t1, t2⟩ | ⟨t1, t2, t3⟩
    all_goals go_enter Tryz.func3, Tryz.ntmps3
    all_goals go_wp2_with fail
    all_goals refine (ha _ HT.out).mono ?_
    all_goals rintro e w1 ⟨rfl, hb1⟩
    all_goals go_wp2_with fail
    all_goals go_ret
    all_goals exact ⟨rfl, hb1⟩
end Go.Proofs.YtbblgnbafecdmaaGreatDoor
