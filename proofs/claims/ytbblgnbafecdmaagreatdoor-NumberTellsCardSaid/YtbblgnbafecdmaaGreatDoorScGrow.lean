/- (*bowdlerbook.Book).growSecs and markedSecs: the walks. -/
import Derived.Test.YtbblgnbafecdmaaGreatDoorScPut
import Derived.Test.YtbblgnbafecdmaaGreatDoorScTexts
namespace Go.Proofs.YtbblgnbafecdmaaGreatDoor.bk
open Go.RowKit Go.Lib

/-- behind growing: lists, each what was kept with smarks behind it -/
def SGrowPost (base : Nat) (F : Nat → Prop) (b : Nat) (vT vW vS vX : Value) (vs : List Value) (Ls : List (List Sec)) (w : World) (e : Ending) (w' : World) : Prop :=
  ∃ vo os, e = .returned vo ∧ w'.ownsRow w.heap.size 42 1 vo os.length os ∧ os.length = vs.length ∧
    (∀ (j : Nat) (u : Value), os[j]? = some u → ∃ N, N ≤ 100000 ∧ w'.ownsRow base 52 4 u N ((smarks j 0 N).flatMap Sec.cells)) ∧ BookVc base F b vT vW vS vX vs (smarked vs.length Ls) w' ∧ Frame F w w' ∧ (∀ (j : Nat) (u : Value) (g : Nat), os[j]? = some u → u.ownBlock = some g → F g ∨ w.heap.size ≤ g)

/-- what stands at the head of each round: os: the lists grown so far -/
structure SGrowSt (base : Nat) (F : Nat → Prop) (b : Nat) (vT vW vS vX : Value) (vs : List Value) (Ls : List (List Sec)) (w0 : World) (k : Nat) (vo : Value) (os : List Value) (w : World) : Prop where
  len : os.length = k
  out : w.ownsRow w0.heap.size 42 1 vo os.length os
  rows : ∀ (j : Nat) (u : Value), os[j]? = some u → ∃ N, N ≤ 100000 ∧ w.ownsRow base 52 4 u N ((smarks j 0 N).flatMap Sec.cells)
  ats : ∀ (j : Nat) (u v : Value) (g : Nat), os[j]? = some u → vs[j]? = some v → u.ownBlock = some g → v.ownBlock = some g ∨ w0.heap.size ≤ g
  book : BookVc base F b vT vW vS vX vs (smarked vs.length Ls) w
  frame : Frame F w0 w

/-- list l of a book while it grows: v: the list that is kept, n: its length, m: how many smarks the grown one has -/
structure SLGrow (base : Nat) (i n m : Nat) (v l : Value) (w0 w : World) : Prop where
  old : w.ownsRow base 52 4 v n ((smarks i 0 n).flatMap Sec.cells)
  new : w.ownsRow base 52 4 l m ((smarks i 0 m).flatMap Sec.cells)
  le : n ≤ m
  vlt : ∀ g, v.ownBlock = some g → g < w0.heap.size
  at_ : l.ownBlock = v.ownBlock ∨ ∀ g, l.ownBlock = some g → w0.heap.size ≤ g
  frame : Frame (fun g => v.ownBlock = some g) w0 w
theorem SLGrow.start {base i n : Nat} {v : Value} {w : World} (h : w.ownsRow base 52 4 v n ((smarks i 0 n).flatMap Sec.cells)) : SLGrow base i n n v v w w :=
  ⟨h, h, Nat.le_refl _, fun g hg => (h.lt g hg).2, .inl rfl, Frame.refl _ _⟩
/-- smarks are made: nothing else changes -/
theorem SLGrow.below {base i n m : Nat} {v l : Value} {w0 w w' : World} (h : SLGrow base i n m v l w0 w) (hb : Below w.heap.size w w') : SLGrow base i n m v l w0 w' :=
  ⟨row_on h.old hb, row_on h.new hb, h.le, h.vlt, h.at_, h.frame.trans (Frame.of_below (F := fun _ => False) hb) (fun _ h => h.elim)⟩
/-- they are put behind the list -/
theorem SLGrow.step {base i n m k : Nat} {v l l' : Value} {w0 w w' : World} (h : SLGrow base i n m v l w0 w) (hown : w'.ownsRow base 52 4 l' (m + k) ((smarks i 0 m).flatMap Sec.cells ++ (smarks i m k).flatMap Sec.cells)) (hkeep : w'.ownsRow base 52 4 l m ((smarks i 0 m).flatMap Sec.cells)) (hg : w.grownBy w' l.ownBlock) (hat : l'.ownBlock = l.ownBlock ∨ (l'.ownBlock = some w.heap.size ∧ w.grownBy w' none)) : SLGrow base i n (m + k) v l' w0 w' := by
  have hs := h.frame.size
  rw [← List.flatMap_append] at hown
  have e0 := smarks_add i 0 m k
  rw [Nat.zero_add] at e0
  rw [← e0] at hown
  refine ⟨?_, hown, Nat.le_trans h.le (Nat.le_add_right _ _), h.vlt, ?_, ?_⟩
  · rcases h.at_ with e | e
    · exact row_prefix h.old h.new e.symm h.le hkeep
    · refine row_kept h.old (fun g hg' => hg.block g (h.old.lt g hg').2 (fun e2 => ?_))
      have h1 := h.vlt g hg'
      have h2 := e g e2.symm
      omega
  · rcases hat with e | ⟨e, -⟩
    · rw [e]
      exact h.at_
    · right
      intro g hg'
      rw [e] at hg'
      simp at hg'; omega
  · refine h.frame.trans (Frame.of_grown (F := fun g => l.ownBlock = some g) hg (fun k hk => hk)) (fun g hg' => ?_)
    rcases h.at_ with e | e
    · left; rw [← e]; exact hg'
    · right; exact e g hg'

theorem set_same {α : Type} {l : List α} {k : Nat} {y : α} (h : l[k]? = some y) : l.set k y = l := by
  apply List.ext_getElem?
  intro i
  by_cases hik : k = i
  · subst hik
    rw [List.getElem?_set_self (List.getElem?_eq_some_iff.1 h).1, h]
  · rw [List.getElem?_set_ne hik]

theorem SGrowSt.start {base : Nat} {F : Nat → Prop} {b : Nat} {vT vW vS vX : Value} {vs : List Value} {Ls : List (List Sec)} {w : World} (h : BookVc base F b vT vW vS vX vs (smarked vs.length Ls) w) : SGrowSt base F b vT vW vS vX vs Ls w 0 nilS [] w :=
  ⟨rfl, World.ownsRow_nil _ _ _ _, fun j u h => by simp at h, fun j u v g h => by simp at h, h, Frame.refl _ _⟩
/-- one more list has been grown -/
theorem SGrowSt.step {base : Nat} {F : Nat → Prop} {b k N : Nat} {vT vW vS vX vo vo' v u : Value} {vs os : List Value} {Ls : List (List Sec)} {w0 w w4 w5 : World} {o : Obj} (h0 : BookVc base F b vT vW vS vX vs (smarked vs.length Ls) w0) (h : SGrowSt base F b vT vW vS vX vs Ls w0 k vo os w) (hv : vs[k]? = some v) {n : Nat} (hl : SLGrow base k n N v u w w4) (hN : N ≤ 100000)
    (hX : (smarked vs.length Ls)[k]? = some (secX (smarks k 0 n)))
    (hown : w5.ownsRow w0.heap.size 42 1 vo' (os.length + 1) (os ++ [u])) (hg : (w4.alloc o).grownBy w5 vo.ownBlock) : SGrowSt base F b vT vW vS vX vs Ls w0 (k + 1) vo' (os ++ [u]) w5 := by
  have hXv := h0.vs_.rows k v _ hv hX
  have hvlt : ∀ g, v.ownBlock = some g → g < w0.heap.size := fun g hg => (hXv.lt g hg).2
  have hne : ∀ (j : Nat) (x : Value) (g : Nat), os[j]? = some x → x.ownBlock = some g → v.ownBlock ≠ some g := fun j x g hx hg hvg => by
    have hj : j < os.length := (List.getElem?_eq_some_iff.1 hx).1
    have hlen := h.len
    have hkl : k < vs.length := (List.getElem?_eq_some_iff.1 hv).1
    have hvj : vs[j]? = some vs[j] := List.getElem?_eq_getElem (by omega)
    rcases h.ats j x _ g hx hvj hg with e | e
    · exact h0.vs_.apart j k _ _ g hvj hv (by omega) e hvg
    · have := hvlt g hvg; omega
  have hout4 := hl.frame.row h.out (fun g hg hG => by
    have h1 := (h.out.lt g hg).1
    have h2 := hvlt g hG
    omega)
  have f45 : Frame (fun g => vo.ownBlock = some g) w4 w5 := (Frame.of_below (F := fun g => vo.ownBlock = some g) ((Below.refl _ w4).alloc (Nat.le_refl _) o)).trans (Frame.of_grown (F := fun g => vo.ownBlock = some g) hg (fun k hk => hk)) (fun _ h => .inl h)
  have hrow5 : ∀ {x : Value} {m : Nat} {xs : List Value}, w4.ownsRow base 52 4 x m xs → w5.ownsRow base 52 4 x m xs := fun hx => f45.row hx (fun g hg hG => rows_apart hx hout4 (by decide) g hg hG)
  have hbook4 := h.book.change hv hX hl.frame (Y := secX (smarks k 0 n)) (by unfold secX; rw [smarks_len]; exact hl.old)
  rw [set_same hX] at hbook4
  refine ⟨by rw [List.length_append, List.length_singleton, h.len], by rw [List.length_append, List.length_singleton]; exact hown, ?_, ?_, hbook4.frame f45 (fun g hF hG => ?_), (h.frame.trans hl.frame (fun g hG => .inl (h0.vs_.inV v (List.mem_of_getElem? hv) g hG))).trans f45 (fun g hG => .inr (h.out.lt g hG).1)⟩
  · intro j x hx
    rcases get_snoc hx with ⟨h1, h2⟩ | ⟨h1, rfl⟩
    · obtain ⟨N', hN', hr⟩ := h.rows j x h2
      exact ⟨N', hN', hrow5 (hl.frame.row hr (fun g hg => hne j x g h2 hg))⟩
    · have hlen := h.len
      obtain rfl : j = k := by omega
      exact ⟨N, hN, hrow5 hl.new⟩
  · intro j x y g hx hy hg'
    rcases get_snoc hx with ⟨h1, h2⟩ | ⟨h1, rfl⟩
    · exact h.ats j x y g h2 hy hg'
    · have hlen := h.len
      obtain rfl : j = k := by omega
      obtain rfl : v = y := Option.some.inj (hv.symm.trans hy)
      rcases hl.at_ with e | e
      · left; rw [← e]; exact hg'
      · right
        have := e g hg'
        have := h.frame.size
        omega
  · have h1 := (h0.lt g hF).2
    have h2 := (h.out.lt g hG).1
    omega

set_option maxRecDepth 100000 in
set_option maxHeartbeats 4000000 in
theorem grow_secs {base : Nat} {F : Nat → Prop} {b : Nat} {vT vW vS vX : Value} {vs : List Value} {Ls : List (List Sec)} {w : World} (h : BookVc base F b vT vW vS vX vs (smarked vs.length Ls) w) (hlen : Ls.length = vs.length) (hn : vs.length ≤ 250) (hL : ∀ L ∈ Ls, L.length ≤ 90000) (hbw : base ≤ w.heap.size) :
    Calls Tryz.prog 47 #[.pointer (some ⟨b, 0, none⟩)] w (SGrowPost base F b vT vW vS vX vs Ls w) := by
  obtain ⟨i0, hi, hz0, hz1, hz2⟩ := info_parts info_seclists
  have HI0 : Hid (Tryz.prog.info? 42 = some i0 ∧ i0.zero = some (.slice none 0 0) ∧ i0.size = 1 ∧ i0.bytes = 24) := ⟨hi, hz0, hz1, hz2⟩
  clear hi hz0 hz1 hz2
  obtain ⟨i1, hi, hz0, hz1, hz2⟩ := info_parts info_sec
  have HI1 : Hid (Tryz.prog.info? 52 = some i1 ∧ i1.zero = some (.agg #[.int .i64 0, .string ⟨#[]⟩, .string ⟨#[]⟩, .string ⟨#[]⟩]) ∧ i1.size = 4 ∧ i1.bytes = 56) := ⟨hi, hz0, hz1, hz2⟩
  clear hi hz0 hz1 hz2
  obtain ⟨a1, cap1, rfl, hc1⟩ := row_form h.vs_.rowT
  have HLEN := Lib.hid hlen
  have HL := Lib.hid hL
  have H := Lib.hid h
  have HS := Lib.hid (SGrowSt.start h)
  have hni : (vs.length : Int) ≤ 250 := by omega
  clear h hlen hL
  go_enter Tryz.func47, Tryz.ntmps47
  go_wp2_with fail
  go_loopw [3, 4] (fun vo i wr => ∃ (k : Nat) (os : List Value) (vo' : Value), k ≤ vs.length ∧ i = .int .i64 k ∧ vo' = vo ∧ Hid (SGrowSt base F b (.slice a1 vs.length cap1) vW vS vX vs Ls w k vo' os wr)) (fun _ i _ => vs.length - (RowKit.intOf i).toNat)
  case atStart => exact ⟨0, [], _, Nat.zero_le _, rfl, rfl, HS⟩
  case round =>
    obtain ⟨k, os, vo, hk, rfl, rfl, HG⟩ := hrel
    have c0 : wr.cell? ⟨b, 12, none⟩ = some (.slice a1 vs.length cap1) := HG.out.book.at_.cell 12
    by_cases hlt : k < vs.length
    · obtain ⟨g1, cc1, he1, -⟩ := row_some HG.out.book.vs_.rowT (by omega)
      cases he1
      have hLk : k < Ls.length := by rw [HLEN.out]; exact hlt
      have ck : wr.cell? ⟨g1, k, none⟩ = some vs[k] := by rw [HG.out.book.vs_.rowT.cellAt k (by omega), List.getElem?_eq_getElem hlt]
      have hvk := Lib.hid (List.getElem?_eq_getElem hlt)
      have hX : (smarked vs.length Ls)[k]? = some (secX (smarks k 0 Ls[k].length)) := by rw [smarked_at _ Ls k hLk, if_pos hlt]
      have HX := Lib.hid hX
      have r1 : wr.ownsRow base 52 4 vs[k] (smarks k 0 Ls[k].length).length ((smarks k 0 Ls[k].length).flatMap Sec.cells) := HG.out.book.vs_.rows k vs[k] _ hvk.out hX
      rw [smarks_len] at r1
      have hLl := HL.out Ls[k] (List.getElem_mem _)
      have hki : (k : Int) < vs.length := by omega
      have hk0 : (0 : Int) ≤ (k : Int) := by omega
      have hos := HG.out.len
      have hosl : os.length ≤ 250 := by omega
      replace hos := Lib.hid hos
      clear hX
      generalize vs[k] = v at *
      generalize Ls[k] = L at *
      obtain ⟨av, cv, rfl, hcv⟩ := row_form r1
      have hst := Lib.hid (SLGrow.start r1)
      have hbw9 : base ≤ wr.heap.size := Nat.le_trans hbw HG.out.frame.size
      have hw9 : w.heap.size ≤ wr.heap.size := HG.out.frame.size
      clear r1
      go_wp2_with fail
      go_loopw [5, 6] (fun l n wx => ∃ (q m : Nat) (l' : Value), q ≤ 12 ∧ Hid (m = L.length + q) ∧ m ≤ 90012 ∧ l' = l ∧ n = .int .i64 q ∧ Hid (SLGrow base k L.length m (.slice av L.length cv) l' wr wx)) (fun _ n _ => 12 - (RowKit.intOf n).toNat)
      case atStart => exact ⟨0, L.length, _, Nat.zero_le _, Lib.hid rfl, by omega, rfl, rfl, hst⟩
      case round =>
        obtain ⟨q, m, l, hq, hm, hmb, rfl, rfl, HQ⟩ := hrel
        obtain ⟨al, cl, rfl, hcl⟩ := row_form HQ.out.new
        have hbq : base ≤ wr.heap.size := Nat.le_trans hbw9 HQ.out.frame.size
        by_cases hlq : q < 12
        · have hqi : (q : Int) < 12 := by omega
          have hm1 : m + 1 ≤ maxLen := by unfold maxLen; omega
          go_wp2_with fail
          refine (mark_secs k m 1 (by omega) (by omega)).mono ?_
          rintro e w1 ⟨mv, rfl, hM, hb1⟩
          obtain ⟨am, cm, rfl, hcm⟩ := row_form hM
          have hnm := secsW_row hM
          have HNM := Lib.hid hnm
          have hml := Lib.hid (smarks_len k m 1)
          have HQ1 := Lib.hid (HQ.out.below hb1)
          have hb1s := hb1.size
          clear hM hb1 hnm
          go_wp2_with (at_builtin; refine wpList_append_keep rfl (.tmp 27) (.tmp 31) 42 rfl base 52 i1 (.agg #[.int .i64 0, .string ⟨#[]⟩, .string ⟨#[]⟩, .string ⟨#[]⟩]) 4 56 Tryz.underlying42 HI1.out.1 HI1.out.2.1 HI1.out.2.2.1 HI1.out.2.2.2 rfl (by decide) (.slice al m cl) m ((smarks k 0 m).flatMap Sec.cells) rfl HQ1.out.new am 1 cm ((smarks k m 1).flatMap Sec.cells) rfl (by rw [secs_len4, hml.out]) (fun h => by have := secs_none (cap := cm) HNM.out (by rw [h, hml.out]); rw [hml.out] at this; exact this) (secs_cells HNM.out (by rw [hml.out])) (sone _) hm1 (by omega) (Nat.le_trans hbq hb1s) ?_; intro v' w2 hown2 hkp2 hgr2 hblk2; have HST := Lib.hid (HQ1.out.step hown2 hkp2 hgr2 hblk2); clear hown2 hkp2 hgr2 hblk2)
          go_roundw
          case rel => exact ⟨q + 1, m + 1, v', by omega, Lib.hid (by rw [hm.out]; omega), by have := hm.out; omega, rfl, by go_num, HST⟩
          case measure => simp only [RowKit.intOf]; omega
        · obtain rfl : q = 12 := by omega
          have hm1 : m + 60 ≤ maxLen := by unfold maxLen; omega
          go_wp2_with fail
          refine (mark_secs k m 60 (by omega) (by omega)).mono ?_
          rintro e w1 ⟨mv, rfl, hM, hb1⟩
          obtain ⟨am, cm, rfl, hcm⟩ := row_form hM
          have hnm := secsW_row hM
          have HNM := Lib.hid hnm
          have hml := Lib.hid (smarks_len k m 60)
          have HQ1 := Lib.hid (HQ.out.below hb1)
          have hb1s := hb1.size
          have tok1 : True := trivial
          clear hM hb1 hnm
          have hout9 := Lib.hid (fun (w' : World) (hf : Frame (fun g => (Value.slice av L.length cv).ownBlock = some g) _ w') (hlt9 : ∀ g, (Value.slice av L.length cv).ownBlock = some g → g < w.heap.size) => hf.row HG.out.out (fun g hg hG => by have h1 := (HG.out.out.lt g hg).1; have h2 := hlt9 g hG; omega))
          have hvl := Lib.hid (fun g hg => ((H.out.vs_.rows k _ _ hvk.out HX.out).lt g hg).2)
          go_wp2_with (first
            | (have _g := tok1; clear tok1; at_builtin; refine wpList_append_keep rfl (.tmp 34) (.tmp 38) 42 rfl base 52 i1 (.agg #[.int .i64 0, .string ⟨#[]⟩, .string ⟨#[]⟩, .string ⟨#[]⟩]) 4 56 Tryz.underlying42 HI1.out.1 HI1.out.2.1 HI1.out.2.2.1 HI1.out.2.2.2 rfl (by decide) (.slice al m cl) m ((smarks k 0 m).flatMap Sec.cells) rfl HQ1.out.new am 60 cm ((smarks k m 60).flatMap Sec.cells) rfl (by rw [secs_len4, hml.out]) (fun h => by have := secs_none (cap := cm) HNM.out (by rw [h, hml.out]); rw [hml.out] at this; exact this) (secs_cells HNM.out (by rw [hml.out])) (sone _) hm1 (by omega) (Nat.le_trans hbq hb1s) ?_; intro u w2 hown2 hkp2 hgr2 hblk2; obtain ⟨g6, c6, rfl, -⟩ := row_some hown2 (by rw [List.length_append, secs_len4, secs_len4, hml.out]; omega); have HST := Lib.hid (HQ1.out.step hown2 hkp2 hgr2 hblk2); clear hown2 hkp2 hgr2 hblk2)
            | (at_builtin; refine wpList_append_keep rfl (.tmp 33) (.tmp 40) 33 rfl w.heap.size 42 i0 (.slice none 0 0) 1 24 Tryz.underlying33 HI0.out.1 HI0.out.2.1 HI0.out.2.2.1 HI0.out.2.2.2 rfl (by decide) _ os.length os rfl ((hout9.out _ HST.out.frame hvl.out).alloc _) (some ⟨w2.heap.size, 0, none⟩) 1 1 [.slice (some ⟨g6, 0, none⟩) (m + 60) c6] rfl rfl (fun h => by cases h) (news_at rfl _ _) (fun u hu => by rw [List.mem_singleton.1 hu]; rfl) (by unfold maxLen; omega) (by omega) (by have := HST.out.frame.size; simp; omega) ?_; intro vo' w5 hown5 hkp5 hgr5 hblk5; have HEND := Lib.hid (HG.out.step H.out hvk.out HST.out (by omega) HX.out hown5 hgr5); clear hown5 hkp5 hgr5 hblk5))
          go_roundw
          case rel => exact ⟨k + 1, _, vo', by omega, by go_num, rfl, HEND⟩
          case measure => simp only [RowKit.intOf]; omega
    · obtain rfl : k = vs.length := by omega
      go_wp2_with fail
      go_ret
      refine ⟨_, os, rfl, HG.out.out, HG.out.len, HG.out.rows, HG.out.book, HG.out.frame, fun j u g hu hg => ?_⟩
      have hj : j < os.length := (List.getElem?_eq_some_iff.1 hu).1
      have hj2 : j < vs.length := by have := HG.out.len; omega
      rcases HG.out.ats j u _ g hu (List.getElem?_eq_getElem hj2) hg with e | e
      · exact .inl (H.out.vs_.inV _ (List.getElem_mem hj2) g e)
      · exact .inr e
end Go.Proofs.YtbblgnbafecdmaaGreatDoor.bk
