/- number.Sections: the walk. -/
import Derived.Test.YtbblgnbafecdmaaGreatDoorAll
import Derived.Test.YtbblgnbafecdmaaGreatDoorChain
import Derived.Test.YtbblgnbafecdmaaGreatDoorStep
import Derived.Deep.RegionHeld3
import Derived.Deep.AppendLies
import Derived.Deep.DeepCutAuto
import Derived.Deep.CutBlock
namespace Go.Proofs.YtbblgnbafecdmaaGreatDoor
open Go.RowKit Go.Lib

set_option maxHeartbeats 400000 in
theorem clone_any (s : ByteArray) (w : World) (hs : s.size ≤ 1000000) :
    Calls Tryz.prog 19 #[.string s] w fun e w' => e = .returned (.string s) ∧ Below w.heap.size w w' := by
  go_enter Tryz.func19, Tryz.ntmps19
  go_wp2_with fail
  refine (Tryz.stringslite_Clone s w (by omega)).mono ?_
  rintro e w1 ⟨rfl, hb1⟩
  go_wp2_with fail
  go_ret
  exact ⟨rfl, hb1⟩

theorem row_base {w : World} {b b' : Nat} {e : TypeId} {size : Nat} {v : Value} {n : Nat} {xs : List Value} (h : w.ownsRow b e size v n xs) (hb : b' ≤ b) : w.ownsRow b' e size v n xs := by
  refine ⟨h.1, ?_⟩
  rcases h.2 with hn | ⟨g, cap, cur, rfl, hbg, rest⟩
  · exact .inl hn
  · exact .inr ⟨g, cap, cur, rfl, Nat.le_trans hb hbg, rest⟩

/-- headings lie in a slice -/
def HdsIn (w : World) (v : Value) (l : List Hd) : Prop :=
  (l = [] ∧ ∃ a cap, v = .slice a 0 cap) ∨ ∃ b o cap, v = .slice (some ⟨b, o, none⟩) l.length cap ∧ b < w.heap.size ∧ ∀ i (h : i < l.length), w.cell? ⟨b, o + i * 2, none⟩ = some (.int .i64 l[i].level) ∧ w.cell? ⟨b, o + i * 2 + 1, none⟩ = some (.string l[i].text)
theorem HdsIn.below {w w' : World} {v : Value} {l : List Hd} (h : HdsIn w v l) (hb : Below w.heap.size w w') : HdsIn w' v l := by
  rcases h with h | ⟨b, o, cap, hv, hlt, hc⟩
  · exact .inl h
  · exact .inr ⟨b, o, cap, hv, Nat.lt_of_lt_of_le hlt hb.size, fun i hi => ⟨(hb.cell (p := ⟨b, o + i * 2, none⟩) hlt).trans (hc i hi).1, (hb.cell (p := ⟨b, o + i * 2 + 1, none⟩) hlt).trans (hc i hi).2⟩⟩
theorem HdsIn.form {w : World} {v : Value} {l : List Hd} (h : HdsIn w v l) : ∃ a cap, v = .slice a l.length cap := by
  rcases h with ⟨rfl, a, cap, rfl⟩ | ⟨b, o, cap, rfl, -⟩
  · exact ⟨_, _, rfl⟩
  · exact ⟨_, _, rfl⟩
theorem HdsIn.cells {w : World} {v : Value} {l : List Hd} {a : Option Addr} {cap : Nat} (h : HdsIn w v l) (hv : v = .slice a l.length cap) (hne : 0 < l.length) : ∃ b o, a = some ⟨b, o, none⟩ ∧ b < w.heap.size ∧ ∀ i (h : i < l.length), w.cell? ⟨b, o + i * 2, none⟩ = some (.int .i64 l[i].level) ∧ w.cell? ⟨b, o + i * 2 + 1, none⟩ = some (.string l[i].text) := by
  rcases h with ⟨rfl, -⟩ | ⟨b, o, cap', rfl, hb, hc⟩
  · simp at hne
  · simp only [Value.slice.injEq] at hv
    exact ⟨b, o, hv.1.symm, hb, hc⟩
theorem intsIn_row {w : World} {base : Nat} {v : Value} {L : List Int} (h : w.ownsRow base 3 1 v L.length (L.map (.int .i64))) : IntsIn w v L := by
  by_cases hL : L = []
  · subst hL
    rcases h.2 with ⟨rfl, _⟩ | ⟨g, cap, cur, rfl, _⟩
    · exact .inl ⟨rfl, _, _, rfl⟩
    · exact .inl ⟨rfl, _, _, rfl⟩
  · have hn : 0 < (L.map (Value.int .i64)).length := by rw [List.length_map]; exact List.length_pos_iff.2 hL
    obtain ⟨g, cap, rfl, _⟩ := row_some h hn
    refine .inr ⟨g, 0, cap, rfl, (h.lt g rfl).2, fun i hi => ?_⟩
    rw [h.cellAt (0 + i) (by omega), Nat.zero_add]
    simp [hi]
theorem info_sec : (Tryz.prog.info? 52).map (fun i => (i.zero, i.size, i.bytes)) = some (some (.agg #[.int .i64 0, .string ⟨#[]⟩, .string ⟨#[]⟩, .string ⟨#[]⟩]), 4, 56) := by kernel_rfl

theorem text_at {l : List Int} {k : Nat} (h : k < l.length) : ∃ X : ByteArray, ((texts (allN l)).map Value.string)[k]? = some (.string X) ∧ X.data.toList = numK (stC (l.take k)) l[k] := by
  have hl : k < (allN l).length := by rw [allN_len]; exact h
  refine ⟨⟨(allN l)[k].toArray⟩, ?_, ?_⟩
  · simp [texts, hl]
  · have e : l = l.take k ++ (l[k] :: l.drop (k + 1)) := by rw [← List.drop_eq_getElem_cons h, List.take_append_drop]
    have e2 : (allN l)[k]? = some (numK (stC (l.take k)) l[k]) := by
      conv => lhs; rw [e]
      rw [allN_app]
      have hk : (allN (l.take k)).length = k := by rw [allN_len, List.length_take]; omega
      rw [List.getElem?_append_right (by omega), hk, Nat.sub_self]
      rfl
    rw [List.getElem?_eq_getElem hl] at e2
    simpa using e2
theorem numK_len {c : List Nat} {k : Int} (h : c.length = 6) (hc : ∀ x ∈ c, x ≤ 1000) : (numK c k).length ≤ 132 := by
  unfold numK
  split
  · next hok =>
    have := okLev_iff.1 hok
    have h6 : (nextC c k).length = 6 := nextC_len h
    have hle : ∀ x ∈ (nextC c k).take k.toNat, x ≤ 100000 := fun x hx => by
      have hx := List.mem_of_mem_take hx
      unfold nextC at hx
      rw [if_pos hok] at hx
      have := bump_le hc x hx; omega
    have := numF_len ((nextC c k).take k.toNat) [] hle
    rw [List.length_take] at this
    simp at this; omega
  · simp
/-- an owned row lies apart from the anchors -/
theorem anc_apart {base : Nat} {F : Nat → Prop} {b : Nat} {had : List (List UInt8)} {w : World} (h : AncAt base F b had w) {e : TypeId} {sz : Nat} {v : Value} {n : Nat} {xs : List Value} (hr : w.ownsRow base e sz v n xs) (he : e ≠ 58) : ∀ g, v.ownBlock = some g → ¬ F g := by
  intro g hg hF
  obtain ⟨-, cur, h1⟩ := row_block hr hg
  rcases h.form with ⟨h2, -, h3⟩ | ⟨m, n, h2, -, -, h4, h3⟩
  · rw [(h3 g).1 hF, h2] at h1
    simp only [Option.some.injEq, Obj.cells.injEq] at h1
    exact he h1.2.1.symm
  · rcases (h3 g).1 hF with rfl | rfl
    · rw [h2] at h1
      simp only [Option.some.injEq, Obj.cells.injEq] at h1
      exact he h1.2.1.symm
    · obtain ⟨D, ⟨es, clock, h5, -⟩, -⟩ := h4.at'
      rw [h5] at h1; cases h1
/-- three cells that stay -/
theorem s3_below {w w' : World} {X o1 o2 G o3 : Nat} {v1 v2 v3 : Value} (hb : Below w.heap.size w w') (h : w.cell? ⟨X, o1, none⟩ = some v1 ∧ w.cell? ⟨X, o2, none⟩ = some v2 ∧ w.cell? ⟨G, o3, none⟩ = some v3) :
    w'.cell? ⟨X, o1, none⟩ = some v1 ∧ w'.cell? ⟨X, o2, none⟩ = some v2 ∧ w'.cell? ⟨G, o3, none⟩ = some v3 :=
  ⟨(hb.cell (p := ⟨X, o1, none⟩) (World.block_lt_of_cell? w _ h.1)).trans h.1, (hb.cell (p := ⟨X, o2, none⟩) (World.block_lt_of_cell? w _ h.2.1)).trans h.2.1, (hb.cell (p := ⟨G, o3, none⟩) (World.block_lt_of_cell? w _ h.2.2)).trans h.2.2⟩
theorem Frame.cell {F : Nat → Prop} {w w' : World} (h : Frame F w w') {b o : Nat} {v : Value} (hc : w.cell? ⟨b, o, none⟩ = some v) (hF : ¬ F b) : w'.cell? ⟨b, o, none⟩ = some v := by
  have hlt : b < w.heap.size := World.block_lt_of_cell? w ⟨b, o, none⟩ hc
  exact (World.cell?_of_block (a := ⟨b, o, none⟩) (h.block b hlt hF)).trans hc
theorem s3_frame {F : Nat → Prop} {w w' : World} {X o1 o2 G o3 : Nat} {v1 v2 v3 : Value} (hf : Frame F w w') (hX : ¬ F X) (hG : ¬ F G) (h : w.cell? ⟨X, o1, none⟩ = some v1 ∧ w.cell? ⟨X, o2, none⟩ = some v2 ∧ w.cell? ⟨G, o3, none⟩ = some v3) :
    w'.cell? ⟨X, o1, none⟩ = some v1 ∧ w'.cell? ⟨X, o2, none⟩ = some v2 ∧ w'.cell? ⟨G, o3, none⟩ = some v3 :=
  ⟨hf.cell h.1 hX, hf.cell h.2.1 hX, hf.cell h.2.2 hG⟩

/-- behind k headings -/
structure SecSt (w0 : World) (A : Nat) (hs : List Hd) (k : Nat) (nv out : Value) (F : Nat → Prop) (ids : List (List UInt8)) (w : World) : Prop where
  chain : Chain ((hs.take k).map (·.text.data.toList)) ids
  anc : AncAt w0.heap.size F A ids w
  row : w.ownsRow w0.heap.size 52 4 out k ((secsOf (hs.take k) ids).flatMap Sec.cells)
  num : w.ownsRow w0.heap.size 9 1 nv hs.length ((texts (allN (hs.map (·.level)))).map .string)
  below : Below w0.heap.size w0 w
theorem SecSt.on {w0 : World} {A : Nat} {hs : List Hd} {k : Nat} {nv out : Value} {F : Nat → Prop} {ids : List (List UInt8)} {w w' : World} (h : SecSt w0 A hs k nv out F ids w) (hb : Below w.heap.size w w') : SecSt w0 A hs k nv out F ids w' :=
  ⟨h.chain, h.anc.below hb, row_kept h.row (fun g hg => hb.block g (h.row.lt g hg).2), row_kept h.num (fun g hg => hb.block g (h.num.lt g hg).2), h.below.trans (hb.mono h.below.size)⟩

/-- two rows of different element types lie in different blocks -/
theorem rows_apart {w : World} {base base' : Nat} {e e' : TypeId} {sz sz' : Nat} {v v' : Value} {n n' : Nat} {xs xs' : List Value} (h : w.ownsRow base e sz v n xs) (h' : w.ownsRow base' e' sz' v' n' xs') (he : e ≠ e') : ∀ g, v.ownBlock = some g → v'.ownBlock ≠ some g := by
  intro g hg hg'
  obtain ⟨-, c1, h1⟩ := row_block h hg
  obtain ⟨-, c2, h2⟩ := row_block h' hg'
  rw [h1] at h2
  simp only [Option.some.injEq, Obj.cells.injEq] at h2
  exact he h2.2.1
theorem SecSt.next {w0 : World} {A : Nat} {hs : List Hd} {k : Nat} {nv out v' : Value} {F F' : Nat → Prop} {ids : List (List UInt8)} {wC wN wA : World} {o : Obj} {lev : Int} {txt N ID : ByteArray} (h : SecSt w0 A hs k nv out F ids wC) (hk : k < hs.length) (hh : hs[k] = ⟨lev, txt⟩)
    (hf : Frame F wC wN) (hanc : AncAt w0.heap.size F' A (ids ++ [ID.data.toList]) wN) (hn : NextIs ids (slugL txt.data.toList) ID.data.toList) (hN : N.data.toList = numK (stC ((hs.take k).map (·.level))) lev)
    (hown : wA.ownsRow w0.heap.size 52 4 v' (k + 1) ((secsOf (hs.take k) ids).flatMap Sec.cells ++ Sec.cells ⟨lev, N, ID, txt⟩)) (hg : (wN.alloc o).grownBy wA out.ownBlock) : SecSt w0 A hs (k + 1) nv v' F' (ids ++ [ID.data.toList]) wA := by
  have htk := List.take_succ_eq_append_getElem hk
  rw [hh] at htk
  have hidl : ids.length = (hs.take k).length := by rw [h.chain.1, List.length_map]
  have hrN := hf.row h.row (anc_apart h.anc h.row (by decide))
  have hnN := hf.row h.num (anc_apart h.anc h.num (by decide))
  have hBN : Below w0.heap.size w0 wN := h.below.trans (hf.to_below (fun k hk => (h.anc.lt k hk).1) h.below.size)
  have hB1 := hBN.alloc hBN.size o
  have hsz : w0.heap.size ≤ (wN.alloc o).heap.size := hB1.size
  refine ⟨?_, ?_, ?_, ?_, hB1.grown hg hsz (fun g hg => (hrN.lt g hg).1)⟩
  · rw [htk, List.map_append]
    exact h.chain.snoc hn
  · have ha := hanc.below ((Below.refl _ wN).alloc (Nat.le_refl _) o)
    exact ha.frame (Frame.of_grown (F := fun g => out.ownBlock = some g) hg (fun _ h => h)) (fun g h1 h2 => anc_apart ha (hrN.alloc o) (by decide) g h2 h1)
  · rw [htk, secsOf_snoc ⟨lev, txt⟩ ID.data.toList hidl, List.flatMap_append]
    have e1 : (⟨(numK (stC ((hs.take k).map (·.level))) lev).toArray⟩ : ByteArray) = N := ba_eq (by rw [hN])
    have e2 : (⟨ID.data.toList.toArray⟩ : ByteArray) = ID := ba_eq rfl
    simp only [e1, e2]
    simpa using hown
  · exact row_kept (hnN.alloc o) (fun g hgb => hg.block g ((hnN.alloc o).lt g hgb).2 (fun e => rows_apart hnN hrN (by decide) g hgb e.symm))
/-- the levels so far -/
structure LevSt (w0 : World) (hs : List Hd) (k : Nat) (out : Value) (w : World) : Prop where
  row : w.ownsRow w0.heap.size 3 1 out k (((hs.take k).map (·.level)).map (.int .i64))
  below : Below w0.heap.size w0 w
theorem take_map {α β : Type} (f : α → β) {l : List α} {k : Nat} (h : k < l.length) : (l.take (k + 1)).map f = (l.take k).map f ++ [f l[k]] := by
  rw [List.take_succ_eq_append_getElem h, List.map_append]; rfl
theorem news_two {w : World} (o : Obj) (v : Value) (E : TypeId) : ∀ ad, some (⟨w.heap.size + 1, 0, none⟩ : Addr) = some ad → ∀ j u, [v][j]? = some u → ((w.alloc o).alloc (.cells #[v] E)).cell? (ad.add j) = some u := by
  intro ad had j u hu
  exact news_at (w := w.alloc o) (by simp) v E ad had j u hu

set_option maxRecDepth 100000 in
set_option maxHeartbeats 4000000 in
theorem secs_any {w : World} (hT : Tabs w) (v : Value) (hs : List Hd) (hv : HdsIn w v hs) (hl : hs.length ≤ 100) (hx : ∀ h ∈ hs, h.text.size ≤ 300000) :
    Calls Tryz.prog 8 #[v] w fun e w' => ∃ v' ids, e = .returned v' ∧ Chain (hs.map (·.text.data.toList)) ids ∧ w'.ownsRow w.heap.size 52 4 v' hs.length ((secsOf hs ids).flatMap Sec.cells) ∧ Below w.heap.size w w' := by
  obtain ⟨a, cap, rfl⟩ := hv.form
  have HV := Lib.hid hv
  have HT := Lib.hid hT
  have HLOW := Lib.hid hT.low
  have HX := Lib.hid hx
  clear hv hT hx
  obtain ⟨i0, hi, hz0, hz1, hz2⟩ := info_parts info_int
  have HI0 : Hid (Tryz.prog.info? 3 = some i0 ∧ i0.zero = some (.int .i64 0) ∧ i0.size = 1 ∧ i0.bytes = 8) := ⟨hi, hz0, hz1, hz2⟩
  clear hi hz0 hz1 hz2
  obtain ⟨j0, hi, hz0, hz1, hz2⟩ := info_parts info_sec
  have HJ0 : Hid (Tryz.prog.info? 52 = some j0 ∧ j0.zero = some (.agg #[.int .i64 0, .string ⟨#[]⟩, .string ⟨#[]⟩, .string ⟨#[]⟩]) ∧ j0.size = 4 ∧ j0.bytes = 56) := ⟨hi, hz0, hz1, hz2⟩
  clear hi hz0 hz1 hz2
  have hli : (hs.length : Int) ≤ 100 := by omega
  go_enter Tryz.func8, Tryz.ntmps8
  go_wp2_with fail
  go_loopw [3, 13] (fun ou i wr => ∃ (k : Nat) (out : Value), k ≤ hs.length ∧ i = .int .i64 k ∧ out = ou ∧ LevSt w hs k out wr) (fun _ i _ => hs.length - (RowKit.intOf i).toNat)
  case atStart => exact ⟨0, _, Nat.zero_le _, rfl, rfl, ⟨World.ownsRow_nil _ _ _ _, Below.refl _ _⟩⟩
  case round =>
    obtain ⟨k, out, hk, rfl, rfl, hS⟩ := hrel
    by_cases hlt : k < hs.length
    · obtain ⟨b, o, rfl, hb, hcell⟩ := HV.out.cells rfl (by omega)
      have cx := (hS.below.cell (p := ⟨b, o + k * 2, none⟩) hb).trans (hcell k hlt).1
      have cy := (hS.below.cell (p := ⟨b, o + k * 2 + 1, none⟩) hb).trans (hcell k hlt).2
      have hnx := Lib.hid (take_map (fun h : Hd => Value.int .i64 h.level) hlt)
      have HS := Lib.hid hS
      have hm1 : k + 1 ≤ maxLen := by unfold maxLen; omega
      have hba : w.heap.size ≤ ((wr.alloc (.cells #[.int .i64 hs[k].level, .string hs[k].text] 41)).alloc (.cells #[.int .i64 hs[k].level] 3)).heap.size := by have := hS.below.size; simp; omega
      clear hcell hS
      go_wp2_with (at_builtin; refine wpList_append_any rfl (.tmp 17) (.tmp 20) 22 rfl w.heap.size 3 i0 (.int .i64 0) 1 8 Tryz.underlying22 HI0.out.1 HI0.out.2.1 HI0.out.2.2.1 HI0.out.2.2.2 rfl (by decide) out k _ rfl ((HS.out.row.alloc _).alloc _) (some ⟨wr.heap.size + 1, 0, none⟩) 1 1 [.int .i64 hs[k].level] rfl rfl (fun h => by cases h) (news_two _ _ _) (fun u hu => by rw [List.mem_singleton.1 hu]; rfl) hm1 (by omega) hba ?_; intro v' w2 hown2 hgr2 hblk2; have HO := Lib.hid hown2; have HG := Lib.hid hgr2; clear hown2 hgr2 hblk2)
      go_roundw
      case rel =>
        refine ⟨k + 1, v', by omega, by go_num, rfl, ⟨?_, ?_⟩⟩
        · have h9 := HO.out
          have h8 := hnx.out
          simp only [List.map_map] at h9 ⊢
          rw [show (Value.int IntKind.i64 ∘ fun x : Hd => x.level) = (fun h : Hd => Value.int .i64 h.level) from rfl] at h9 ⊢
          rw [h8]; exact h9
        · refine Below.grown ((HS.out.below.alloc HS.out.below.size _).alloc ?_ _) HG.out hba (fun g hg => (HS.out.row.lt g hg).1)
          have := HS.out.below.size; simp; omega
      case measure => simp only [RowKit.intOf]; omega
    · obtain rfl : k = hs.length := by omega
      have hrow := hS.row
      rw [List.take_length] at hrow
      have hrow2 : wr.ownsRow w.heap.size 3 1 out (hs.map (·.level)).length ((hs.map (·.level)).map (.int .i64)) := by rw [List.length_map]; exact hrow
      have hII := Lib.hid (intsIn_row hrow2)
      have HB := Lib.hid hS.below
      clear hrow hrow2 hS
      go_wp2_with fail
      refine (all_any (HT.out.on HB.out) out (hs.map (·.level)) hII.out (by rw [List.length_map]; omega)).mono ?_
      rintro e w2 ⟨nv, rfl, hrow, hb2⟩
      rw [List.length_map] at hrow
      have HB2 := Lib.hid (HB.out.trans (hb2.mono HB.out.size))
      have HA0 := Lib.hid (AncAt.fresh w.heap.size w2 HB2.out.size)
      have HB3 := Lib.hid (HB2.out.alloc HB2.out.size (.cells #[.map none] 58))
      have HN := Lib.hid ((row_base hrow HB.out.size).alloc (.cells #[.map none] 58))
      clear hrow hb2 hII
      obtain ⟨a2, cap2, rfl⟩ : ∃ a2 cap2, nv = .slice a2 hs.length cap2 := by
        rcases HN.out.2 with ⟨rfl, h0⟩ | ⟨g, c, cur, rfl, _⟩
        · rw [h0]; exact ⟨_, _, rfl⟩
        · exact ⟨_, _, rfl⟩
      go_wp2_with fail
      go_loopw [8, 27] (fun ou i wr => ∃ (k : Nat) (out : Value) (F : Nat → Prop) (ids : List (List UInt8)), k ≤ hs.length ∧ i = .int .i64 k ∧ out = ou ∧ SecSt w w2.heap.size hs k (.slice a2 hs.length cap2) out F ids wr) (fun _ i _ => hs.length - (RowKit.intOf i).toNat)
      case atStart => exact ⟨0, _, _, [], Nat.zero_le _, rfl, rfl, ⟨Chain.nil, HA0.out, World.ownsRow_nil _ _ _ _, HN.out, HB3.out⟩⟩
      case round =>
        obtain ⟨k, out, F, ids, hk, rfl, rfl, hS⟩ := hrel
        by_cases hlt : k < hs.length
        · obtain ⟨b, o, rfl, hb, hcell⟩ := HV.out.cells rfl (by omega)
          have cx := (hS.below.cell (p := ⟨b, o + k * 2, none⟩) hb).trans (hcell k hlt).1
          have cy := (hS.below.cell (p := ⟨b, o + k * 2 + 1, none⟩) hb).trans (hcell k hlt).2
          have hxt := HX.out hs[k] (List.getElem_mem hlt)
          obtain ⟨N, hN1, hN2⟩ := text_at (l := hs.map (·.level)) (k := k) (by rw [List.length_map]; exact hlt)
          obtain ⟨g2, rfl⟩ : ∃ g2 : Nat, a2 = some ⟨g2, 0, none⟩ := by
            obtain ⟨g, c, h, -⟩ := row_some hS.num (by rw [List.length_map]; unfold texts; rw [List.length_map, allN_len, List.length_map]; omega)
            simp only [Value.slice.injEq] at h
            exact ⟨g, h.1⟩
          have cn : wr.cell? ⟨g2, k, none⟩ = some (.string N) := by rw [hS.num.cellAt k (by omega)]; exact hN1
          have hNs : N.size ≤ 132 := by
            rw [ba_size, hN2]
            refine numK_len (stC_len _) (fun x hx => ?_)
            have := stC_le _ x hx
            rw [List.length_take, List.length_map] at this; omega
          have hN3 : N.data.toList = numK (stC ((hs.take k).map (·.level))) hs[k].level := by rw [hN2, List.map_take, List.getElem_map]
          have hidl : ids.length = k := by rw [hS.chain.1, List.length_map, List.length_take]; omega
          have htk := Lib.hid (List.take_succ_eq_append_getElem hlt)
          have HS0 := Lib.hid hS
          have hsec := Lib.hid (fun id => secsOf_snoc (hs := hs.take k) hs[k] id (by rw [hidl, List.length_take]; omega))
          have HN3 := Lib.hid hN3
          have HIL := Lib.hid hidl
          clear hcell hN1 hN2 hN3 hidl
          obtain ⟨⟨lev, txt⟩, hh⟩ : ∃ h, hs[k] = h := ⟨_, rfl⟩
          rw [hh] at cx cy hxt htk hsec HN3
          replace hh := Lib.hid hh
          simp only at cx cy hxt
          have HR3 : Hid (SecSt w w2.heap.size hs k (.slice (some ⟨g2, 0, none⟩) hs.length cap2) out F ids (wr.alloc (.cells #[.int .i64 lev, .string txt] 41))) := HS0.out.on ((Below.refl _ _).alloc (Nat.le_refl _) _)
          have HR4 : Hid (SecSt w w2.heap.size hs k (.slice (some ⟨g2, 0, none⟩) hs.length cap2) out F ids (wr.alloc (.cells #[.int .i64 lev, .string txt] 41)).drew) := HR3.out.on (Below.refl _ _).drew
          have hnX : ¬ F wr.heap.size := fun h => by have := (HS0.out.anc.lt _ h).2; omega
          have hnG : ¬ F g2 := anc_apart HS0.out.anc HS0.out.num (by decide) g2 rfl
          have hap := fun {W : World} (h : SecSt w w2.heap.size hs k (.slice (some ⟨g2, 0, none⟩) hs.length cap2) out F ids W) => anc_apart h.anc h.row (by decide)
          have hap2 := fun {W : World} (h : SecSt w w2.heap.size hs k (.slice (some ⟨g2, 0, none⟩) hs.length cap2) out F ids W) => anc_apart h.anc h.num (by decide)
          have hoX : ¬ out.ownBlock = some wr.heap.size := fun h => by have := (HS0.out.row.lt _ h).2; omega
          have hoG : ¬ out.ownBlock = some g2 := fun h => rows_apart HS0.out.row HS0.out.num (by decide) g2 h rfl
          have hk0 : (0 : Int) ≤ (k : Int) := by omega
          have hk1 : (k : Int) < hs.length := by omega
          have hg2 : g2 < wr.heap.size := World.block_lt_of_cell? wr ⟨g2, k, none⟩ cn
          clear hS
          have cN := Lib.hid (fun (w' : World) (h : SecSt w w2.heap.size hs k (.slice (some ⟨g2, 0, none⟩) hs.length cap2) out F ids w') => next_any h.anc txt (HT.out.under HLOW.out h.below) hxt (by rw [HIL.out]; omega) h.below.size HLOW.out)
          have hm1 : k + 1 ≤ maxLen := by unfold maxLen; omega
          go_wp2_with fail
          go_region_held3 (fun w' => w'.cell? ⟨wr.heap.size, 0, none⟩ = some (.int .i64 lev) ∧ w'.cell? ⟨wr.heap.size, 1, none⟩ = some (.string txt) ∧ w'.cell? ⟨g2, k, none⟩ = some (.string N))
            (first
              | go_keep
              | exact s3_below hbC (by assumption)
              | exact s3_frame hfrN hnX hnG (by assumption)
              | exact s3_frame hfrA hoX hoG (by assumption))
            (first
              | (go_at_call 19; refine (clone_any N _ (by omega)).mono ?_; rintro e wC ⟨rfl, hbC⟩)
              | (go_at_call 20; refine (cN.out _ (HR4.out.on hbC)).mono ?_; rintro e wN ⟨ID, rfl, hnxt, hids, hanc, hfrN⟩; have hC2 := HR4.out.on hbC; have hrN := hfrN.row hC2.row (hap hC2))
              | (refine step_append_any (wanted_none rfl) (.tmp 32) (.tmp 46) 42 rfl w.heap.size 52 j0 _ 4 56 Tryz.underlying42 HJ0.out.1 HJ0.out.2.1 HJ0.out.2.2.1 HJ0.out.2.2.2 rfl (by decide) out k _ rfl (hrN.alloc _) (some ⟨wN.heap.size, 0, none⟩) 1 1 (Sec.cells ⟨lev, N, ID, txt⟩) rfl rfl (fun h => by cases h) (fun ad had j u hu => by cases had; exact World.news_of_block (heap_alloc_new _ _) j u hu) (fun u hu => flat_one [⟨lev, N, ID, txt⟩] u (by simpa using hu)) hm1 (by omega) (by have := hC2.below.size; have := hfrN.size; simp; omega) ?_; intro v' wA hownA hkeepA hgrA hblkA; have hfrA : Frame (fun g => out.ownBlock = some g) _ wA := Frame.of_grown hgrA (fun _ h => h)))
          obtain ⟨F', hanc, -⟩ := hanc
          have HNX := Lib.hid (hC2.next hlt hh.out hfrN hanc hnxt HN3.out hownA hgrA)
          clear hownA hgrA hkeepA hblkA hfrA hnxt hids hanc hfrN hC2 hrN hbC
          go_wp2_with fail
          go_roundw
          case rel => exact ⟨k + 1, v', F', _, by omega, by go_num, rfl, HNX.out⟩
          case measure => simp only [RowKit.intOf]; omega
        · obtain rfl : k = hs.length := by omega
          have hC := hS.chain
          have hR := hS.row
          rw [List.take_length] at hC hR
          have HC := Lib.hid hC
          have HR := Lib.hid hR
          have HB9 := Lib.hid hS.below
          clear hC hR hS
          go_wp2_with fail
          go_ret
          exact ⟨out, ids, rfl, HC.out, HR.out, HB9.out⟩
end Go.Proofs.YtbblgnbafecdmaaGreatDoor
