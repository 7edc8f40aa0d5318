/- HtmlLists: the plain law; what its loop holds. -/
import Derived.Test.YtpabackkapgkpaaGreatDoorHRows
import Derived.Test.YtpabackkapgkpaaGreatDoorLSpans
namespace Go.Proofs.YtpabackkapgkpaaGreatDoor
open Go.RowKit Go.Lib

def listB (n : Int) (t : Bool) : Blk := ⟨4, 0, n, t, ⟨#[]⟩, ⟨#[]⟩⟩
def itemB : Blk := ⟨5, 1, 0, false, ⟨#[]⟩, ⟨#[]⟩⟩
def paraB : Blk := ⟨1, 2, 0, false, ⟨#[]⟩, ⟨#[]⟩⟩
def wordX : Inl := ⟨1, 0, ⟨#[120]⟩, ⟨#[]⟩, ⟨#[]⟩⟩
def itemsB : Nat → List Blk
  | 0 => []
  | n + 1 => itemB :: paraB :: itemsB n
theorem itemsB_snoc : ∀ n, itemsB (n + 1) = itemsB n ++ [itemB, paraB]
  | 0 => rfl
  | n + 1 => by
    have := itemsB_snoc n
    show itemB :: paraB :: itemsB (n + 1) = itemB :: paraB :: itemsB n ++ [itemB, paraB]
    rw [this]; rfl
theorem itemsB_length : ∀ n, (itemsB n).length = 2 * n
  | 0 => rfl
  | n + 1 => by simp [itemsB, itemsB_length n]; omega
def itemL (t : Bool) : List UInt8 := [60, 108, 105, 62, 10] ++ (if t then [120, 10] else [60, 112, 62, 120, 60, 47, 112, 62, 10])
def closeL : List UInt8 := [60, 47, 108, 105, 62, 10]
def lstAt (n : Int) (t : Bool) : Nat → HSt
  | 0 => ⟨(holderL (listB n t)).1, [], [], [], [(listB n t, ⟨(holderL (listB n t)).2.toArray⟩)]⟩
  | k + 1 => ⟨(holderL (listB n t)).1 ++ repL k (itemL t ++ closeL) ++ itemL t, [], [], [], [(paraB, ⟨#[]⟩), (itemB, ⟨closeL.toArray⟩), (listB n t, ⟨(holderL (listB n t)).2.toArray⟩)]⟩
theorem holder_item : holderL itemB = ([60, 108, 105, 62, 10], closeL) := rfl
theorem holder_para : holderL paraB = ([], []) := rfl
theorem lst_step (c : Cfg) (n : Int) (t : Bool) (texts : List (List Inl)) (kk k : Nat) (hk : textOf texts kk = [wordX]) : blockS c texts paraB 0 kk (blockS c texts itemB 0 kk (lstAt n t k)) = lstAt n t (k + 1) := by
  have hl0 : (listB n t).depth = 0 := rfl
  have hl4 : (listB n t).kind = 4 := rfl
  have hlt : (listB n t).tight = t := rfl
  have hi1 : itemB.depth = 1 := rfl
  have hi5 : itemB.kind = 5 := rfl
  have hp2 : paraB.depth = 2 := rfl
  have hp1 : paraB.kind = 1 := rfl
  have hw : ∀ s, nodesS c [wordX] s = s.put [120] := fun s => by simp [nodesS_cons, nodesS_nil, inside, nodeS, nodeL, HSt.put, wordX, escL, escByte]
  generalize hL : listB n t = L at *
  cases k with
  | zero => cases t <;> simp [lstAt, blockS, pushS, bodyS, leaveS, leaveF, holder_item, holder_para, paraS, tightS, nearR, hk, hw, HSt.put, hl0, hl4, hlt, hi1, hi5, hp2, hp1, itemL, repL, hL]
  | succ k =>
    have hr := repL_snoc k (itemL t ++ closeL)
    cases t <;> simp [lstAt, blockS, pushS, bodyS, leaveS, leaveF, holder_item, holder_para, paraS, tightS, nearR, hk, hw, HSt.put, hl0, hl4, hlt, hi1, hi5, hp2, hp1, hr, hL] <;> simp [itemL]
theorem lst_items (c : Cfg) (n : Int) (t : Bool) (texts : List (List Inl)) : ∀ m k, (∀ kk, k ≤ kk → kk < k + m → textOf texts kk = [wordX]) → blocksF c texts (itemsB m) 0 k (lstAt n t k) = leaveS (-9223372036854775808) (lstAt n t (k + m))
  | 0, k, _ => rfl
  | m + 1, k, h => by
    show blocksF c texts (itemsB m) 0 (k + 1) (blockS c texts paraB 0 k (blockS c texts itemB 0 k (lstAt n t k))) = _
    rw [lst_step c n t texts k k (h k (Nat.le_refl _) (by omega)), lst_items c n t texts m (k + 1) (fun kk h1 h2 => h kk (by omega) (by omega))]
    congr 2
    omega
theorem lst_all (c : Cfg) (n : Int) (t : Bool) (m : Nat) (hm : 0 < m) : blocksF c (List.replicate m [wordX]) (listB n t :: itemsB m) 0 0 ⟨[], [], [], [], []⟩ = ⟨(holderL (listB n t)).1 ++ repL m (itemL t ++ closeL) ++ (holderL (listB n t)).2, [], [], [], []⟩ := by
  have h0 : blockS c (List.replicate m [wordX]) (listB n t) 0 0 ⟨[], [], [], [], []⟩ = lstAt n t 0 := by
    simp [blockS, pushS, bodyS, leaveS, leaveF, HSt.put, lstAt, show (listB n t).kind = 4 from rfl]
  show blocksF c _ (itemsB m) 0 0 (blockS c _ (listB n t) 0 0 _) = _
  rw [h0, lst_items c n t _ m 0 (fun kk _ h2 => by unfold textOf; rw [List.getD_eq_getElem?_getD, List.getElem?_replicate, if_pos (by omega)]; rfl)]
  obtain ⟨k, rfl⟩ : ∃ k, m = k + 1 := ⟨m - 1, by omega⟩
  rw [Nat.zero_add]
  have hl0 : (listB n t).depth = 0 := rfl
  have hi1 : itemB.depth = 1 := rfl
  have hp2 : paraB.depth = 2 := rfl
  have hr := repL_snoc k (itemL t ++ closeL)
  simp [leaveS, lstAt, leaveF, HSt.put, hl0, hi1, hp2, hr]

/-- what a list begins and ends with -/
theorem list_ends (n : Int) (t : Bool) (hn : -1 ≤ n ∧ n ≤ 999) : ∃ r : List UInt8, r.length ≤ 200 ∧ (if n = -1 then (holderL (listB n t)).1 = 60 :: 117 :: r ∧ (holderL (listB n t)).2 = [60, 47, 117, 108, 62, 10] else (holderL (listB n t)).1 = 60 :: 111 :: r ∧ (holderL (listB n t)).2 = [60, 47, 111, 108, 62, 10]) := by
  have a1 := attrL_length [115, 116, 97, 114, 116] (Lib.itoa n)
  have a2 := itoa_len n (by omega) (by omega)
  simp only [List.length_cons, List.length_nil] at a1
  by_cases h1 : n = -1
  · subst h1; exact ⟨[108, 62, 10], by decide, by rw [if_pos rfl]; exact ⟨rfl, rfl⟩⟩
  · by_cases h2 : n = 1
    · subst h2; exact ⟨[108, 62, 10], by decide, by rw [if_neg (by decide)]; exact ⟨rfl, rfl⟩⟩
    · refine ⟨[108] ++ attrL [115, 116, 97, 114, 116] (Lib.itoa n) ++ [62, 10], by simp; omega, ?_⟩
      rw [if_neg h1]
      have e : holderL (listB n t) = ([60, 111, 108] ++ attrL [115, 116, 97, 114, 116] (Lib.itoa n) ++ [62, 10], [60, 47, 111, 108, 62, 10]) := by
        simp [holderL, listB, h1, h2]
      rw [e]
      exact ⟨rfl, rfl⟩
/-- a text that begins, goes on, ends -/
theorem parts_of {B X E : ByteArray} {b c : List UInt8} {x y : UInt8} (hB : B.data.toList = (x :: y :: b) ++ X.data.toList ++ c) (hE : E.data.toList = c) :
    B.size = (b.length + 2) + X.size + c.length ∧ (∀ h : 1 < B.size, B[1] = y) ∧ ((B.extract (b.length + 2) ((b.length + 2) + X.size + c.length)).toList == (X ++ E).toList) = true := by
  have hs : B.size = (b.length + 2) + X.size + c.length := by
    rw [ba_size, hB, ba_size]; simp; omega
  refine ⟨hs, fun h => ?_, ?_⟩
  · have h2 : B[1] = B.data.toList[1]'(by rw [← ba_size]; exact h) := by simp [ByteArray.getElem_eq_getElem_data]
    rw [h2]
    have : B.data.toList[1]? = some y := by rw [hB]; simp
    rw [List.getElem?_eq_getElem (by rw [← ba_size]; exact h)] at this
    exact Option.some.inj this
  · rw [Lib.toList_data, Lib.toList_data, beq_iff_eq, ba_extract, ← hs, ba_size, List.take_length, hB, ba_append, hE, List.append_assoc]
    exact List.drop_left' (by simp)

theorem small_rows {k m : Nat} (hk : k < m) (hm : (m : Int) ≤ 12) : (1 + 2 * k + 2) * 64 ≤ 140737488355328 ∧ (k + 1) * 24 ≤ 140737488355328 ∧ 1 + 2 * k + 2 ≤ maxLen ∧ k + 1 ≤ maxLen := by
  unfold maxLen; omega
theorem item_len (t : Bool) : (itemL t ++ closeL).length ≤ 20 := by cases t <;> decide
/-- a row that a call has laid whole -/
theorem row_lit {w : World} {m base size : Nat} {E : TypeId} (hm : w.heap.size = m) (hb : base ≤ m) (l : List Value) (n : Nat) (hl : l.length = n * size) (hn : n ≤ 1000000) : (w.alloc (.cells l.toArray E)).ownsRow base E size (.slice (some ⟨m, 0, none⟩) n n) n l := by
  subst hm
  exact ⟨hl, .inr ⟨w.heap.size, n, l.toArray, rfl, hb, heap_alloc_new w _, Nat.le_refl _, by unfold maxLen; omega, by simpa using hl, by rw [← hl]; simp⟩⟩
def wordO : Obj := .cells #[.int .i64 1, .int .i64 0, .string ⟨#[120]⟩, .string ⟨#[]⟩, .string ⟨#[]⟩] 45
def slI (g : Nat) : Value := .slice (some ⟨g, 0, none⟩) 1 1
/-- what the loop holds: the blocks, the texts, each text's node -/
structure LL (W : World) (n : Int) (t : Bool) (k : Nat) (gs : List Nat) (vb vt : Value) (w : World) : Prop where
  below : Below W.heap.size W w
  rb : w.ownsRow W.heap.size 50 6 vb (1 + 2 * k) ((listB n t :: itemsB k).flatMap Blk.cells)
  rt : w.ownsRow W.heap.size 25 1 vt k (gs.map slI)
  inls : ∀ g ∈ gs, w.heap[g]? = some wordO
theorem LL.len {W : World} {n : Int} {t : Bool} {k : Nat} {gs : List Nat} {vb vt : Value} {w : World} (h : LL W n t k gs vb vt w) : gs.length = k := by have := h.rt.1; simpa using this
theorem LL.rt_kept {W : World} {n : Int} {t : Bool} {k : Nat} {gs : List Nat} {vb vt : Value} {w w4 : World} {o1 : Obj} (h : LL W n t k gs vb vt w) (hgr4 : (w.alloc o1).grownBy w4 vb.ownBlock) : w4.ownsRow W.heap.size 25 1 vt k (gs.map slI) := by
  have a1 : (w.alloc o1).heap.size = w.heap.size + 1 := by simp
  refine row_kept h.rt (fun g hg => ?_)
  have hlt := (h.rt.lt g hg).2
  refine (hgr4.block g (by omega) (fun e => ?_)).trans (((Below.refl w.heap.size w).alloc (Nat.le_refl _) o1).block g hlt)
  obtain ⟨-, c1, h1⟩ := row_block h.rt hg
  exact row_not h.rb h1 (by decide) e.symm
theorem LL.push {W : World} {n : Int} {t : Bool} {k : Nat} {gs : List Nat} {vb vt v4 v5 : Value} {w w4 w5 : World} {o1 o3 : Obj} (h : LL W n t k gs vb vt w)
    (hown4 : w4.ownsRow W.heap.size 50 6 v4 (1 + 2 * k + 2) ((listB n t :: itemsB k).flatMap Blk.cells ++ (itemB.cells ++ paraB.cells))) (hgr4 : (w.alloc o1).grownBy w4 vb.ownBlock)
    (hown5 : w5.ownsRow W.heap.size 25 1 v5 (k + 1) (gs.map slI ++ [slI w4.heap.size])) (hgr5 : ((w4.alloc wordO).alloc o3).grownBy w5 vt.ownBlock) : LL W n t (k + 1) (gs ++ [w4.heap.size]) v4 v5 w5 := by
  have hs := h.below.size
  have a1 : (w.alloc o1).heap.size = w.heap.size + 1 := by simp
  have a2 : ((w4.alloc wordO).alloc o3).heap.size = w4.heap.size + 2 := by simp
  have s4 := hgr4.size
  have b4 : Below W.heap.size W w4 := (h.below.alloc hs o1).grown hgr4 (by omega) (fun g hg => (h.rb.lt g hg).1)
  have hs4 := b4.size
  have b5 : Below W.heap.size W w5 := ((b4.alloc hs4 wordO).alloc (by simp; omega) o3).grown hgr5 (by omega) (fun g hg => (h.rt.lt g hg).1)
  -- the texts behind the first append
  have hbt : ∀ g, vt.ownBlock = some g → vb.ownBlock ≠ some g := fun g hg e => by
    obtain ⟨-, c1, h1⟩ := row_block h.rt hg
    exact row_not h.rb h1 (by decide) e
  have old4 : ∀ g, g < w.heap.size → vb.ownBlock ≠ some g → w4.heap[g]? = w.heap[g]? := fun g hg hne => (hgr4.block g (by omega) (fun e => hne e.symm)).trans (((Below.refl w.heap.size w).alloc (Nat.le_refl _) o1).block g hg)
  have old5 : ∀ g, g < w4.heap.size → vt.ownBlock ≠ some g → w5.heap[g]? = w4.heap[g]? := fun g hg hne => (hgr5.block g (by omega) (fun e => hne e.symm)).trans ((((Below.refl w4.heap.size w4).alloc (Nat.le_refl _) wordO).alloc (by simp) o3).block g hg)
  have rt4 : w4.ownsRow W.heap.size 25 1 vt k (gs.map slI) := row_kept h.rt (fun g hg => old4 g (h.rt.lt g hg).2 (hbt g hg))
  refine ⟨b5, ?_, by simpa using hown5, fun g hg => ?_⟩
  · have e : (listB n t :: itemsB (k + 1)).flatMap Blk.cells = (listB n t :: itemsB k).flatMap Blk.cells ++ (itemB.cells ++ paraB.cells) := by
      rw [itemsB_snoc, ← List.cons_append, List.flatMap_append]; simp
    rw [e, show 1 + 2 * (k + 1) = 1 + 2 * k + 2 by omega]
    exact row_kept hown4 (fun g hg => old5 g (hown4.lt g hg).2 (fun e => by
      obtain ⟨-, c1, h1⟩ := row_block rt4 e
      exact row_not hown4 h1 (by decide) hg))
  · rcases List.mem_append.1 hg with hg | hg
    · have h1 := h.inls g hg
      have hlt := (Array.getElem?_eq_some_iff.1 h1).1
      have h2 : w4.heap[g]? = some wordO := (old4 g hlt (row_not h.rb h1 (by decide))).trans h1
      exact (old5 g (by omega) (row_not rt4 h2 (by decide))).trans h2
    · obtain rfl := List.mem_singleton.1 hg
      have h1 : ((w4.alloc wordO).alloc o3).heap[w4.heap.size]? = some wordO := (((Below.refl (w4.heap.size + 1) (w4.alloc wordO)).alloc (by simp) o3).block _ (by omega)).trans (heap_alloc_new w4 wordO)
      refine (hgr5.block _ (by omega) (fun e => ?_)).trans h1
      have := (rt4.lt _ e.symm).2
      omega
theorem LL.texts {W : World} {n : Int} {t : Bool} {k : Nat} {gs : List Nat} {vb vt : Value} {w : World} (h : LL W n t k gs vb vt w) {Fn : Nat → Prop} (hF : ∀ g, g < w.heap.size → ¬ Fn g) : TextsIn w Fn vt (List.replicate k [wordX]) := by
  have hlen := h.len
  have h9 := h.rt
  rcases h.rt.2 with ⟨rfl, h0⟩ | ⟨g, cap, cur, rfl, hb, hg, hnc, hcm, hcs, ht⟩
  · subst h0; exact texts_nil w Fn
  · refine ⟨_, cap, by rw [List.length_replicate], by simpa using hnc, hcm, .inr ⟨g, 0, rfl, (h9.lt g rfl).2, hF g (h9.lt g rfl).2, fun i hi => ?_⟩⟩
    have hi' : i < k := by simpa using hi
    have hgi := h.inls gs[i] (List.getElem_mem _)
    have hlt := (Array.getElem?_eq_some_iff.1 hgi).1
    refine ⟨slI gs[i], ?_, ?_⟩
    · rw [Nat.zero_add, h9.cellAt i (by omega)]
      simp [hlen, hi']
    · rw [List.getElem_replicate]
      refine inls_at (l := [wordX]) hlt (hF _ hlt) (Nat.le_refl _) (by decide) fun j u hu => ?_
      rw [Lib.cell_of_heap hgi, ← Array.getElem?_toList]
      exact hu
/-- a new writer, its notes laid behind the rows -/
theorem row_blocks {W w : World} {n : Int} {t : Bool} {k : Nat} {gs : List Nat} {vb vt : Value} (h : LL W n t k gs vb vt w) (hT : Tabs W) (hk : k ≤ 12) (hk0 : 0 < k) (hn : -1 ≤ n ∧ n ≤ 999) {X : ByteArray} (hX : X.data.toList = (holderL (listB n t)).1 ++ repL k (itemL t ++ closeL) ++ (holderL (listB n t)).2) :
    Calls Tryz.prog 19 #[.pointer (some ⟨w.heap.size + 1, 0, none⟩), vb, vt]
      ((w.alloc (.cells #[.slice none 0 0, .slice none 0 0] 35)).alloc (.cells #[.bool false, .bool false, .bool false, .bool false, .int .i64 0, .slice none 0 0, .pointer (some ⟨w.heap.size, 0, none⟩)] 37))
      fun e w' => ∃ a cap, e = .returned (.tuple #[.string X, .slice a 0 cap]) ∧ Below W.heap.size W w' := by
  have P0 := Pen.fresh h.below false false false false 0 [] (.slice none 0 0) (secs_nil w)
  have hb : Below w.heap.size w ((w.alloc (.cells #[.slice none 0 0, .slice none 0 0] 35)).alloc (.cells #[.bool false, .bool false, .bool false, .bool false, .int .i64 0, .slice none 0 0, .pointer (some ⟨w.heap.size, 0, none⟩)] 37)) :=
    ((Below.refl _ w).alloc (Nat.le_refl _) _).alloc (by simp) _
  have hF : ∀ g, g < w.heap.size → ¬ (g = w.heap.size) := fun g hg e => by omega
  have hbl : (listB n t :: itemsB k).length = 1 + 2 * k := by rw [List.length_cons, itemsB_length]; omega
  have VB := blks_row (Fn := (· = w.heap.size)) (l := listB n t :: itemsB k) (by rw [hbl]; exact h.rb) (fun g hg => hF g (h.rb.lt g hg).2)
  have VT := h.texts (Fn := (· = w.heap.size)) hF
  have hmem : ∀ m, ∀ x ∈ itemsB m, x = itemB ∨ x = paraB := by
    intro m
    induction m with
    | zero => intro x hx; cases hx
    | succ m ih =>
      intro x hx
      rcases List.mem_cons.1 hx with rfl | hx
      · exact .inl rfl
      · rcases List.mem_cons.1 hx with rfl | hx
        · exact .inr rfl
        · exact ih x hx
  have hall : ∀ x ∈ listB n t :: itemsB k, x.Small ∧ x.kind ≠ 2 ∧ x.kind ≠ 6 ∧ x.kind ≠ 8 := by
    intro x hx
    rcases List.mem_cons.1 hx with rfl | hx
    · exact ⟨⟨by show (0 : Nat) ≤ 100000; omega, by show (0 : Nat) ≤ 100000; omega, by show (-4611686018427387904 : Int) ≤ 0 ∧ (0 : Int) ≤ 4611686018427387904; omega, by show -9223372036854775808 ≤ n ∧ n ≤ 9223372036854775807; omega, fun h => by cases h⟩, by show (4 : Int) ≠ 2; decide, by show (4 : Int) ≠ 6; decide, by show (4 : Int) ≠ 8; decide⟩
    · rcases hmem k x hx with rfl | rfl
      · exact ⟨⟨by decide, by decide, by decide, by decide, fun h => by cases h⟩, by decide, by decide, by decide⟩
      · exact ⟨⟨by decide, by decide, by decide, by decide, fun h => by cases h⟩, by decide, by decide, by decide⟩
  refine (blocks_pen P0 hT small_nil anch_nil (VB.on hb) (VT.on hb) (fun x hx => (hall x hx).1) (fun l hl => by
    obtain ⟨-, rfl⟩ := List.mem_replicate.1 hl
    exact ⟨by decide, fun x hx => by rw [List.mem_singleton.1 hx]; exact ⟨by decide, by decide, by decide⟩⟩) (fits_nil (by omega)) (by omega) (fun x hx => (hall x hx).2.1) (fun x hx h => absurd h (hall x hx).2.2.1) (fun x hx h => absurd h (hall x hx).2.2.2) (lst_all _ n t k hk0) (X := X) (by rw [hX])).mono ?_
  rintro e w' ⟨a, cap, F', he, hP, -, -⟩
  exact ⟨a, cap, he, hP.below⟩
end Go.Proofs.YtpabackkapgkpaaGreatDoor
