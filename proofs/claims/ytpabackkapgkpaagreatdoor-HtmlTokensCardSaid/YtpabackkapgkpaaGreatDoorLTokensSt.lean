/- HtmlTokens: the plain law. -/
import Derived.Test.YtpabackkapgkpaaGreatDoorHTok
import Derived.Test.YtpabackkapgkpaaGreatDoorRow
namespace Go.Proofs.YtpabackkapgkpaaGreatDoor
open Go.RowKit Go.Lib

/-- a text of signs, those that are open behind it (the last one first), how many signs there are -/
def TInv (S : ByteArray) (op : List ByteArray) (n : Nat) : Prop := ∃ toks : List (List UInt8), toks.length = n ∧ ∀ r, forestF (S.data.toList ++ r) [] [] = forestF r (op.map (·.data.toList)) toks
theorem TInv.nil : TInv ⟨#[]⟩ [] 0 := ⟨[], rfl, fun _ => rfl⟩
theorem TInv.step {S X : ByteArray} {op op' : List ByteArray} {n : Nat} {m t : List UInt8} (h : TInv S op n) (hm : (62 : UInt8) ∉ m) (hs : signStep (60 :: m ++ [62]) (op.map (·.data.toList)) = some (op'.map (·.data.toList))) (ht : (60 : UInt8) ∉ t) (hX : X.data.toList = 60 :: m ++ [62] ++ t) : TInv (S ++ X) op' (n + 1) := by
  obtain ⟨toks, hl, hr⟩ := h
  refine ⟨toks ++ [60 :: m ++ [62]], by simp [hl], fun r => ?_⟩
  have e : (S ++ X).data.toList ++ r = S.data.toList ++ ((60 :: m ++ [62]) ++ (t ++ r)) := by rw [ba_append, hX]; simp
  rw [e, hr, forestF_sign hm, hs]
  dsimp only
  rw [forestF_text ht]
theorem TInv.br {S M : ByteArray} {op : List ByteArray} {n : Nat} (h : TInv S op n) (ht : (60 : UInt8) ∉ M.data.toList) : TInv (S ++ (⟨#[60, 98, 114, 32, 47, 62]⟩ ++ M)) op (n + 1) :=
  h.step (m := [98, 114, 32, 47]) (by decide) (by simp [signStep, hasPrefix]) ht (by rw [ba_append]; rfl)
def pB : ByteArray := ⟨#[112]⟩
def emB : ByteArray := ⟨#[101, 109]⟩
def IsPE (x : ByteArray) : Prop := x = pB ∨ x = emB
theorem IsPE.size {x : ByteArray} (h : IsPE x) : x.size ≤ 2 := by rcases h with rfl | rfl <;> decide
theorem TInv.opened {S M N : ByteArray} {op : List ByteArray} {n : Nat} (h : TInv S op n) (hN : IsPE N) (ht : (60 : UInt8) ∉ M.data.toList) : TInv (S ++ (⟨#[60]⟩ ++ N ++ ⟨#[32, 99, 108, 97, 115, 115, 61, 34, 99, 34, 62]⟩ ++ M)) (N :: op) (n + 1) := by
  refine h.step (m := N.data.toList ++ [32, 99, 108, 97, 115, 115, 61, 34, 99, 34]) ?_ ?_ ht (by simp only [ba_append]; simp)
  · rcases hN with rfl | rfl <;> decide
  · rcases hN with rfl | rfl <;> simp [signStep, hasPrefix, nameL, pB, emB]
theorem close_step {N : ByteArray} (hN : IsPE N) (l : List (List UInt8)) : (62 : UInt8) ∉ 47 :: N.data.toList ∧ signStep (60 :: (47 :: N.data.toList) ++ [62]) (N.data.toList :: l) = some l := by
  rcases hN with rfl | rfl <;> exact ⟨by decide, by simp [signStep, hasPrefix, nameL, pB, emB]⟩
theorem TInv.closed {S M N : ByteArray} {op : List ByteArray} {n : Nat} (h : TInv S (N :: op) n) (hN : IsPE N) (ht : (60 : UInt8) ∉ M.data.toList) : TInv (S ++ (⟨#[60, 47]⟩ ++ N ++ ⟨#[62]⟩ ++ M)) op (n + 1) :=
  h.step (m := 47 :: N.data.toList) (close_step hN []).1 (close_step hN _).2 ht (by simp only [ba_append]; simp)
theorem TInv.closed0 {S N : ByteArray} {op : List ByteArray} {n : Nat} (h : TInv S (N :: op) n) (hN : IsPE N) : TInv (S ++ (⟨#[60, 47]⟩ ++ N ++ ⟨#[62]⟩)) op (n + 1) :=
  h.step (m := 47 :: N.data.toList) (t := []) (close_step hN []).1 (close_step hN _).2 (by simp) (by simp only [ba_append]; simp)
theorem forest_end (op out : List (List UInt8)) : forestF [] op out = if op = [] then some out else none := by
  rw [forestF_step]; simp [cutGt]
theorem TInv.early {S : ByteArray} {op : List ByteArray} {n : Nat} (h : TInv S op n) : (forestF S.data.toList [] []).isSome = decide (op.length = 0) := by
  obtain ⟨toks, -, hr⟩ := h
  have := hr []
  rw [List.append_nil] at this
  rw [this, forest_end]
  cases op <;> simp
theorem TInv.full {S : ByteArray} {n : Nat} (h : TInv S [] n) : (forestF S.data.toList [] []).isSome = true ∧ ((forestF S.data.toList [] []).getD []).length = n := by
  obtain ⟨toks, hl, hr⟩ := h
  have := hr []
  rw [List.append_nil] at this
  rw [this, List.map_nil, forest_end, if_pos rfl]
  exact ⟨rfl, hl⟩
theorem TInv.twice {S : ByteArray} {n : Nat} (h : TInv S [] n) : (forestF (S ++ ⟨#[60, 47, 112, 62]⟩ : ByteArray).data.toList [] []).isSome = false := by
  obtain ⟨toks, hl, hr⟩ := h
  rw [ba_append, hr, List.map_nil]
  show (forestF [60, 47, 112, 62] [] toks).isSome = false
  rw [forestF_step]
  simp [cutGt, signStep, hasPrefix]
theorem TInv.half {S : ByteArray} {n : Nat} (h : TInv S [] n) : (forestF (S ++ ⟨#[60, 112]⟩ : ByteArray).data.toList [] []).isSome = false := by
  obtain ⟨toks, hl, hr⟩ := h
  rw [ba_append, hr, List.map_nil]
  show (forestF [60, 112] [] toks).isSome = false
  rw [forestF_step]
  simp [cutGt]

/-- what the loops hold -/
structure TL (W : World) (S : ByteArray) (op : List ByteArray) (n : Nat) (vo : Value) (w : World) : Prop where
  below : Below W.heap.size W w
  row : w.ownsRow W.heap.size 9 1 vo op.length (op.reverse.map .string)
  inv : TInv S op n
  pe : ∀ x ∈ op, IsPE x
theorem TL.on {W : World} {S : ByteArray} {op : List ByteArray} {n : Nat} {vo : Value} {w w' : World} (h : TL W S op n vo w) (hb : Below w.heap.size w w') : TL W S op n vo w' :=
  ⟨h.below.trans (hb.mono h.below.size), row_kept h.row (fun g hg => hb.block g (h.row.lt g hg).2), h.inv, h.pe⟩
theorem TL.br {W : World} {S M : ByteArray} {op : List ByteArray} {n : Nat} {vo : Value} {w : World} (h : TL W S op n vo w) (ht : (60 : UInt8) ∉ M.data.toList) : TL W (S ++ (⟨#[60, 98, 114, 32, 47, 62]⟩ ++ M)) op (n + 1) vo w :=
  ⟨h.below, h.row, h.inv.br ht, h.pe⟩
theorem TL.push {W : World} {S M N : ByteArray} {op : List ByteArray} {n : Nat} {vo v' : Value} {w w4 : World} {o1 o2 : Obj} (h : TL W S op n vo w) (hN : IsPE N) (ht : (60 : UInt8) ∉ M.data.toList) (hown : w4.ownsRow W.heap.size 9 1 v' (op.length + 1) (op.reverse.map .string ++ [.string N])) (hgr : ((w.alloc o1).alloc o2).grownBy w4 vo.ownBlock) :
    TL W (S ++ (⟨#[60]⟩ ++ N ++ ⟨#[32, 99, 108, 97, 115, 115, 61, 34, 99, 34, 62]⟩ ++ M)) (N :: op) (n + 1) v' w4 := by
  have hs := h.below.size
  refine ⟨((h.below.alloc hs o1).alloc (by simp; omega) o2).grown hgr (by simp; omega) (fun g hg => (h.row.lt g hg).1), by simpa using hown, h.inv.opened hN ht, fun x hx => ?_⟩
  rcases List.mem_cons.1 hx with rfl | hx
  · exact hN
  · exact h.pe x hx
theorem TL.top {W : World} {S : ByteArray} {N : ByteArray} {op : List ByteArray} {n : Nat} {a : Option Addr} {cap : Nat} {w : World} (h : TL W S (N :: op) n (.slice a (op.length + 1) cap) w) :
    ∃ g, a = some ⟨g, 0, none⟩ ∧ g < w.heap.size ∧ op.length + 1 ≤ cap ∧ cap ≤ 9223372036854775807 ∧ w.cell? ⟨g, op.length, none⟩ = some (.string N) ∧ w.ownsRow W.heap.size 9 1 (.slice a op.length cap) op.length (op.reverse.map .string) := by
  have ho := h.row
  have hc := row_cut h.row (m := op.length) (by simp)
  have e : (List.map Value.string (N :: op).reverse).take (op.length * 1) = List.map Value.string op.reverse := by
    rw [List.reverse_cons, List.map_append, Nat.mul_one]
    exact List.take_left' (by simp)
  rw [e] at hc
  rcases ho.2 with ⟨hv, h0⟩ | ⟨g, cap', cur, hv, hb, hg, hnc, hcm, -, -⟩
  · simp at h0
  · cases hv
    refine ⟨g, rfl, (ho.lt g rfl).2, hnc, hcm, ?_, hc⟩
    rw [ho.cellAt op.length (by simp), List.reverse_cons, List.map_append, List.getElem?_append_right (by simp)]
    simp
theorem TL.pop {W : World} {S M N : ByteArray} {op : List ByteArray} {n : Nat} {vo v' : Value} {w w' : World} (h : TL W S (N :: op) n vo w) (hb : Below w.heap.size w w') (hr : w.ownsRow W.heap.size 9 1 v' op.length (op.reverse.map .string)) (ht : (60 : UInt8) ∉ M.data.toList) : TL W (S ++ (⟨#[60, 47]⟩ ++ N ++ ⟨#[62]⟩ ++ M)) op (n + 1) v' w' :=
  ⟨h.below.trans (hb.mono h.below.size), row_kept hr (fun g hg => hb.block g (hr.lt g hg).2), h.inv.closed (h.pe N (List.mem_cons_self ..)) ht, fun x hx => h.pe x (List.mem_cons_of_mem _ hx)⟩
theorem TL.pop0 {W : World} {S N : ByteArray} {op : List ByteArray} {n : Nat} {vo v' : Value} {w w' : World} (h : TL W S (N :: op) n vo w) (hb : Below w.heap.size w w') (hr : w.ownsRow W.heap.size 9 1 v' op.length (op.reverse.map .string)) : TL W (S ++ (⟨#[60, 47]⟩ ++ N ++ ⟨#[62]⟩)) op (n + 1) v' w' :=
  ⟨h.below.trans (hb.mono h.below.size), row_kept hr (fun g hg => hb.block g (hr.lt g hg).2), h.inv.closed0 (h.pe N (List.mem_cons_self ..)), fun x hx => h.pe x (List.mem_cons_of_mem _ hx)⟩
theorem rem_four (x : Int) : ∃ q, x.tmod 4 = q ∧ -3 ≤ q ∧ q ≤ 3 ∧ ((q + 4) % 4 = 0 ∨ (q + 4) % 4 = 1 ∨ (q + 4) % 4 = 2 ∨ (q + 4) % 4 = 3) :=
  by
  have h : -3 ≤ x.tmod 4 ∧ x.tmod 4 ≤ 3 := by
    rcases Int.le_total 0 x with h | h
    · rw [Int.tmod_eq_emod_of_nonneg h]; omega
    · obtain ⟨y, rfl⟩ : ∃ y, x = -y := ⟨-x, by omega⟩
      rw [Int.neg_tmod, Int.tmod_eq_emod_of_nonneg (by omega)]; omega
  exact ⟨_, rfl, h.1, h.2, by omega⟩
end Go.Proofs.YtpabackkapgkpaaGreatDoor
