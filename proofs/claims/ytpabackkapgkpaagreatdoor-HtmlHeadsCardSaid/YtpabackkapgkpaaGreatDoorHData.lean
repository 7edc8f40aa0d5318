/- Nodes as plain data; what is written of them; the state of a paper. No walk in this text. -/
import Derived.Test.YtpabackkapgkpaaGreatDoorPaperRead
import Derived.Test.YtpabackkapgkpaaGreatDoorHref
import Derived.Test.YtpabackkapgkpaaGreatDoorCrossWalks
import Derived.Test.YtpabackkapgkpaaGreatDoorIds
namespace Go.Proofs.YtpabackkapgkpaaGreatDoor
open Go.RowKit Go.Lib

structure Inl where
  kind : Int
  depth : Int
  text : ByteArray
  url : ByteArray
  title : ByteArray
def Inl.val (x : Inl) : Value := .agg #[.int .i64 x.kind, .int .i64 x.depth, .string x.text, .string x.url, .string x.title]
def Inl.cells (x : Inl) : List Value := [.int .i64 x.kind, .int .i64 x.depth, .string x.text, .string x.url, .string x.title]
/-- a node lies at a place of memory -/
structure InlAt (w : World) (b o : Nat) (x : Inl) : Prop where
  c0 : w.cell? ⟨b, o, none⟩ = some (.int .i64 x.kind)
  c1 : w.cell? ⟨b, o + 1, none⟩ = some (.int .i64 x.depth)
  c2 : w.cell? ⟨b, o + 2, none⟩ = some (.string x.text)
  c3 : w.cell? ⟨b, o + 3, none⟩ = some (.string x.url)
  c4 : w.cell? ⟨b, o + 4, none⟩ = some (.string x.title)
/-- nodes lie in a slice; G: the blocks that may change meanwhile -/
def InlsIn (w : World) (G : Nat → Prop) (v : Value) (l : List Inl) : Prop :=
  ∃ a cap, v = .slice a l.length cap ∧ l.length ≤ cap ∧ cap ≤ 9223372036854775807 ∧
    (l = [] ∨ ∃ b o, a = some ⟨b, o, none⟩ ∧ b < w.heap.size ∧ ¬ G b ∧ ∀ i (h : i < l.length), InlAt w b (o + i * 5) l[i])

/-- a block -/
structure Blk where
  kind : Int
  depth : Int
  n : Int
  tight : Bool
  text : ByteArray
  info : ByteArray
def Blk.val (x : Blk) : Value := .agg #[.int .i64 x.kind, .int .i64 x.depth, .int .i64 x.n, .bool x.tight, .string x.text, .string x.info]
def Blk.cells (x : Blk) : List Value := [.int .i64 x.kind, .int .i64 x.depth, .int .i64 x.n, .bool x.tight, .string x.text, .string x.info]
/-- blocks that others may lie in, the last one first: as cells -/
def stkCells (S : List (Blk × ByteArray)) : List Value := S.reverse.flatMap fun p => p.1.cells ++ [.string p.2]
theorem stkCells_cons (p : Blk × ByteArray) (S : List (Blk × ByteArray)) : stkCells (p :: S) = stkCells S ++ (p.1.cells ++ [.string p.2]) := by
  unfold stkCells; rw [List.reverse_cons, List.flatMap_append]; simp
theorem stkCells_len (S : List (Blk × ByteArray)) : (stkCells S).length = S.length * 7 := by
  induction S with
  | nil => rfl
  | cons p S ih => rw [stkCells_cons, List.length_append, ih]; simp [Blk.cells]; omega

/-- a text without an order: what a page may have -/
structure Cfg where
  number : Bool
  contents : Bool
  notes : Bool
  raw : Bool
  depth : Int
  secs : List Sec

/-- what has been written, which notes were asked for, what an author should know -/
structure HSt where
  out : List UInt8
  L : List ByteArray
  C : List Int
  dg : List ByteArray
  stk : List (Blk × ByteArray)
def HSt.put (s : HSt) (t : List UInt8) : HSt := { s with out := s.out ++ t }

def inside (d : Int) : List Inl → Nat
  | [] => 0
  | x :: l => if d < x.depth then inside d l + 1 else 0
theorem inside_le (d : Int) (l : List Inl) : inside d l ≤ l.length := by
  induction l with
  | nil => simp [inside]
  | cons x l ih => unfold inside; split <;> simp <;> omega

/-- what a note that is asked for has: its number, how often; what is known of notes behind it -/
def refS (nm : ByteArray) (s : HSt) : Int × Int × HSt :=
  if idxName nm s.L 0 = -1 then ((s.L.length : Int) + 1, 1, { s with L := s.L ++ [nm], C := s.C ++ [1] })
  else (idxName nm s.L 0 + 1, s.C.getD (idxName nm s.L 0).toNat 0 + 1, { s with C := s.C.set (idxName nm s.L 0).toNat (s.C.getD (idxName nm s.L 0).toNat 0 + 1) })
/-- what a note that is asked for is written as -/
def noteL (n t : Int) : List UInt8 := [60, 115, 117, 112] ++ attrL [105, 100] (backL n t) ++ [62, 60, 97, 32, 104, 114, 101, 102, 61, 34, 35] ++ idL n ++ [34, 62] ++ Lib.itoa n ++ [60, 47, 97, 62, 60, 47, 115, 117, 112, 62]
/-- what a node begins and ends with -/
def nodeL (c : Cfg) (x : Inl) : List UInt8 × List UInt8 :=
  if x.kind = 1 then (escL x.text.data.toList, [])
  else if x.kind = 2 then ([60, 99, 111, 100, 101, 62] ++ escL x.text.data.toList ++ [60, 47, 99, 111, 100, 101, 62], [])
  else if x.kind = 3 then ([60, 101, 109, 62], [60, 47, 101, 109, 62])
  else if x.kind = 4 then ([60, 115, 116, 114, 111, 110, 103, 62], [60, 47, 115, 116, 114, 111, 110, 103, 62])
  else if x.kind = 5 then ([60, 97, 32, 104, 114, 101, 102, 61, 34] ++ hrefL x.url.data.toList ++ [34] ++ attrL [116, 105, 116, 108, 101] x.title.data.toList ++ [62], [60, 47, 97, 62])
  else if x.kind = 6 then ([60, 105, 109, 103, 32, 115, 114, 99, 61, 34] ++ hrefL x.url.data.toList ++ [34, 32, 97, 108, 116, 61, 34] ++ escL x.text.data.toList ++ [34] ++ attrL [116, 105, 116, 108, 101] x.title.data.toList ++ [32, 47, 62], [])
  else if x.kind = 7 then ([10], [])
  else if x.kind = 8 then ([60, 98, 114, 32, 47, 62, 10], [])
  else if x.kind = 9 then (if c.raw then x.text.data.toList else escL x.text.data.toList, [])
  else if x.kind = 12 then ([60, 115, 112, 97, 110] ++ attrL [99, 108, 97, 115, 115] x.text.data.toList ++ [62], [60, 47, 115, 112, 97, 110, 62])
  else ([], [])
def crossL (c : Cfg) (a : ByteArray) : List UInt8 :=
  if (findSec a c.secs).2 = true then [60, 97, 32, 104, 114, 101, 102, 61, 34, 35, 115, 45] ++ (findSec a c.secs).1.anchor.data.toList ++ [34, 62] ++ escL (callSec (findSec a c.secs).1 c.number).data.toList ++ [60, 47, 97, 62]
  else escL ([91, 35] ++ a.data.toList ++ [93])
/-- a node: what it begins and ends with, and the state behind it -/
def nodeS (c : Cfg) (x : Inl) (s : HSt) : List UInt8 × List UInt8 × HSt :=
  if x.kind = 10 then
    (if c.notes then (noteL (refS x.text s).1 (refS x.text s).2.1, [], (refS x.text s).2.2) else (escL ([91, 94] ++ x.text.data.toList ++ [93]), [], s))
  else if x.kind = 11 then (crossL c x.text, [], if (findSec x.text c.secs).2 = true then s else { s with dg := s.dg ++ [x.text] })
  else ((nodeL c x).1, (nodeL c x).2, s)

def nodesF (c : Cfg) : Nat → List Inl → HSt → HSt
  | 0, _, s => s
  | _ + 1, [], s => s
  | n + 1, x :: l, s =>
    nodesF c n (l.drop (inside x.depth l)) ((nodesF c n (l.take (inside x.depth l)) ((nodeS c x s).2.2.put (nodeS c x s).1)).put (nodeS c x s).2.1)
theorem nodesF_fuel (c : Cfg) : ∀ (n m : Nat) (l : List Inl) (s : HSt), l.length ≤ n → l.length ≤ m → nodesF c n l s = nodesF c m l s
  | 0, m, l, s, h, _ => by
    have : l = [] := List.eq_nil_of_length_eq_zero (by omega)
    subst this
    cases m <;> rfl
  | n + 1, 0, l, s, _, h => by
    have : l = [] := List.eq_nil_of_length_eq_zero (by omega)
    subst this
    rfl
  | n + 1, m + 1, [], s, _, _ => rfl
  | n + 1, m + 1, x :: l, s, h, h' => by
    simp only [List.length_cons] at h h'
    have hi := inside_le x.depth l
    unfold nodesF
    rw [nodesF_fuel c n m (l.take (inside x.depth l)) _ (by rw [List.length_take]; omega) (by rw [List.length_take]; omega)]
    exact nodesF_fuel c n m (l.drop (inside x.depth l)) _ (by rw [List.length_drop]; omega) (by rw [List.length_drop]; omega)
/-- nodes: the state behind them -/
def nodesS (c : Cfg) (l : List Inl) (s : HSt) : HSt := nodesF c l.length l s
theorem nodesS_nil (c : Cfg) (s : HSt) : nodesS c [] s = s := rfl
theorem nodesS_cons (c : Cfg) (x : Inl) (l : List Inl) (s : HSt) :
    nodesS c (x :: l) s = nodesS c (l.drop (inside x.depth l)) ((nodesS c (l.take (inside x.depth l)) ((nodeS c x s).2.2.put (nodeS c x s).1)).put (nodeS c x s).2.1) := by
  have hi := inside_le x.depth l
  unfold nodesS
  rw [List.length_cons]
  rw [show nodesF c (l.length + 1) (x :: l) s = nodesF c l.length (l.drop (inside x.depth l)) ((nodesF c l.length (l.take (inside x.depth l)) ((nodeS c x s).2.2.put (nodeS c x s).1)).put (nodeS c x s).2.1) from rfl, nodesF_fuel c l.length (l.drop (inside x.depth l)).length (l.drop (inside x.depth l)) _ (by rw [List.length_drop]; omega) (Nat.le_refl _), nodesF_fuel c l.length (l.take (inside x.depth l)).length (l.take (inside x.depth l)) _ (by rw [List.length_take]; omega) (Nat.le_refl _)]

/-- diags as cells: what is asked for, and is not there -/
def dgCells (l : List ByteArray) : List Value := l.flatMap fun t => [.int .i64 3, .string t]
theorem dgCells_len (l : List ByteArray) : (dgCells l).length = l.length * 2 := by
  induction l with
  | nil => rfl
  | cons x l ih => unfold dgCells at *; rw [List.flatMap_cons, List.length_append, ih]; simp; omega

/-- the writer's cells -/
def writerCells (c : Cfg) (vS vN : Value) : Array Value := #[.bool c.number, .bool c.contents, .bool c.notes, .bool c.raw, .int .i64 c.depth, vS, vN]
/-- a writer in block wb of w: what never changes while it writes (but for the notes) -/
structure WriterAt (w : World) (Fn : Nat → Prop) (c : Cfg) (wb nb : Nat) : Prop where
  cells : ∃ vS, w.heap[wb]? = some (.cells (writerCells c vS (.pointer (some ⟨nb, 0, none⟩))) 37 (0, 0)) ∧ SecsIn w w.heap.size vS c.secs ∧ (c.secs ≠ [] → ∀ a n cap, vS = .slice (some a) n cap → ¬ Fn a.block)
  out : ¬ Fn wb

/-- what the walk of Blocks holds besides: its row of blocks, its counter's block -/
structure Held where
  v : Value
  kb : Nat → Option Obj
def Counts (o : Obj) : Prop := ∃ cs T, o = .cells cs T (0, 0) ∧ T ≠ 5 ∧ T ≠ 74 ∧ T ≠ 123 ∧ T ≠ 92
/-- the state of a paper: w0: the world that the law began in; w1: the world in which the paper was laid; Fn: the notes' blocks there -/
structure PSt (w0 w1 : World) (Fn : Nat → Prop) (v9 : Held) (b : Nat) (wr : Value) (nb : Nat) (s : HSt) (w : World) : Prop where
  below : Below w0.heap.size w0 w
  le : w0.heap.size ≤ w1.heap.size
  frame : Frame Fn w1 w
  paper : ∃ dg, IsPaper w1.heap.size b wr dg s.out w ∧ w.ownsRow w1.heap.size 123 2 dg s.dg.length (dgCells s.dg)
  notes : ∃ F', NotesAt 35 w0.heap.size F' nb s.L s.C w ∧ (∀ k, F' k → Fn k ∨ w1.heap.size ≤ k) ∧ ∀ g o, v9.kb g = some o → ¬ F' g
  stk : w.ownsRow w1.heap.size 92 7 v9.v s.stk.length (stkCells s.stk)
  ctr : ∀ g o, v9.kb g = some o → w.heap[g]? = some o ∧ Counts o
theorem IsPaper.lt {B b : Nat} {wr dg : Value} {l : List UInt8} {w : World} (h : IsPaper B b wr dg l w) : B ≤ b ∧ b < w.heap.size := by
  rcases h with h | h
  · exact ⟨h.1, h.lt⟩
  · exact ⟨h.1, h.lt⟩
theorem IsPaper.kept {B b : Nat} {wr dg : Value} {l : List UInt8} {w w' : World} (h : IsPaper B b wr dg l w) (hk : ∀ k, k < w.heap.size → (k = b ∨ ∃ c fz, w.heap[k]? = some (.cells c 5 fz)) → w'.heap[k]? = w.heap[k]?) : IsPaper B b wr dg l w' := by
  rcases h with h | h
  · exact .inl (h.kept (fun k _ => hk k))
  · exact .inr (h.kept (fun k _ => hk k))
theorem IsPaper.block {B b : Nat} {wr dg : Value} {l : List UInt8} {w : World} (h : IsPaper B b wr dg l w) : ∃ cs, w.heap[b]? = some (.cells cs 74 (0, 0)) := by
  rcases h with ⟨-, v, hb, -⟩ | ⟨-, v, hb, -⟩
  · exact ⟨_, hb⟩
  · exact ⟨_, hb⟩
theorem IsPaper.cell0 {B b : Nat} {wr dg : Value} {l : List UInt8} {w : World} (h : IsPaper B b wr dg l w) : w.cell? ⟨b, 0, none⟩ = some wr := by
  rcases h with h | h
  · exact h.cell0
  · exact h.cell0
theorem IsPaper.cell3 {B b : Nat} {wr dg : Value} {l : List UInt8} {w : World} (h : IsPaper B b wr dg l w) : w.cell? ⟨b, 3, none⟩ = some dg := by
  rcases h with h | h
  · exact h.cell3
  · exact h.cell3

theorem frozen_paper {B b : Nat} {wr dg : Value} {l : List UInt8} {w : World} (h : IsPaper B b wr dg l w) (j : Nat) : w.frozen? ⟨b, j, none⟩ = false := by
  rcases h with h | h
  · exact h.frozen j
  · exact h.frozen j
theorem PSt.on {w0 w1 : World} {Fn : Nat → Prop} {v9 : Held} {b : Nat} {wr : Value} {nb : Nat} {s : HSt} {w w' : World} (h : PSt w0 w1 Fn v9 b wr nb s w) (hb : Below w.heap.size w w') : PSt w0 w1 Fn v9 b wr nb s w' := by
  obtain ⟨dg, hp, hd⟩ := h.paper
  obtain ⟨F', hn, hF⟩ := h.notes
  exact ⟨h.below.trans (hb.mono h.below.size), h.le, h.frame.trans (Frame.of_below (F := fun _ => False) hb) (fun _ h => h.elim), ⟨dg, hp.kept (fun k hk _ => hb.block k hk), row_kept hd (fun g hg => hb.block g (hd.lt g hg).2)⟩, ⟨F', hn.frame (Frame.of_below (F := fun _ => False) hb) (fun _ _ h => h), hF⟩, row_kept h.stk (fun g hg => hb.block g (h.stk.lt g hg).2), fun g o hk => ⟨(hb.block g (Array.getElem?_eq_some_iff.1 (h.ctr g o hk).1).1).trans (h.ctr g o hk).1, (h.ctr g o hk).2⟩⟩

/-- a struct's block of another type than bytes' stays behind a write -/
theorem kept_other {b : Nat} {w w' : World} (hk : Lib.OthersKept 5 (some b) w w') {k : Nat} {cs : Array Value} {T : TypeId} {fz : Nat × Nat} (h : w.heap[k]? = some (.cells cs T fz)) (hT : T ≠ 5) (hkb : k ≠ b) : w'.heap[k]? = w.heap[k]? := by
  rw [h]
  exact hk k _ h (fun e => hkb (Option.some.inj e)) (fun c f e => by cases e; exact hT rfl)
theorem row_other {b : Nat} {w w' : World} (hk : Lib.OthersKept 5 (some b) w w') {csb : Array Value} {Tb : TypeId} (hb : w.heap[b]? = some (.cells csb Tb (0, 0))) {base : Nat} {e : TypeId} {size : Nat} {v : Value} {n : Nat} {xs : List Value} (h : w.ownsRow base e size v n xs) (he : e ≠ 5) (heb : e ≠ Tb) : w'.ownsRow base e size v n xs :=
  row_kept h (fun g hg => by
    obtain ⟨-, cur, hc⟩ := row_block h hg
    exact kept_other hk hc he (fun e' => by subst e'; rw [hb] at hc; simp at hc; exact heb hc.2.symm))
theorem row_not {w : World} {base : Nat} {e T : TypeId} {sz : Nat} {v : Value} {n : Nat} {xs : List Value} {b : Nat} {cs : Array Value} (h : w.ownsRow base e sz v n xs) (hb : w.heap[b]? = some (.cells cs T (0, 0))) (he : e ≠ T) : v.ownBlock ≠ some b := by
  intro hg
  obtain ⟨-, c1, h1⟩ := row_block h hg
  rw [hb] at h1
  simp only [Option.some.injEq, Obj.cells.injEq] at h1
  exact he h1.2.1.symm
theorem NotesAt.others {base : Nat} {F : Nat → Prop} {nb b : Nat} {L : List ByteArray} {C : List Int} {w w' : World} (h : NotesAt 35 base F nb L C w) (hk : Lib.OthersKept 5 (some b) w w') {cs : Array Value} (hb : w.heap[b]? = some (.cells cs 74 (0, 0))) : NotesAt 35 base F nb L C w' := by
  obtain ⟨hg, hl, v1, v2, hnb, h1, h2, hF⟩ := h
  refine ⟨hg, hl, v1, v2, (kept_other hk hnb (by decide) (fun e => by subst e; rw [hb] at hnb; simp at hnb)).trans hnb, row_other hk hb h1 (by decide) (by decide), row_other hk hb h2 (by decide) (by decide), hF⟩
/-- behind a write -/
theorem PSt.penned {w0 w1 : World} {Fn : Nat → Prop} {v9 : Held} {b : Nat} {wr : Value} {nb : Nat} {s : HSt} {w w' : World} {dg : Value} {t : List UInt8} (h : PSt w0 w1 Fn v9 b wr nb s w) (hp : IsPaper w1.heap.size b wr dg s.out w) (hd : w.ownsRow w1.heap.size 123 2 dg s.dg.length (dgCells s.dg)) (hw : Penned w1.heap.size b wr dg (s.out ++ t) w w') : PSt w0 w1 Fn v9 b wr nb (s.put t) w' := by
  obtain ⟨F', hn, hF⟩ := h.notes
  obtain ⟨cs, hb⟩ := hp.block
  exact ⟨h.below.trans (hw.below.mono h.le), h.le, ⟨hw.below.os.trans h.frame.os, hw.below.tape.trans h.frame.tape, hw.below.output.trans h.frame.output, Nat.le_trans h.frame.size hw.below.size, fun k hk hF => (hw.below.block k hk).trans (h.frame.block k hk hF)⟩, ⟨dg, .inr hw.paper, row_other hw.kept hb hd (by decide) (by decide)⟩, ⟨F', hn.others hw.kept hb, hF⟩, row_other hw.kept hb h.stk (by decide) (by decide), fun g o hk => by
    obtain ⟨h1, cs9, T, rfl, n1, n2, n3, n4⟩ := h.ctr g o hk
    exact ⟨(kept_other hw.kept h1 n1 (fun e => by subst e; rw [hb] at h1; cases h1; exact n2 rfl)).trans h1, cs9, T, rfl, n1, n2, n3, n4⟩⟩
/-- WriteString on the paper -/
theorem put_any {w0 w1 : World} {Fn : Nat → Prop} {v9 : Held} {b : Nat} {wr : Value} {nb : Nat} {s : HSt} {w : World} {X : ByteArray} {t : List UInt8} (h : PSt w0 w1 Fn v9 b wr nb s w) (hX : X.data.toList = t) (hlen : s.out.length + t.length ≤ 140737488355328) :
    Calls Tryz.prog 33 #[.pointer (some ⟨b, 1, none⟩), .string X] w fun e w' => e = .returned (.tuple #[.int .i64 X.size, .nilIface]) ∧ PSt w0 w1 Fn v9 b wr nb (s.put t) w' := by
  obtain ⟨dg, hp, hd⟩ := h.paper
  exact (pen_str hp h.frame.size hX hlen).mono fun e w' ⟨he, hw⟩ => ⟨he, h.penned hp hd hw⟩
theorem putByte_any {w0 w1 : World} {Fn : Nat → Prop} {v9 : Held} {b : Nat} {wr : Value} {nb : Nat} {s : HSt} {w : World} (c : UInt8) (h : PSt w0 w1 Fn v9 b wr nb s w) (hlen : s.out.length + 1 ≤ 140737488355328) :
    Calls Tryz.prog 53 #[.pointer (some ⟨b, 1, none⟩), .int .u8 c.toNat] w fun e w' => e = .returned .nilIface ∧ PSt w0 w1 Fn v9 b wr nb (s.put [c]) w' := by
  obtain ⟨dg, hp, hd⟩ := h.paper
  exact (pen_byte hp h.frame.size hlen).mono fun e w' ⟨he, hw⟩ => ⟨he, h.penned hp hd hw⟩
/-- what the writer's fields read as, whenever -/
theorem PSt.writer {w0 w1 : World} {Fn : Nat → Prop} {v9 : Held} {b : Nat} {wb nb : Nat} {s : HSt} {w : World} {c : Cfg} {wr : Value} (h : PSt w0 w1 Fn v9 b wr nb s w) (hw : WriterAt w1 Fn c wb nb) :
    ∃ vS, w.heap[wb]? = some (.cells (writerCells c vS (.pointer (some ⟨nb, 0, none⟩))) 37 (0, 0)) ∧ SecsIn w w.heap.size vS c.secs := by
  obtain ⟨vS, hc, hS, hn⟩ := hw.cells
  refine ⟨vS, h.frame.at hc hw.out, ?_⟩
  obtain ⟨a, cap, rfl, h1, h2, h3, h4⟩ := hS
  refine ⟨a, cap, rfl, h1, h2, h3, ?_⟩
  by_cases he : c.secs = []
  · exact .inl he
  rcases h4 with h4 | ⟨g, o, rfl, hlt, h4⟩
  · exact .inl h4
  · have hg : ¬ Fn g := hn he _ _ _ rfl
    have hk : ∀ j, w.cell? ⟨g, j, none⟩ = w1.cell? ⟨g, j, none⟩ := fun j => by simp [World.cell?, h.frame.block g hlt hg]
    exact .inr ⟨g, o, rfl, Nat.lt_of_lt_of_le hlt h.frame.size, fun i hi => ⟨(hk _).trans (h4 i hi).c0, (hk _).trans (h4 i hi).c1, (hk _).trans (h4 i hi).c2, (hk _).trans (h4 i hi).c3⟩⟩
end Go.Proofs.YtpabackkapgkpaaGreatDoor
