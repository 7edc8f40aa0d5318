/- note.same and the place of a name: the walks. -/
import Derived.Test.YtpabackkapgkpaaGreatDoorFrame
import Derived.Test.YtpabackkapgkpaaGreatDoorBuild
import Derived.WalkSpells
import Derived.WalkLawsBesides
import Derived.Lib.OthersKept
import Derived.Lib.MapLaws
import Derived.Deep.QuietTactic
import Derived.BigQuiet
import Derived.Outline
import Derived.WalkSmall
namespace Go.Proofs.YtpabackkapgkpaaGreatDoor
open Go.RowKit Go.Lib

theorem ret_int {k : IntKind} {a b : Int} (h : a = b) : Ending.returned (.int k a) = .returned (.int k b) := by rw [h]
theorem iterPos_at {w : World} {k : Nat} {s : ByteArray} {p : Nat} (h : w.heap[k]? = some (.stringIter s p)) : w.iterPos k = p := by simp only [World.iterPos, h]

/-- are two names one? -/
def eqB (a b : ByteArray) : Bool := a.toList == b.toList
theorem eqB_iff {a b : ByteArray} : eqB a b = true ↔ a = b := by
  unfold eqB
  rw [beq_iff_eq, Lib.toList_data, Lib.toList_data]
  exact ⟨ba_eq, fun h => by rw [h]⟩
theorem eqB_false {a b : ByteArray} : eqB a b = false ↔ a ≠ b := by
  rw [← Bool.not_eq_true, ne_eq, not_congr]; exact eqB_iff

set_option maxHeartbeats 1000000 in
theorem same_any (a b : ByteArray) (w : World) (_ha : a.size ≤ 9223372036854775807) (hb : b.size ≤ 9223372036854775807) :
    Calls Tryz.prog 60 #[.string a, .string b] w fun e w' => e = .returned (.bool (eqB a b)) ∧ Below w.heap.size w w' := by
  by_cases hs : a.size = b.size
  · have h1 : ((a.size : Int) == (b.size : Int)) = true := by simp [hs]
    have h2 : ((a.size : Int) != (b.size : Int)) = false := by rw [bne, h1]; rfl
    go_enter Tryz.func60, Tryz.ntmps60
    go_wp2_with fail
    go_loopw [5] (fun _ wr => ∃ pos : Nat, pos ≤ a.size ∧ wr.heap[w.heap.size]? = some (.stringIter a pos) ∧ Below w.heap.size w wr) (fun _ wr => a.size - wr.iterPos w.heap.size)
    case atStart => exact ⟨0, Nat.zero_le _, by have := World.iter_heap w a 0; simpa using this, (Below.refl _ _).alloc (Nat.le_refl _) _⟩
    case round =>
      obtain ⟨pos, hps, hit, hB⟩ := hrel
      by_cases hp : pos < a.size
      · have hnx : ∀ ty, (Instr.next (.pointer (some ⟨w.heap.size, 0, none⟩)) true ty).run Tryz.prog wr = _ := fun ty => Lib.run_next_any_at wr w.heap.size a pos ty hit hp
        have hit2 := Lib.hid (Lib.iterAt_heap wr w.heap.size a pos (pos + (Utf8.decode a pos).2) hit)
        have hbw2 := Lib.below_iterAt hB (k := w.heap.size) (Nat.le_refl _) a (pos + (Utf8.decode a pos).2)
        have hd1 : 1 ≤ (Utf8.decode a pos).2 := by
          have := decodeL_width (a.data.toList.drop pos); rw [decodeL_drop] at this; exact this
        have hd2 : pos + (Utf8.decode a pos).2 ≤ a.size := by
          have hne : a.data.toList.drop pos ≠ [] := by
            intro hn
            have := congrArg List.length hn
            rw [List.length_drop, ← ba_size] at this
            simp at this; omega
          have := decodeL_le _ hne
          rw [decodeL_drop, List.length_drop, ← ba_size] at this; omega
        have HP := Lib.hid (iterPos_at hit)
        have hpb : pos < b.size := by omega
        clear hit
        generalize Utf8.decode a pos = d at *
        obtain ⟨r, n⟩ := d
        simp only at *
        go_wp2_with fail
        go_quiet (fail)
        go_wp2_with fail
        · rename_i ht
          go_ret
          refine ⟨ret_bool (eqB_false.2 ?_).symm, bel_drewN hbw2 _⟩
          intro hab
          subst hab
          simp at ht
        · go_roundw
          case rel => exact ⟨pos + n, hd2, by simpa using hit2.out, bel_drewN hbw2 _⟩
          case measure => rw [HP.out, iterPos_at (by simpa using hit2.out)]; omega
      · have hnx : ∀ ty, (Instr.next (.pointer (some ⟨w.heap.size, 0, none⟩)) true ty).run Tryz.prog wr = _ := fun ty => Lib.run_next_end_at wr w.heap.size a pos ty hit hp
        go_wp2_with fail
        go_ret
        exact ⟨rfl, hB⟩
  · have h1 : ((a.size : Int) == (b.size : Int)) = false := by simp; omega
    have h2 : ((a.size : Int) != (b.size : Int)) = true := by rw [bne, h1]; rfl
    have HS := Lib.hid hs
    clear hs
    go_enter Tryz.func60, Tryz.ntmps60
    go_wp2_with fail
    go_ret
    exact ⟨ret_bool (eqB_false.2 (fun h => HS.out (by rw [h]))).symm, Below.refl _ _⟩

/-- the place of a name; -1 -/
def idxName (nm : ByteArray) : List ByteArray → Nat → Int
  | [], _ => -1
  | x :: l, k => if eqB x nm = true then k else idxName nm l (k + 1)

theorem idx_none {nm : ByteArray} {l : List ByteArray} (h : nm ∉ l) (k : Nat) : idxName nm l k = -1 := by
  induction l generalizing k with
  | nil => rfl
  | cons x l ih =>
    simp only [List.mem_cons, not_or] at h
    unfold idxName
    rw [if_neg (by rw [eqB_iff]; exact fun e => h.1 e.symm)]
    exact ih h.2 _
theorem idx_some {nm : ByteArray} {l : List ByteArray} (h : nm ∈ l) (k : Nat) : ∃ i, i < l.length ∧ idxName nm l k = ((k + i : Nat) : Int) ∧ l[i]? = some nm ∧ ∀ j, j < i → l[j]? ≠ some nm := by
  induction l generalizing k with
  | nil => cases h
  | cons x l ih =>
    unfold idxName
    by_cases hx : eqB x nm = true
    · have hx' := eqB_iff.1 hx
      exact ⟨0, by simp, by rw [if_pos hx]; simp, by simp [hx'], fun j hj => by omega⟩
    · have hne : x ≠ nm := fun e => hx (eqB_iff.2 e)
      have hm : nm ∈ l := by
        rcases List.mem_cons.1 h with e | h
        · exact absurd e.symm hne
        · exact h
      obtain ⟨i, h1, h2, h3, h4⟩ := ih hm (k + 1)
      refine ⟨i + 1, by simpa using h1, by rw [if_neg hx, h2]; congr 1; omega, by simpa using h3, fun j hj => ?_⟩
      cases j with
      | zero => simpa using hne
      | succ j => simpa using h4 j (by omega)

set_option maxHeartbeats 400000 in
theorem closure_any (x nm : ByteArray) (c : Nat) (w : World) (hc : w.cell? ⟨c, 0, none⟩ = some (.string nm)) (hx : x.size ≤ 9223372036854775807) (hn : nm.size ≤ 9223372036854775807) :
    Calls Tryz.prog 59 #[.string x, .pointer (some ⟨c, 0, none⟩)] w fun e w' => e = .returned (.bool (eqB x nm)) ∧ Below w.heap.size w w' := by
  go_enter Tryz.func59, Tryz.ntmps59
  go_wp2_with fail
  refine (same_any x nm _ hx hn).mono ?_
  rintro e w1 ⟨rfl, hb1⟩
  go_wp2_with fail
  go_ret
  exact ⟨rfl, hb1⟩

/-- names lie in a slice -/
def NamesIn (w : World) (v : Value) (l : List ByteArray) : Prop :=
  (l = [] ∧ ∃ a cap, v = .slice a 0 cap) ∨ ∃ b o cap, v = .slice (some ⟨b, o, none⟩) l.length cap ∧ b < w.heap.size ∧ ∀ i (h : i < l.length), w.cell? ⟨b, o + i, none⟩ = some (.string l[i])
theorem NamesIn.below {w w' : World} {v : Value} {l : List ByteArray} (h : NamesIn w v l) (hb : Below w.heap.size w w') : NamesIn w' v l := by
  rcases h with h | ⟨b, o, cap, hv, hlt, hc⟩
  · exact .inl h
  · exact .inr ⟨b, o, cap, hv, Nat.lt_of_lt_of_le hlt hb.size, fun i hi => (hb.cell (p := ⟨b, o + i, none⟩) hlt).trans (hc i hi)⟩

set_option maxHeartbeats 1000000 in
theorem indexName_any (nm : ByteArray) (l : List ByteArray) (c : Nat) (v : Value) (w : World) (hc : w.cell? ⟨c, 0, none⟩ = some (.string nm)) (hv : NamesIn w v l) (hm : l.length ≤ 100000) (hn : nm.size ≤ 9223372036854775807) (hl : ∀ x ∈ l, x.size ≤ 9223372036854775807) :
    Calls Tryz.prog 58 #[v, .func (.func 59) #[] #[.pointer (some ⟨c, 0, none⟩)]] w fun e w' => e = .returned (.int .i64 (idxName nm l 0)) ∧ Below w.heap.size w w' := by
  have hlt := World.block_lt_of_cell? w _ hc
  have HL := Lib.hid hl
  clear hl
  rcases hv with ⟨rfl, a, cap, rfl⟩ | ⟨b, o, cap, rfl, hbl, hcell⟩
  · go_enter Tryz.func58, Tryz.ntmps58
    go_wp2_with fail
    go_loopw [8] (fun i wr => i = .int .i64 0 ∧ Below w.heap.size w wr) (fun i _ => 0)
    case atStart => exact ⟨rfl, Below.refl _ _⟩
    case round =>
      obtain ⟨rfl, hB⟩ := hrel
      go_wp2_with fail
      go_ret
      exact ⟨rfl, hB⟩
  · have HC := Lib.hid hcell
    clear hcell
    go_enter Tryz.func58, Tryz.ntmps58
    go_wp2_with fail
    go_loopw [8] (fun i wr => ∃ k : Nat, k ≤ l.length ∧ i = .int .i64 k ∧ Hid (idxName nm (l.drop k) k = idxName nm l 0) ∧ Below w.heap.size w wr) (fun i _ => l.length - (RowKit.intOf i).toNat)
    case atStart => exact ⟨0, Nat.zero_le _, rfl, by (show _ = _; rw [List.drop_zero]), Below.refl _ _⟩
    case round =>
      obtain ⟨k, hk, rfl, HF, hB⟩ := hrel
      by_cases hlk : k < l.length
      · have s0 := (hB.cell (p := ⟨b, o + k, none⟩) hbl).trans (HC.out k hlk)
        have hc' := (hB.cell (p := ⟨c, 0, none⟩) hlt).trans hc
        have HD := Lib.hid (List.drop_eq_getElem_cons hlk)
        have hxl := HL.out l[k] (List.getElem_mem _)
        have eg := enters_of (P := Tryz.prog) Tryz.func59 (by kernel_rfl) rfl
        clear hc
        generalize l[k] = x at *
        go_wp2_with fail
        refine (closure_any x nm c _ hc' hxl hn).mono ?_
        rintro e w1 ⟨rfl, hb1⟩
        have hB1 := hB.trans (hb1.mono hB.size)
        clear hb1 eg s0 hc'
        cases hv : eqB x nm with
        | false =>
          have HV := Lib.hid hv
          clear hv
          go_wp2_with fail
          go_roundw
          case rel =>
            refine ⟨k + 1, by omega, by go_num, ?_, hB1⟩
            show _ = _
            rw [← HF.out, HD.out]; simp [idxName, HV.out]
          case measure => simp [RowKit.intOf]; omega
        | true =>
          have HV := Lib.hid hv
          clear hv
          go_wp2_with fail
          go_ret
          refine ⟨ret_int ?_, hB1⟩
          rw [← HF.out, HD.out]; simp [idxName, HV.out]
      · go_wp2_with fail
        go_ret
        refine ⟨ret_int ?_, hB⟩
        have : k = l.length := by omega
        rw [← HF.out, this]; simp [idxName]

set_option maxHeartbeats 1000000 in
theorem at_any (nm : ByteArray) (l : List ByteArray) (b : Nat) (v : Value) (w : World) (hc : w.cell? ⟨b, 0, none⟩ = some v) (hv : NamesIn w v l) (hm : l.length ≤ 100000) (hn : nm.size ≤ 9223372036854775807) (hl : ∀ x ∈ l, x.size ≤ 9223372036854775807) :
    Calls Tryz.prog 42 #[.pointer (some ⟨b, 0, none⟩), .string nm] w fun e w' => e = .returned (.int .i64 (idxName nm l 0)) ∧ Below w.heap.size w w' := by
  have hmf : ∀ (fn : Fn) (first cap : Array Value) (w : World), (Instr.makeFunc fn first cap).run Tryz.prog w = .ok (.func fn first cap) w := fun _ _ _ _ => rfl
  have HV := Lib.hid hv
  have HL := Lib.hid hl
  clear hv hl
  have hbl : b < w.heap.size := World.block_lt_of_cell? w ⟨b, 0, none⟩ hc
  have hne : ¬ b = w.heap.size := by omega
  go_enter Tryz.func42, Tryz.ntmps42
  go_wp2_with fail
  refine (indexName_any nm l w.heap.size v (w.alloc (.cells #[.string nm] 9)) (by simp) (HV.out.below ((Below.refl _ _).alloc (Nat.le_refl _) _)) hm hn HL.out).mono ?_
  rintro e w1 ⟨rfl, hb1⟩
  go_wp2_with fail
  go_ret
  exact ⟨rfl, ((Below.refl _ _).alloc (Nat.le_refl _) _).trans (hb1.mono (by simp))⟩
end Go.Proofs.YtpabackkapgkpaaGreatDoor
