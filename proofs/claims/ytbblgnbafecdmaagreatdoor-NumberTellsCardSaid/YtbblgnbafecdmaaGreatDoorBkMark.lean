/- bowdlerbook.name, markTexts, copyTexts: the walks. -/
import Derived.Test.YtbblgnbafecdmaaGreatDoorBkNames
import Derived.Laws.BytesArg
import Derived.OwnWalk
import Derived.Deep.Slices
import Derived.OpenShut
import Derived.IntWalk
namespace Go.Proofs.YtbblgnbafecdmaaGreatDoor.bk
open Go.RowKit Go.Lib

theorem info_str : (Tryz.prog.info? 9).map (fun i => (i.zero, i.size, i.bytes)) = some (some (.string ⟨#[]⟩), 1, 16) := by kernel_rfl
/-- the bytes of a mark -/
def markZ (i k : Nat) : List Int := [109, 65 + (i : Int) % 26, 65 + (i : Int) / 26 % 26, 48 + (k : Int) % 10, 48 + (k : Int) / 10 % 10, 48 + (k : Int) / 100 % 10]
def nameS (i k : Nat) : ByteArray := strOfNums (markZ i k)
def marks (i m n : Nat) : List ByteArray := (List.range n).map fun j => nameS i (m + j)
theorem marks_len (i m n : Nat) : (marks i m n).length = n := by simp [marks]
theorem marks_succ (i m n : Nat) : marks i m (n + 1) = marks i m n ++ [nameS i (m + n)] := by simp [marks, List.range_succ]
theorem marks_add (i m n k : Nat) : marks i m (n + k) = marks i m n ++ marks i (m + n) k := by
  induction k with
  | zero => simp [marks]
  | succ k ih => rw [← Nat.add_assoc, marks_succ, ih, marks_succ, List.append_assoc, Nat.add_assoc]
theorem conv6 (w : World) (a b c d e f : Int) : (convert 81 9 (.slice (some ⟨w.heap.size, 0, none⟩) 6 6)).run Tryz.prog (w.alloc (.cells #[.int .u8 a, .int .u8 b, .int .u8 c, .int .u8 d, .int .u8 e, .int .u8 f] 5)) = .ok (.string (strOfNums [a, b, c, d, e, f])) (w.alloc (.cells #[.int .u8 a, .int .u8 b, .int .u8 c, .int .u8 d, .int .u8 e, .int .u8 f] 5)) := by
  refine run_convert_bytes_arg _ _ 5 Tryz.underlying81 Tryz.underlying5 w.heap.size 0 6 6 [a, b, c, d, e, f] rfl (fun i hi => ?_) _ Tryz.underlying9
  have h : i = 0 ∨ i = 1 ∨ i = 2 ∨ i = 3 ∨ i = 4 ∨ i = 5 := by omega
  rcases h with rfl | rfl | rfl | rfl | rfl | rfl <;> (rw [cell_of_row _ _ _ _ _ _ (heap_alloc_new w _)]; rfl)
theorem u8_in {i : Int} (h0 : 0 ≤ i) (h1 : i < 256) : IntKind.u8.wrap i = i := by rw [IntKind.wrap_u8]; omega

set_option maxHeartbeats 1000000 in
theorem name_any {w : World} (i k : Nat) (hi : i ≤ 100000) (hk : k ≤ 100000) :
    Calls Tryz.prog 84 #[.int .i64 i, .int .i64 k] w fun e w' => e = .returned (.string (nameS i k)) ∧ Below w.heap.size w w' := by
  have hc := conv6
  have hi0 : (0 : Int) ≤ (i : Int) := by omega
  have hk0 : (0 : Int) ≤ (k : Int) := by omega
  have e1 : IntKind.u8.wrap (65 + (i : Int) % 26) = 65 + (i : Int) % 26 := u8_in (by omega) (by omega)
  have e2 : IntKind.u8.wrap (65 + (i : Int) / 26 % 26) = 65 + (i : Int) / 26 % 26 := u8_in (by omega) (by omega)
  have e3 : IntKind.u8.wrap (48 + (k : Int) % 10) = 48 + (k : Int) % 10 := u8_in (by omega) (by omega)
  have e4 : IntKind.u8.wrap (48 + (k : Int) / 10 % 10) = 48 + (k : Int) / 10 % 10 := u8_in (by omega) (by omega)
  have e5 : IntKind.u8.wrap (48 + (k : Int) / 100 % 10) = 48 + (k : Int) / 100 % 10 := u8_in (by omega) (by omega)
  go_enter Tryz.func84, Tryz.ntmps84
  go_wp2_with fail
  go_ret
  exact ⟨rfl, (Below.refl _ _).alloc (Nat.le_refl _) _⟩

theorem news_at {w : World} {m : Nat} (hm : w.heap.size = m) (v : Value) (E : TypeId) : ∀ ad, some (⟨m, 0, none⟩ : Addr) = some ad → ∀ j u, [v][j]? = some u → (w.alloc (.cells #[v] E)).cell? (ad.add j) = some u := by
  subst hm
  intro ad had j u hu
  cases had
  cases j with
  | zero => simp at hu; subst hu; simp [Addr.add]
  | succ j => simp at hu

set_option maxRecDepth 100000 in
set_option maxHeartbeats 1000000 in
theorem mark_any {w : World} (i m n : Nat) (hi : i ≤ 100000) (hmn : m + n ≤ 100000) :
    Calls Tryz.prog 68 #[.int .i64 i, .int .i64 m, .int .i64 n] w fun e w' => ∃ v, e = .returned v ∧ w'.ownsRow w.heap.size 9 1 v n ((marks i m n).map .string) ∧ Below w.heap.size w w' := by
  obtain ⟨i0, hi0, hz0, hz1, hz2⟩ := info_parts info_str
  have HI0 : Hid (Tryz.prog.info? 9 = some i0 ∧ i0.zero = some (.string ⟨#[]⟩) ∧ i0.size = 1 ∧ i0.bytes = 16) := ⟨hi0, hz0, hz1, hz2⟩
  clear hi0 hz0 hz1 hz2
  have hmi : (m : Int) + n ≤ 100000 := by omega
  have hm0 : (0 : Int) ≤ (m : Int) := by omega
  have hn0 : (0 : Int) ≤ (n : Int) := by omega
  go_enter Tryz.func68, Tryz.ntmps68
  go_wp2_with fail
  go_loopw [7, 8] (fun ou k wr => ∃ (q : Nat) (out : Value), q ≤ n ∧ k = .int .i64 ((m : Int) + (q : Int)) ∧ out = ou ∧ wr.ownsRow w.heap.size 9 1 out q ((marks i m q).map .string) ∧ Below w.heap.size w wr) (fun _ k _ => m + n - (RowKit.intOf k).toNat)
  case atStart => exact ⟨0, _, Nat.zero_le _, by simp, rfl, World.ownsRow_nil _ _ _ _, Below.refl _ _⟩
  case round =>
    obtain ⟨q, out, hq, rfl, rfl, hR, hB⟩ := hrel
    by_cases hlt : q < n
    · have t1 : decide ((m : Int) + (q : Int) < (m : Int) + (n : Int)) = true := by simp only [decide_eq_true_eq]; omega
      have hqi : (m : Int) + (q : Int) + 1 ≤ 100000 := by omega
      have hq0 : (0 : Int) ≤ (m : Int) + (q : Int) := by omega
      have cN := fun (w' : World) => name_any (w := w') i (m + q) hi (by omega)
      rw [show (((m + q : Nat)) : Int) = (m : Int) + (q : Int) by omega] at cN
      have hnx := Lib.hid (marks_succ i m q)
      generalize nameS i (m + q) = X at cN hnx
      have HR := Lib.hid hR
      have hm1 : q + 1 ≤ maxLen := by unfold maxLen; omega
      have hm2 : (q + 1) * 16 ≤ 140737488355328 := by omega
      clear hR
      go_wp2_with fail
      refine (cN _).mono ?_
      rintro e w1 ⟨rfl, hb1⟩
      have HB1 := Lib.hid (hB.trans (hb1.mono hB.size))
      have HR1 := Lib.hid (row_on HR.out hb1)
      have hba : w.heap.size ≤ (w1.alloc (.cells #[.string X] 9)).heap.size := by have := HB1.out.size; simp; omega
      clear hb1 cN
      go_wp2_with (at_builtin; refine wpList_append_keep rfl (.tmp 17) (.tmp 21) 23 rfl w.heap.size 9 i0 (.string ⟨#[]⟩) 1 16 Tryz.underlying23 HI0.out.1 HI0.out.2.1 HI0.out.2.2.1 HI0.out.2.2.2 rfl (by decide) out q ((marks i m q).map .string) rfl (HR1.out.alloc _) (some ⟨w1.heap.size, 0, none⟩) 1 1 [.string X] rfl rfl (fun h => by cases h) (news_at rfl _ _) (fun u hu => by rw [List.mem_singleton.1 hu]; rfl) hm1 hm2 hba ?_; intro v' w2 hown2 hkp2 hgr2 hblk2; have HO := Lib.hid hown2; have HG := Lib.hid hgr2; clear hown2 hgr2 hblk2 hkp2)
      go_roundw
      case rel => exact ⟨q + 1, v', by omega, by go_num, rfl, by rw [hnx.out, List.map_append]; exact HO.out, (HB1.out.alloc HB1.out.size _).grown HG.out hba (fun k hk => (HR1.out.lt k hk).1)⟩
      case measure => simp only [RowKit.intOf]; omega
    · obtain rfl : q = n := by omega
      have HR := Lib.hid hR
      clear hR
      have t1 : decide ((m : Int) + (q : Int) < (m : Int) + (q : Int)) = false := by simp only [decide_eq_false_iff_not]; omega
      go_wp2_with fail
      go_ret
      exact ⟨out, rfl, HR.out, hB⟩

theorem names_cells {w : World} {v : Value} {L : List ByteArray} {a : Option Addr} {cap : Nat} (h : NamesIn w v L) (hv : v = .slice a L.length cap) : ∀ ad, a = some ad → ∀ j u, (L.map Value.string)[j]? = some u → w.cell? (ad.add j) = some u := by
  rintro ad rfl j u hu
  by_cases h0 : 0 < L.length
  · obtain ⟨b, o, he, -, hc⟩ := h.cells hv h0
    cases he
    obtain ⟨hj, he⟩ := List.getElem?_eq_some_iff.1 hu
    rw [List.length_map] at hj
    rw [Go.WideShapes.add_plain, hc j hj, ← he, List.getElem_map]
  · have : L = [] := List.eq_nil_of_length_eq_zero (by omega)
    subst this
    simp at hu
theorem names_none {w : World} {v : Value} {L : List ByteArray} {cap : Nat} (h : NamesIn w v L) (hv : v = .slice none L.length cap) : L.length = 0 := by
  rcases h with ⟨rfl, -⟩ | ⟨b, o, c, he, -⟩
  · rfl
  · rw [hv] at he; cases he
theorem strs_one (L : List ByteArray) : ∀ u ∈ L.map Value.string, u.oneCell' = true := by
  intro u hu
  obtain ⟨x, -, rfl⟩ := List.mem_map.1 hu
  rfl

set_option maxHeartbeats 1000000 in
theorem copy_any {w : World} (v : Value) (L : List ByteArray) (hv : NamesIn w v L) (hL : L.length ≤ 100000) :
    Calls Tryz.prog 18 #[v] w fun e w' => ∃ u, e = .returned u ∧ w'.ownsRow w.heap.size 9 1 u L.length (L.map .string) ∧ Below w.heap.size w w' := by
  obtain ⟨i0, hi0, hz0, hz1, hz2⟩ := info_parts info_str
  have HI0 : Hid (Tryz.prog.info? 9 = some i0 ∧ i0.zero = some (.string ⟨#[]⟩) ∧ i0.size = 1 ∧ i0.bytes = 16) := ⟨hi0, hz0, hz1, hz2⟩
  obtain ⟨a, cap, rfl⟩ := hv.form
  have HV := Lib.hid hv
  have hll := Lib.hid (show (L.map Value.string).length = L.length * 1 by simp)
  clear hv hi0 hz0 hz1 hz2
  go_enter Tryz.func18, Tryz.ntmps18
  go_wp2_with (at_builtin; refine wpList_append_keep rfl (.const (.slice none 0 0)) (.tmp 3) 23 rfl w.heap.size 9 i0 (.string ⟨#[]⟩) 1 16 Tryz.underlying23 HI0.out.1 HI0.out.2.1 HI0.out.2.2.1 HI0.out.2.2.2 rfl (by decide) (.slice none 0 0) 0 [] rfl (World.ownsRow_nil _ _ _ _) a L.length cap (L.map .string) rfl hll.out (fun h => names_none HV.out (by rw [h])) (names_cells HV.out rfl) (strs_one L) (by unfold maxLen; omega) (by omega) (Nat.le_refl _) ?_; intro v' w2 hown2 hkp2 hgr2 hblk2; have HO := Lib.hid hown2; have HG := Lib.hid hgr2; clear hown2 hgr2 hblk2 hkp2)
  go_ret
  refine ⟨v', rfl, by simpa using HO.out, (Below.refl _ _).grown HG.out (Nat.le_refl _) (fun k hk => by simp [Value.ownBlock] at hk)⟩
end Go.Proofs.YtbblgnbafecdmaaGreatDoor.bk
