/- The references of escaping: Encode and Safe, the walks. -/
import Derived.Test.YtnpnfgjeggdanaaRefs
import Derived.Deep.QuietTactic
import Derived.BigQuiet
import Derived.Laws.IdiomStrings
namespace Go.Proofs.Ytnpnfgjeggdanaa
open Go.RowKit Go.Lib

theorem conv1 (w : World) (c : UInt8) (n : Int) (h : n = (c.toNat : Int)) :
    (convert 28 9 (.slice (some ⟨w.heap.size, 0, none⟩) 1 1)).run Try.prog (w.alloc (.cells #[.int .u8 n] 5)) = .ok (.string ⟨#[c]⟩) (w.alloc (.cells #[.int .u8 n] 5)) := by
  subst h
  exact run_convert_bytes_back (P := Try.prog) _ _ _ _ ⟨w.heap.size, 0, none⟩ 1 [c] Try.underlying28 Try.underlying5 Try.underlying9 (fun j hj => by
    have : j = 0 := by simpa using hj
    subst this
    show World.cell? _ ⟨w.heap.size, 0, none⟩ = _
    simp only [World.cell?, alloc_new]; rfl)
theorem conv2 (w : World) (c d : UInt8) (n m : Int) (h : n = (c.toNat : Int)) (h2 : m = (d.toNat : Int)) :
    (convert 28 9 (.slice (some ⟨w.heap.size, 0, none⟩) 2 2)).run Try.prog (w.alloc (.cells #[.int .u8 n, .int .u8 m] 5)) = .ok (.string ⟨#[c, d]⟩) (w.alloc (.cells #[.int .u8 n, .int .u8 m] 5)) := by
  subst h h2
  exact run_convert_bytes_back (P := Try.prog) _ _ _ _ ⟨w.heap.size, 0, none⟩ 2 [c, d] Try.underlying28 Try.underlying5 Try.underlying9 (fun j hj => by
    have : j = 0 ∨ j = 1 := by simp at hj; omega
    rcases this with rfl | rfl
    · show World.cell? _ ⟨w.heap.size, 0, none⟩ = _
      simp only [World.cell?, alloc_new]; rfl
    · show World.cell? _ ⟨w.heap.size, 1, none⟩ = _
      simp only [World.cell?, alloc_new]; rfl)

theorem lowRB_cases (c : UInt8) : ((c.toNat : Int) ≤ 32 ∧ lowRB c = []) ∨ (32 < (c.toNat : Int) ∧ c.toNat = 127 ∧ lowRB c = []) ∨
    (32 < (c.toNat : Int) ∧ ((c.toNat : Int) == 127) = false ∧ 65 ≤ (c.toNat : Int) ∧ (c.toNat : Int) ≤ 90 ∧ lowRB c = [lowB c] ∧ (c.toNat : Int) + 32 = ((lowB c).toNat : Int)) ∨
    (32 < (c.toNat : Int) ∧ ((c.toNat : Int) == 127) = false ∧ (c.toNat : Int) < 65 ∧ lowRB c = [lowB c] ∧ (c.toNat : Int) = ((lowB c).toNat : Int)) ∨
    (32 < (c.toNat : Int) ∧ ((c.toNat : Int) == 127) = false ∧ 65 ≤ (c.toNat : Int) ∧ 90 < (c.toNat : Int) ∧ lowRB c = [lowB c] ∧ (c.toNat : Int) = ((lowB c).toNat : Int)) := by
  have key : ∀ n : Fin 256, ((n.val : Int) ≤ 32 ∧ lowRB (UInt8.ofNat n.val) = []) ∨ (32 < (n.val : Int) ∧ n.val = 127 ∧ lowRB (UInt8.ofNat n.val) = []) ∨
    (32 < (n.val : Int) ∧ ((n.val : Int) == 127) = false ∧ 65 ≤ (n.val : Int) ∧ (n.val : Int) ≤ 90 ∧ lowRB (UInt8.ofNat n.val) = [lowB (UInt8.ofNat n.val)] ∧ (n.val : Int) + 32 = ((lowB (UInt8.ofNat n.val)).toNat : Int)) ∨
    (32 < (n.val : Int) ∧ ((n.val : Int) == 127) = false ∧ (n.val : Int) < 65 ∧ lowRB (UInt8.ofNat n.val) = [lowB (UInt8.ofNat n.val)] ∧ (n.val : Int) = ((lowB (UInt8.ofNat n.val)).toNat : Int)) ∨
    (32 < (n.val : Int) ∧ ((n.val : Int) == 127) = false ∧ 65 ≤ (n.val : Int) ∧ 90 < (n.val : Int) ∧ lowRB (UInt8.ofNat n.val) = [lowB (UInt8.ofNat n.val)] ∧ (n.val : Int) = ((lowB (UInt8.ofNat n.val)).toNat : Int)) := by decide +kernel
  have := key ⟨c.toNat, c.toNat_lt⟩
  simpa only [UInt8.ofNat_toNat] using this

theorem belowN {B : Nat} {a w : World} (h : Below B a w) (n : Nat) : Below B a (w.drewN n) := h.trans ⟨rfl, rfl, rfl, Nat.le_refl _, fun _ _ => rfl⟩
theorem pre_cmp {X : ByteArray} {n : Nat} {p : List UInt8} {v : Bool} (hn : n ≤ X.size) (hp : p.length = n) (h : ((X.extract 0 n).toList == p) = v) : hasPrefix X.data.toList p = v := by
  rw [← Lib.hasPrefix_of_take, hp, ← ba_size, decide_eq_true hn, Bool.true_and, ← h, Lib.toList_data, ba_extract, List.drop_zero]
theorem pre_short {X : ByteArray} {n : Nat} {p : List UInt8} (hn : ¬ n ≤ X.size) (hp : p.length = n) : hasPrefix X.data.toList p = false := by
  rw [← Lib.hasPrefix_of_take, hp, ← ba_size, decide_eq_false hn, Bool.false_and]
theorem ref_no {l acc p : List UInt8} (hL : acc = lowRL l) (h : hasPrefix acc p = true) (hp : p ∈ bads) : false = safeRB l := by
  have : badL (lowRL l) = true := List.any_eq_true.2 ⟨p, hp, by rw [← hL]; exact h⟩
  unfold safeRB; rw [this]; rfl
theorem ref_yes {l acc : List UInt8} (hL : acc = lowRL l) (h : (bads.take 4).any (fun p => hasPrefix acc p) = false) : true = safeRB l := by
  have : badL (lowRL l) = false := by rw [← hL]; exact h
  unfold safeRB; rw [this]; rfl

set_option maxHeartbeats 2000000 in
theorem safe_ref_from {w0 w : World} (s : ByteArray) (h : Below w0.heap.size w0 w) (hs : s.size ≤ 1000000) :
    Calls Try.prog 17 #[.string s] w fun e w' => e = .returned (.bool (safeRB s.data.toList)) ∧ Below w0.heap.size w0 w' := by
  have hsz0 := h.size
  go_enter Try.func17, Try.ntmps17
  go_wp2_with fail
  go_loopw [3, 4] (fun vt vi wr => ∃ (k : Nat) (X : ByteArray), k ≤ s.size ∧ vi = .int .i64 k ∧ vt = .string X ∧ X.data.toList = lowRL (s.data.toList.take k) ∧ Below w0.heap.size w0 wr) (fun _ vi _ => s.size - (RowKit.intOf vi).toNat)
  case atStart => exact ⟨0, _, Nat.zero_le _, rfl, rfl, rfl, h⟩
  case round =>
    obtain ⟨k, X, hk, rfl, rfl, hX, hB⟩ := hrel
    have hXl : X.size ≤ 1000000 := by
      have := lowRL_length (s.data.toList.take k)
      rw [← hX, ← ba_size, List.length_take] at this; omega
    have HX := Lib.hid hX
    clear hX
    have hBs := hB.size
    by_cases hlt : k < s.size
    · have HN := Lib.hid (lowRL_next s.data.toList k (by rw [← ba_size]; exact hlt))
      have HG := Lib.hid (ba_get hlt)
      rcases lowRB_cases s[k] with ⟨h1, he⟩ | ⟨h1, h2, he⟩ | ⟨h1, h2, h3, h4, he, hv⟩ | ⟨h1, h2, h3, he, hv⟩ | ⟨h1, h2, h3, h4, he, hv⟩
      · have HE := Lib.hid he
        clear he
        go_wp2_with fail
        go_roundw
        case rel => exact ⟨k + 1, X, by omega, by go_num, rfl, by rw [HN.out, HG.out, HE.out, HX.out, List.append_nil], hB⟩
        case measure => simp [RowKit.intOf]; omega
      · have HE := Lib.hid he
        clear he
        go_wp2_with fail
        go_roundw
        case rel => exact ⟨k + 1, X, by omega, by go_num, rfl, by rw [HN.out, HG.out, HE.out, HX.out, List.append_nil], hB⟩
        case measure => simp [RowKit.intOf]; omega
      all_goals
        have HE := Lib.hid he
        have hcv := conv1 wr (lowB s[k]) _ hv
        clear he hv
        go_wp2_with fail
        go_roundw
        case rel => exact ⟨k + 1, _, by omega, by go_num, rfl, by rw [HN.out, HG.out, HE.out, ba_append, HX.out], hB.alloc hBs _⟩
        case measure => simp [RowKit.intOf]; omega
    · have hL : X.data.toList = lowRL s.data.toList := by
        have := HX.out
        rw [List.take_of_length_le (by rw [← ba_size]; omega)] at this
        exact this
      have HL := Lib.hid hL
      clear hL HX
      go_wp2_with fail
      rename World => wq
      go_loopw [7] (fun vi w2 => ∃ k : Nat, k ≤ 4 ∧ vi = .int .i64 k ∧ Below w0.heap.size w0 w2 ∧ wq.heap.size < w2.heap.size ∧ w2.heap[wq.heap.size]? = some (Obj.cells #[Value.string ⟨#[106, 97, 118, 97, 115, 99, 114, 105, 112, 116, 58]⟩, Value.string ⟨#[118, 98, 115, 99, 114, 105, 112, 116, 58]⟩, Value.string ⟨#[102, 105, 108, 101, 58]⟩, Value.string ⟨#[100, 97, 116, 97, 58]⟩] 9) ∧ (bads.take k).any (fun p => hasPrefix X.data.toList p) = false) (fun vi _ => 4 - (RowKit.intOf vi).toNat)
      case atStart => exact ⟨0, by omega, rfl, hB.alloc hBs _, by simp, alloc_new _ _, rfl⟩
      case round =>
        obtain ⟨k, hk, rfl, hB, hsz2, hc, hno⟩ := hrel
        have HNO := Lib.hid hno
        clear hno
        obtain rfl | rfl | rfl | rfl | rfl : k = 0 ∨ k = 1 ∨ k = 2 ∨ k = 3 ∨ k = 4 := by omega
        · have hck : wr.cell? ⟨wq.heap.size, 0, none⟩ = some (Value.string ⟨#[106, 97, 118, 97, 115, 99, 114, 105, 112, 116, 58]⟩) := by simp [World.cell?, hc]
          have HC := Lib.hid hc
          clear hc
          by_cases hn : 11 ≤ X.size
          · have hn1 : 11 ≤ (X.size : Int) := by omega
            go_wp2_with fail
            go_quiet (fail)
            go_wp2_with fail
            · rename_i ht
              go_ret
              exact ⟨ret_bool (ref_no HL.out (pre_cmp hn rfl ht) (by decide)), belowN hB _⟩
            · rename_i ht
              exact ⟨⟨1, by omega, by go_num, belowN hB _, by simpa using hsz2, by simpa using HC.out, bad_next HNO.out rfl (pre_cmp hn rfl ht)⟩, by decide⟩
          · have hn1 : (X.size : Int) < 11 := by omega
            have hn2 : decide (11 ≤ (X.size : Int)) = false := by simp; omega
            go_wp2_with fail
            go_quiet (fail)
            go_wp2_with fail
            exact ⟨⟨1, by omega, by go_num, belowN hB _, by simpa using hsz2, by simpa using HC.out, bad_next HNO.out rfl (pre_short (n := 11) hn rfl)⟩, by decide⟩
        · have hck : wr.cell? ⟨wq.heap.size, 1, none⟩ = some (Value.string ⟨#[118, 98, 115, 99, 114, 105, 112, 116, 58]⟩) := by simp [World.cell?, hc]
          have HC := Lib.hid hc
          clear hc
          by_cases hn : 9 ≤ X.size
          · have hn1 : 9 ≤ (X.size : Int) := by omega
            go_wp2_with fail
            go_quiet (fail)
            go_wp2_with fail
            · rename_i ht
              go_ret
              exact ⟨ret_bool (ref_no HL.out (pre_cmp hn rfl ht) (by decide)), belowN hB _⟩
            · rename_i ht
              exact ⟨⟨2, by omega, by go_num, belowN hB _, by simpa using hsz2, by simpa using HC.out, bad_next HNO.out rfl (pre_cmp hn rfl ht)⟩, by decide⟩
          · have hn1 : (X.size : Int) < 9 := by omega
            have hn2 : decide (9 ≤ (X.size : Int)) = false := by simp; omega
            go_wp2_with fail
            go_quiet (fail)
            go_wp2_with fail
            exact ⟨⟨2, by omega, by go_num, belowN hB _, by simpa using hsz2, by simpa using HC.out, bad_next HNO.out rfl (pre_short (n := 9) hn rfl)⟩, by decide⟩
        · have hck : wr.cell? ⟨wq.heap.size, 2, none⟩ = some (Value.string ⟨#[102, 105, 108, 101, 58]⟩) := by simp [World.cell?, hc]
          have HC := Lib.hid hc
          clear hc
          by_cases hn : 5 ≤ X.size
          · have hn1 : 5 ≤ (X.size : Int) := by omega
            go_wp2_with fail
            go_quiet (fail)
            go_wp2_with fail
            · rename_i ht
              go_ret
              exact ⟨ret_bool (ref_no HL.out (pre_cmp hn rfl ht) (by decide)), belowN hB _⟩
            · rename_i ht
              exact ⟨⟨3, by omega, by go_num, belowN hB _, by simpa using hsz2, by simpa using HC.out, bad_next HNO.out rfl (pre_cmp hn rfl ht)⟩, by decide⟩
          · have hn1 : (X.size : Int) < 5 := by omega
            have hn2 : decide (5 ≤ (X.size : Int)) = false := by simp; omega
            go_wp2_with fail
            go_quiet (fail)
            go_wp2_with fail
            exact ⟨⟨3, by omega, by go_num, belowN hB _, by simpa using hsz2, by simpa using HC.out, bad_next HNO.out rfl (pre_short (n := 5) hn rfl)⟩, by decide⟩
        · have hck : wr.cell? ⟨wq.heap.size, 3, none⟩ = some (Value.string ⟨#[100, 97, 116, 97, 58]⟩) := by simp [World.cell?, hc]
          have HC := Lib.hid hc
          clear hc
          by_cases hn : 5 ≤ X.size
          · have hn1 : 5 ≤ (X.size : Int) := by omega
            go_wp2_with fail
            go_quiet (fail)
            go_wp2_with fail
            · rename_i ht
              go_ret
              exact ⟨ret_bool (ref_no HL.out (pre_cmp hn rfl ht) (by decide)), belowN hB _⟩
            · rename_i ht
              exact ⟨⟨4, by omega, by go_num, belowN hB _, by simpa using hsz2, by simpa using HC.out, bad_next HNO.out rfl (pre_cmp hn rfl ht)⟩, by decide⟩
          · have hn1 : (X.size : Int) < 5 := by omega
            have hn2 : decide (5 ≤ (X.size : Int)) = false := by simp; omega
            go_wp2_with fail
            go_quiet (fail)
            go_wp2_with fail
            exact ⟨⟨4, by omega, by go_num, belowN hB _, by simpa using hsz2, by simpa using HC.out, bad_next HNO.out rfl (pre_short (n := 5) hn rfl)⟩, by decide⟩
        · go_wp2_with fail
          go_ret
          exact ⟨ret_bool (ref_yes HL.out HNO.out), hB⟩
end Go.Proofs.Ytnpnfgjeggdanaa
