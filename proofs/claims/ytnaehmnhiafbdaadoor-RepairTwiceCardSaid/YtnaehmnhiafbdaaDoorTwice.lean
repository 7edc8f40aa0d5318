/- RepairTwice: the walk. -/
import Derived.Test.YtnaehmnhiafbdaaDoorPlainFolds
namespace Go.Proofs.YtnaehmnhiafbdaaDoor
open Go.RowKit Go.Lib

theorem ba_at {s : ByteArray} {k : Nat} (h : k < s.size) : s[k] ∈ s.data.toList := by
  have : s.data.toList[k]'(by rw [← ba_size]; exact h) = s[k] := by simp [ByteArray.getElem_eq_getElem_data]
  rw [← this]; exact List.getElem_mem _

set_option maxHeartbeats 2000000 in
theorem repairTwice_walk (b s t : ByteArray) (W : World) (hT : Tabs W) (_hb : b.size ≤ 9223372036854775807) (_hs : s.size ≤ 9223372036854775807) (_ht : t.size ≤ 9223372036854775807) :
    Calls Tryd.prog 4 #[.string b, .string s, .string t] W fun e w' => e = .returned (.bool true) ∧ Below W.heap.size W w' := by
  have h0 := Below.refl W.heap.size W
  by_cases hcc : b.size ≤ 400 ∧ s.size ≤ 100 ∧ t.size ≤ 100
  · obtain ⟨hb2, hs2, ht2⟩ := hcc
    have hi1 : (b.size : Int) ≤ 400 := by omega
    have hi2 : (s.size : Int) ≤ 100 := by omega
    have hi3 : (t.size : Int) ≤ 100 := by omega
    obtain ⟨E, hE⟩ : ∃ E : ByteArray, E.data.toList = textF b.data.toList := ⟨⟨(textF b.data.toList).toArray⟩, ba_mk _⟩
    obtain ⟨F, hF⟩ : ∃ F : ByteArray, F.data.toList = foldF s.data.toList := ⟨⟨(foldF s.data.toList).toArray⟩, ba_mk _⟩
    obtain ⟨G, hG⟩ : ∃ G : ByteArray, G.data.toList = foldF (s.data.toList ++ [32] ++ t.data.toList) := ⟨⟨(foldF (s.data.toList ++ [32] ++ t.data.toList)).toArray⟩, ba_mk _⟩
    have hES : E.size ≤ 1200 := by have := textF_le b.data.toList; rw [← hE, ← ba_size, ← ba_size] at this; omega
    have hFS : F.size ≤ 300 := by have := foldF_le s.data.toList; rw [← hF, ← ba_size, ← ba_size] at this; omega
    have hEb : ∀ c ∈ E.data.toList, c.toNat ≠ 0 ∧ c.toNat ≠ 13 := by rw [hE]; exact textF_bytes _
    have z1 : ((⟨#[32, 9]⟩ : ByteArray) ++ s ++ ⟨#[10, 32]⟩).data.toList = [32, 9] ++ s.data.toList ++ [10, 32] := by rw [ba_append, ba_append]
    have z2 : (s ++ (⟨#[32]⟩ : ByteArray) ++ t).data.toList = s.data.toList ++ [32] ++ t.data.toList := by rw [ba_append, ba_append]
    have z3 : (s ++ (⟨#[32, 10, 9, 32]⟩ : ByteArray) ++ t).data.toList = s.data.toList ++ [32, 10, 9, 32] ++ t.data.toList := by rw [ba_append, ba_append]
    have y1 : ((⟨#[32, 9]⟩ : ByteArray) ++ s ++ ⟨#[10, 32]⟩).size ≤ 1000000 := by rw [ba_size, z1]; simp; omega
    have y2 : (s ++ (⟨#[32]⟩ : ByteArray) ++ t).size ≤ 1000000 := by rw [ba_size, z2]; simp; omega
    have y3 : (s ++ (⟨#[32, 10, 9, 32]⟩ : ByteArray) ++ t).size ≤ 1000000 := by rw [ba_size, z3]; simp; omega
    have c1 : ∀ {w : World}, Below W.heap.size W w → Calls Tryd.prog 10 #[.string b] w fun e w' => e = .returned (.string E) ∧ Below W.heap.size W w' := fun h => Text_as hE (by omega) h
    have c2 : ∀ {w : World}, Below W.heap.size W w → Calls Tryd.prog 18 #[.string s] w fun e w' => e = .returned (.string F) ∧ Below W.heap.size W w' := fun h => Fold_as hF hT (by omega) h
    have c3 : ∀ {w : World}, Below W.heap.size W w → Calls Tryd.prog 10 #[.string E] w fun e w' => e = .returned (.string E) ∧ Below W.heap.size W w' := fun h => Text_as (by rw [hE, textF_twice]) (by omega) h
    have c4 : ∀ {w : World}, Below W.heap.size W w → Calls Tryd.prog 18 #[.string F] w fun e w' => e = .returned (.string F) ∧ Below W.heap.size W w' := fun h => Fold_as (by rw [hF, foldF_twice]) hT (by omega) h
    have c5 : ∀ {w : World}, Below W.heap.size W w → Calls Tryd.prog 18 #[.string (⟨#[32, 9]⟩ ++ s ++ ⟨#[10, 32]⟩)] w fun e w' => e = .returned (.string F) ∧ Below W.heap.size W w' := fun h => Fold_as (by rw [hF, z1, foldF_around]) hT y1 h
    have c6 : ∀ {w : World}, Below W.heap.size W w → Calls Tryd.prog 18 #[.string (s ++ ⟨#[32]⟩ ++ t)] w fun e w' => e = .returned (.string G) ∧ Below W.heap.size W w' := fun h => Fold_as (by rw [hG, z2]) hT y2 h
    have c7 : ∀ {w : World}, Below W.heap.size W w → Calls Tryd.prog 18 #[.string (s ++ ⟨#[32, 10, 9, 32]⟩ ++ t)] w fun e w' => e = .returned (.string G) ∧ Below W.heap.size W w' := fun h => Fold_as (by rw [hG, z3, foldF_mid]) hT y3 h
    clear hE hF hG z1 z2 z3 y1 y2 y3
    have HEb := Lib.hid hEb
    clear hEb
    go_enter Tryd.func4, Tryd.ntmps4
    go_wp2_with fail
    refine (alive_from (by assumption) hT).mono ?_
    rintro e w1 ⟨rfl, hb1⟩
    go_wp2_with fail
    refine (c1 (by assumption)).mono ?_
    rintro e w2 ⟨rfl, hb2⟩
    go_wp2_with fail
    refine (c2 (by assumption)).mono ?_
    rintro e w3 ⟨rfl, hb3⟩
    go_wp2_with fail
    go_loopw [9] (fun vi wr => ∃ k : Nat, k ≤ E.size ∧ vi = .int .i64 k ∧ Below W.heap.size W wr) (fun vi _ => E.size - (RowKit.intOf vi).toNat)
    case atStart => exact ⟨0, Nat.zero_le _, rfl, by assumption⟩
    case round =>
      obtain ⟨k, hk, rfl, hB⟩ := hrel
      by_cases hlt : k < E.size
      · have hq := HEb.out E[k] (ba_at hlt)
        have n1 : ((E[k].toNat : Int) == 0) = false := by simp; omega
        have n2 : ((E[k].toNat : Int) == 13) = false := by simp; omega
        clear hq
        go_wp2_with fail
        go_roundw
        case rel => exact ⟨k + 1, by omega, by go_num, hB⟩
        case measure => simp [RowKit.intOf]; omega
      · go_wp2_with fail
        refine (c3 (by assumption)).mono ?_
        rintro e w4 ⟨rfl, hb4⟩
        go_wp2_with fail
        refine (c4 (by assumption)).mono ?_
        rintro e w5 ⟨rfl, hb5⟩
        go_wp2_with fail
        refine (c5 (by assumption)).mono ?_
        rintro e w6 ⟨rfl, hb6⟩
        go_wp2_with fail
        refine (c6 (by assumption)).mono ?_
        rintro e w7 ⟨rfl, hb7⟩
        go_wp2_with fail
        refine (c7 (by assumption)).mono ?_
        rintro e w8 ⟨rfl, hb8⟩
        go_wp2_with fail
        go_ret
        exact ⟨ret_bool (by first | rfl | simp), by assumption⟩
  · have hi : 400 < (b.size : Int) ∨ ((b.size : Int) ≤ 400 ∧ 100 < (s.size : Int)) ∨ ((b.size : Int) ≤ 400 ∧ (s.size : Int) ≤ 100 ∧ 100 < (t.size : Int)) := by omega
    rcases hi with hi | ⟨hi, hj⟩ | ⟨hi, hj, hk⟩
    all_goals
      go_enter Tryd.func4, Tryd.ntmps4
      go_wp2_with fail
      refine (alive_from (by assumption) hT).mono ?_
      rintro e w1 ⟨rfl, hb1⟩
      go_wp2_with fail
      go_ret
      exact ⟨rfl, by assumption⟩
end Go.Proofs.YtnaehmnhiafbdaaDoor
