/- nearest, tight: the walks. -/
import Derived.Test.YtpabackkapgkpaaGreatDoorHLeave
namespace Go.Proofs.YtpabackkapgkpaaGreatDoor
open Go.RowKit Go.Lib

theorem stk_on {w w' : World} {base : Nat} {e : TypeId} {a : Option Addr} {n cap : Nat} {S : List (Blk × ByteArray)} (h : w.ownsRow base e 7 (.slice a n cap) n (stkCells S)) (hb : Below w.heap.size w w') : w'.ownsRow base e 7 (.slice a n cap) n (stkCells S) :=
  row_kept h (fun g hg => hb.block g (h.lt g hg).2)

theorem block6 {wr : World} {g : Nat} {v0 v1 v2 v3 v4 v5 : Value} {e : TypeId} (h : wr.heap[g]? = some (.cells #[v0, v1, v2, v3, v4, v5] e)) :
    wr.cell? ⟨g, 0, none⟩ = some v0 ∧ wr.cell? ⟨g, 1, none⟩ = some v1 ∧ wr.cell? ⟨g, 2, none⟩ = some v2 ∧ wr.cell? ⟨g, 3, none⟩ = some v3 ∧ wr.cell? ⟨g, 4, none⟩ = some v4 ∧ wr.cell? ⟨g, 5, none⟩ = some v5 ∧ wr.frozen? ⟨g, 0, none⟩ = false ∧ wr.frozen? ⟨g, 1, none⟩ = false ∧ wr.frozen? ⟨g, 2, none⟩ = false ∧ wr.frozen? ⟨g, 3, none⟩ = false ∧ wr.frozen? ⟨g, 4, none⟩ = false ∧ wr.frozen? ⟨g, 5, none⟩ = false ∧ g < wr.heap.size :=
  ⟨by simp [World.cell?, h], by simp [World.cell?, h], by simp [World.cell?, h], by simp [World.cell?, h], by simp [World.cell?, h], by simp [World.cell?, h], by simp [World.frozen?, h], by simp [World.frozen?, h], by simp [World.frozen?, h], by simp [World.frozen?, h], by simp [World.frozen?, h], by simp [World.frozen?, h], (Array.getElem?_eq_some_iff.1 h).1⟩

set_option maxHeartbeats 4000000 in
set_option maxRecDepth 100000 in
theorem nearest_any {base : Nat} {S : List (Blk × ByteArray)} {a : Option Addr} {cap : Nat} {w : World} (d : Int) (h : w.ownsRow base 92 7 (.slice a S.length cap) S.length (stkCells S)) (hS : S.length ≤ 1000) :
    Calls Tryz.prog 54 #[.slice a S.length cap, .int .i64 d] w fun e w' => e = .returned (.tuple #[(nearR d S).1.val, .bool (nearR d S).2]) ∧ Below w.heap.size w w' := by
  have H := Lib.hid h
  clear h
  have e0 : IntKind.i64.wrap ((S.length : Int) - 1) = (S.length : Int) - 1 := IntWalk.i64_in _ (by omega)
  go_enter Tryz.func54, Tryz.ntmps54
  go_wp2_with fail
  go_loopw [6] (fun vi wr => ∃ S2 : List (Blk × ByteArray), S2.length ≤ S.length ∧ vi = .int .i64 ((S2.length : Int) - 1) ∧ Hid (w.ownsRow base 92 7 (.slice a S2.length cap) S2.length (stkCells S2)) ∧ Hid (nearR d S2 = nearR d S) ∧ Below w.heap.size w wr ∧ wr.heap[w.heap.size]? = some (.cells #[.int .i64 0, .int .i64 0, .int .i64 0, .bool false, .string ⟨#[]⟩, .string ⟨#[]⟩] 50)) (fun vi _ => (RowKit.intOf vi + 1).toNat)
  case atStart => exact ⟨S, Nat.le_refl _, by simp, H, rfl, (Below.refl _ _).alloc (Nat.le_refl _) _, heap_alloc_new w _⟩
  case round =>
    obtain ⟨S2, hS2, rfl, HR, HE, hb, hcz⟩ := hrel
    obtain ⟨c0, c1, c2, c3, c4, c5, f0, f1, f2, f3, f4, f5, hz⟩ := block6 hcz
    have HCZ := Lib.hid hcz
    clear hcz
    cases S2 with
    | nil =>
      simp only [List.length_nil] at *
      have HZ := Lib.hid (show nearR d S = (zeroBlk, false) from HE.out.symm)
      go_wp2_with fail
      refine bodyPost_ret (v := .tuple #[.agg #[.int .i64 0, .int .i64 0, .int .i64 0, .bool false, .string ⟨#[]⟩, .string ⟨#[]⟩], .bool false]) (by simp [results, Tryz.results54, go_sem, c0, c1, c2, c3, c4, c5]) rfl ⟨?_, ?_⟩
      · rw [HZ.out]; rfl
      · refine Below.setCell (Below.setCell (Below.setCell (Below.setCell (Below.setCell (Below.setCell hb ?_ _) ?_ _) ?_ _) ?_ _) ?_ _) ?_ _ <;> exact Nat.le_refl _
    | cons p S3 =>
      have hrow := HR.out
      simp only [List.length_cons] at hrow hS2
      obtain ⟨g, rfl, hg, hc1, hc2, hrest, hcell⟩ := stk_top hrow
      have hold : ∀ j, wr.cell? ⟨g, j, none⟩ = w.cell? ⟨g, j, none⟩ := fun j => hb.cell (p := ⟨g, j, none⟩) hg
      have k0 := (hold _).trans (hcell 0 _ rfl)
      have k1 := (hold _).trans (hcell 1 _ rfl)
      have k2 := (hold _).trans (hcell 2 _ rfl)
      have k3 := (hold _).trans (hcell 3 _ rfl)
      have k4 := (hold _).trans (hcell 4 _ rfl)
      have k5 := (hold _).trans (hcell 5 _ rfl)
      rw [Nat.add_zero] at k0
      have HREST := Lib.hid hrest
      have hgz : ¬ g = w.heap.size := by omega
      have ei : ((S3.length + 1 : Nat) : Int) - 1 = (S3.length : Int) := by omega
      have e2 : IntKind.i64.wrap ((S3.length : Int) - 1) = (S3.length : Int) - 1 := IntWalk.i64_in _ (by omega)
      have hq0 : (0 : Int) ≤ (S3.length : Int) := by omega
      have hq1 : (S3.length : Int) < (S.length : Int) := by omega
      clear hrow hrest hcell hold
      rw [List.length_cons, ei]
      cases hd : (p.1.depth == d) with
      | true =>
        have HZ := Lib.hid (show nearR d S = (p.1, true) by rw [← HE.out]; unfold nearR; rw [if_pos (by simpa using hd)])
        go_wp2_with fail
        refine bodyPost_ret (v := .tuple #[p.1.val, .bool true]) (by simp [results, Tryz.results54, go_sem, c0, c1, c2, c3, c4, c5, Blk.val]) rfl ⟨?_, ?_⟩
        · rw [HZ.out]
        · refine Below.setCell (Below.setCell (Below.setCell (Below.setCell (Below.setCell (Below.setCell hb ?_ _) ?_ _) ?_ _) ?_ _) ?_ _) ?_ _ <;> exact Nat.le_refl _
      | false =>
        have HZ := Lib.hid (show nearR d S3 = nearR d S by rw [← HE.out]; conv => rhs; unfold nearR; rw [if_neg (by simpa using hd)])
        go_wp2_with fail
        go_roundw
        case rel => exact ⟨S3, by omega, by first | rfl | go_num | simp [e2], HREST, HZ, hb, HCZ.out⟩
        case measure => simp only [RowKit.intOf]; omega

set_option maxHeartbeats 4000000 in
set_option maxRecDepth 100000 in
theorem tight_any {base : Nat} {S : List (Blk × ByteArray)} {v : Value} {w : World} (d : Int) (hd : -4611686018427387904 ≤ d ∧ d ≤ 4611686018427387904) (h : w.ownsRow base 92 7 v S.length (stkCells S)) (hS : S.length ≤ 1000) :
    Calls Tryz.prog 38 #[v, .int .i64 d] w fun e w' => e = .returned (.bool (tightS S d)) ∧ Below w.heap.size w w' := by
  obtain ⟨a, cap, rfl⟩ := row_slice h
  have H := Lib.hid h
  clear h
  have e1 : IntKind.i64.wrap (d - 1) = d - 1 := IntWalk.i64_in _ (by omega)
  have e2 : IntKind.i64.wrap (d - 2) = d - 2 := IntWalk.i64_in _ (by omega)
  have cN := fun (x : Int) (w' : World) (hb : Below w.heap.size w w') => nearest_any (w := w') x (stk_on H.out hb) hS
  have HT := Lib.hid (show tightS S d = _ from rfl)
  generalize ht : tightS S d = t at *
  unfold tightS at ht
  obtain ⟨r1, hr1⟩ : ∃ r, nearR (d - 1) S = r := ⟨_, rfl⟩
  obtain ⟨r2, hr2⟩ : ∃ r, nearR (d - 2) S = r := ⟨_, rfl⟩
  have c1 := cN (d - 1) w (Below.refl _ _)
  have c2 := fun w' hb => cN (d - 2) w' hb
  rw [hr1] at ht c1
  rw [hr2] at ht
  simp only [hr2] at c2
  obtain ⟨⟨kd1, dp1, n1, t1, x1, i1⟩, b1⟩ := r1
  obtain ⟨⟨kd2, dp2, n2, t2, x2, i2⟩, b2⟩ := r2
  simp only [Blk.val] at ht c1 c2
  clear HT cN hr1 hr2
  rw [show decide (kd1 = 5) = (kd1 == 5) from rfl, show decide (kd2 = 4) = (kd2 == 4) from rfl] at ht
  cases hk1 : (kd1 == 5) <;> cases hk2 : (kd2 == 4) <;> cases b1 <;> cases b2
  all_goals
    rw [hk1, hk2] at ht
    simp only [Bool.true_and, Bool.false_and, Bool.and_false] at ht
    replace ht := Lib.hid ht
    go_enter Tryz.func38, Tryz.ntmps38
    go_wp2_with fail
    refine c1.mono ?_
    rintro e w2 ⟨rfl, hb2⟩
    have hs2 := hb2.size
    have hb3 := hb2.alloc hs2 (.cells #[.int .i64 kd1, .int .i64 dp1, .int .i64 n1, .bool t1, .string x1, .string i1] 50)
    have hk := heap_alloc_new w2 (.cells #[.int .i64 kd1, .int .i64 dp1, .int .i64 n1, .bool t1, .string x1, .string i1] 50)
    have hkl : w2.heap.size < (w2.alloc (.cells #[.int .i64 kd1, .int .i64 dp1, .int .i64 n1, .bool t1, .string x1, .string i1] 50)).heap.size := by simp
    go_wp2_with fail
    refine (c2 _ hb3).mono ?_
    rintro e w4 ⟨rfl, hb4⟩
    have hk4 := (hb4.block w2.heap.size hkl).trans hk
    have hb5 := (hb3.trans (hb4.mono hb3.size)).alloc (Nat.le_trans hb3.size hb4.size) (.cells #[.int .i64 kd2, .int .i64 dp2, .int .i64 n2, .bool t2, .string x2, .string i2] 50)
    obtain ⟨p0, -, -, -, -, -, -, -, -, -, -, -, hl4⟩ := block6 hk4
    have HB5 := Lib.hid hb5
    clear hb2 hb3 hk hkl hb4 hk4 hb5
    go_wp2_with fail
    go_ret
    exact ⟨by rw [← ht.out]; first | done | rfl, HB5.out⟩
end Go.Proofs.YtpabackkapgkpaaGreatDoor
