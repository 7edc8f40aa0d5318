/- strings.IndexRune on the digits, at a rune that is no ASCII: -1. -/
import Derived.Test.YtnehpclbflnpaaaDoorEntPlain
import Derived.Test.YtnehpclbflnpaaaDoorIter
import Derived.Test.YtnehpclbflnpaaaDoorShelf
import Derived.WalkKit
import Derived.WalkSpells
import Derived.WalkLawsBesides
import Derived.BigCall
import Derived.Deep.QuietTactic
import Derived.BigQuiet
import Derived.Outline
import Derived.WalkMore
import Derived.WalkSmall
import Derived.Lib.OthersKept
import Derived.Deep.DeepMust
namespace Go.Proofs.YtnehpclbflnpaaaDoor
open Go.RowKit Go.Lib

theorem quiet_add_same {P : Program} {f : FuncId} {args : Array Value} {w : World} {a n : Nat} {v : Value}
    (h : Calls P f args (w.drewN (a + n)) fun e w' => e = .returned v ∧ w' = w.drewN (a + n)) :
    Calls P f args (w.drewN (a + n)) fun e w'' => e = .returned v ∧ ∃ m, w'' = w.drewN (a + m) :=
  h.mono fun _ _ ⟨he, hm⟩ => ⟨he, n, hm⟩
def hexLit : ByteArray := ⟨#[48, 49, 50, 51, 52, 53, 54, 55, 56, 57, 97, 98, 99, 100, 101, 102]⟩

theorem ret_bool_iff {a b : Bool} (h : a = true ↔ b = true) : Ending.returned (.bool a) = .returned (.bool b) := by rw [Bool.eq_iff_iff.2 h]
theorem valid_iff (r : Int) : Utf8.valid r = true ↔ ((0 ≤ r ∧ r < 55296) ∨ (57344 ≤ r ∧ r ≤ 1114111)) := by
  unfold Utf8.valid
  simp only [Bool.or_eq_true, Bool.and_eq_true, decide_eq_true_eq]
set_option maxHeartbeats 400000 in
theorem validRune_any (r : Int) (w : World) :
    Calls Tryd.prog 61 #[.int .i32 r] w fun e w' => e = .returned (.bool (Utf8.valid r)) ∧ w' = w := by
  have HV := Lib.hid (valid_iff r)
  go_enter Tryd.func61, Tryd.ntmps61
  go_wp2_with fail
  all_goals go_ret
  all_goals refine ⟨ret_bool_iff ?_, rfl⟩
  all_goals rw [HV.out]
  all_goals (try simp)
  all_goals omega

set_option maxRecDepth 100000 in
set_option maxHeartbeats 1000000 in
theorem indexRune_bad (x : Int) (h0 : 128 ≤ x) (hv : Utf8.valid x = false) (w : World) (hx : (x == 65533) = false) :
    Calls Tryd.prog 60 #[.string ⟨#[48, 49, 50, 51, 52, 53, 54, 55, 56, 57, 97, 98, 99, 100, 101, 102]⟩, .int .i32 x] w fun e w' => e = .returned (.int .i64 (-1)) ∧ Below w.heap.size w w' := by
  have h1 : decide (x < 128) = false := by simp; omega
  go_enter Tryd.func60, Tryd.ntmps60
  go_wp2_with fail
  refine (validRune_any x _).mono ?_
  rintro e w1 ⟨rfl, hw⟩
  subst w1
  go_wp2_with fail
  go_ret
  exact ⟨rfl, Below.refl _ _⟩

theorem index_none (l : List UInt8) (c : UInt8) (h : c ∉ l) : Lib.indexByte l c = -1 := by
  induction l with
  | nil => rfl
  | cons b l ih =>
      have h1 : b ≠ c := fun e => h (by rw [e]; exact List.mem_cons_self)
      have h2 := ih (fun m => h (List.mem_cons_of_mem _ m))
      unfold Lib.indexByte
      rw [if_neg (by simpa using h1), h2]
      rfl
theorem hex_high (k : Nat) (c : UInt8) (h : 128 ≤ c.toNat) : c ∉ ((⟨#[48, 49, 50, 51, 52, 53, 54, 55, 56, 57, 97, 98, 99, 100, 101, 102]⟩ : ByteArray).extract k 16).data.toList := by
  intro hm
  have h1 : c ∈ (⟨#[48, 49, 50, 51, 52, 53, 54, 55, 56, 57, 97, 98, 99, 100, 101, 102]⟩ : ByteArray).data.toList := by
    simp only [ByteArray.data_extract, Array.toList_extract, List.extract_eq_take_drop] at hm
    exact List.mem_of_mem_drop (List.mem_of_mem_take hm)
  have key : ∀ x ∈ [48, 49, 50, 51, 52, 53, 54, 55, 56, 57, 97, 98, 99, 100, 101, (102 : UInt8)], x.toNat < 128 := by decide
  have := key c h1
  omega

set_option maxRecDepth 100000 in
set_option maxHeartbeats 1000000 in
theorem indexRune_high (x : Int) (h0 : 128 ≤ x) (hv : Utf8.valid x = true) (w : World) (hx : (x == 65533) = false) :
    Calls Tryd.prog 60 #[.string ⟨#[48, 49, 50, 51, 52, 53, 54, 55, 56, 57, 97, 98, 99, 100, 101, 102]⟩, .int .i32 x] w fun e w' => e = .returned (.int .i64 (-1)) ∧ Below w.heap.size w w' := by
  have h1 : decide (x < 128) = false := by simp; omega
  obtain ⟨e1, e2, e3⟩ := encode_facts x hv h0
  go_enter Tryd.func60, Tryd.ntmps60
  go_wp2_with fail
  refine (validRune_any x _).mono ?_
  rintro e w1 ⟨rfl, hw⟩
  subst w1
  obtain ⟨n, hn⟩ : ∃ n, (Utf8.encode x).size = n := ⟨_, rfl⟩
  have hnr : n = 2 ∨ n = 3 ∨ n = 4 := by omega
  rcases hnr with rfl | rfl | rfl
  · have h1lt : 1 < (Utf8.encode x).size := by rw [hn]; decide
    have hb : 128 ≤ ((Utf8.encode x)[1]'h1lt).toNat := by
      have h9 := e3 (by rw [hn]; decide)
      simpa only [hn] using h9
    have hne : ((((⟨#[48, 49, 50, 51, 52, 53, 54, 55, 56, 57, 97, 98, 99, 100, 101, 102]⟩ : ByteArray)[1]'(by decide)).toNat : Int) != (((Utf8.encode x)[1]'h1lt).toNat : Int)) = true := by
      have h9 : ((⟨#[48, 49, 50, 51, 52, 53, 54, 55, 56, 57, 97, 98, 99, 100, 101, 102]⟩ : ByteArray)[1]'(by decide)).toNat = 49 := by decide
      rw [h9, bne_iff_ne]; omega
    have hix : ∀ w : World, Calls Tryd.prog 80 #[.string ((⟨#[48, 49, 50, 51, 52, 53, 54, 55, 56, 57, 97, 98, 99, 100, 101, 102]⟩ : ByteArray).extract 2 16), .int .u8 ((Utf8.encode x)[1]'h1lt).toNat] w fun e w' => e = .returned (.int .i64 (-1)) ∧ w' = w := fun w =>
      (Tryd.strings_IndexByte _ _ w).mono fun e w' ⟨he, hw⟩ => ⟨by
        rw [he, index_none _ _ (hex_high 2 _ (by simpa using hb))], hw⟩
    clear e1 e2 e3
    go_wp2_with fail
    go_step3
    go_wp2_with fail
    refine wp_loop_rounds 1 ?_
    rw [rounds_succ]
    go_wp2_with fail
    go_step3
    go_wp2_with fail
    go_quiet (fail)
    go_wp2_with fail
    go_quiet ((go_at_call 80; first | exact quiet_add_same (hix _) | exact Calls.quiet_of_same (hix _)))
    go_wp2_with fail
    rw [Exit.noGoto_ret]
    go_simp
    go_ret
    exact ⟨rfl, rfl, rfl, rfl, Nat.le_refl _, fun _ _ => rfl⟩
  · have h1lt : 2 < (Utf8.encode x).size := by rw [hn]; decide
    have hb : 128 ≤ ((Utf8.encode x)[2]'h1lt).toNat := by
      have h9 := e3 (by rw [hn]; decide)
      simpa only [hn] using h9
    have hne : ((((⟨#[48, 49, 50, 51, 52, 53, 54, 55, 56, 57, 97, 98, 99, 100, 101, 102]⟩ : ByteArray)[2]'(by decide)).toNat : Int) != (((Utf8.encode x)[2]'h1lt).toNat : Int)) = true := by
      have h9 : ((⟨#[48, 49, 50, 51, 52, 53, 54, 55, 56, 57, 97, 98, 99, 100, 101, 102]⟩ : ByteArray)[2]'(by decide)).toNat = 50 := by decide
      rw [h9, bne_iff_ne]; omega
    have hix : ∀ w : World, Calls Tryd.prog 80 #[.string ((⟨#[48, 49, 50, 51, 52, 53, 54, 55, 56, 57, 97, 98, 99, 100, 101, 102]⟩ : ByteArray).extract 3 16), .int .u8 ((Utf8.encode x)[2]'h1lt).toNat] w fun e w' => e = .returned (.int .i64 (-1)) ∧ w' = w := fun w =>
      (Tryd.strings_IndexByte _ _ w).mono fun e w' ⟨he, hw⟩ => ⟨by
        rw [he, index_none _ _ (hex_high 3 _ (by simpa using hb))], hw⟩
    clear e1 e2 e3
    go_wp2_with fail
    go_step3
    go_wp2_with fail
    refine wp_loop_rounds 1 ?_
    rw [rounds_succ]
    go_wp2_with fail
    go_step3
    go_wp2_with fail
    go_quiet (fail)
    go_wp2_with fail
    go_quiet ((go_at_call 80; first | exact quiet_add_same (hix _) | exact Calls.quiet_of_same (hix _)))
    go_wp2_with fail
    rw [Exit.noGoto_ret]
    go_simp
    go_ret
    exact ⟨rfl, rfl, rfl, rfl, Nat.le_refl _, fun _ _ => rfl⟩
  · have h1lt : 3 < (Utf8.encode x).size := by rw [hn]; decide
    have hb : 128 ≤ ((Utf8.encode x)[3]'h1lt).toNat := by
      have h9 := e3 (by rw [hn]; decide)
      simpa only [hn] using h9
    have hne : ((((⟨#[48, 49, 50, 51, 52, 53, 54, 55, 56, 57, 97, 98, 99, 100, 101, 102]⟩ : ByteArray)[3]'(by decide)).toNat : Int) != (((Utf8.encode x)[3]'h1lt).toNat : Int)) = true := by
      have h9 : ((⟨#[48, 49, 50, 51, 52, 53, 54, 55, 56, 57, 97, 98, 99, 100, 101, 102]⟩ : ByteArray)[3]'(by decide)).toNat = 51 := by decide
      rw [h9, bne_iff_ne]; omega
    have hix : ∀ w : World, Calls Tryd.prog 80 #[.string ((⟨#[48, 49, 50, 51, 52, 53, 54, 55, 56, 57, 97, 98, 99, 100, 101, 102]⟩ : ByteArray).extract 4 16), .int .u8 ((Utf8.encode x)[3]'h1lt).toNat] w fun e w' => e = .returned (.int .i64 (-1)) ∧ w' = w := fun w =>
      (Tryd.strings_IndexByte _ _ w).mono fun e w' ⟨he, hw⟩ => ⟨by
        rw [he, index_none _ _ (hex_high 4 _ (by simpa using hb))], hw⟩
    clear e1 e2 e3
    go_wp2_with fail
    go_step3
    go_wp2_with fail
    refine wp_loop_rounds 1 ?_
    rw [rounds_succ]
    go_wp2_with fail
    go_step3
    go_wp2_with fail
    go_quiet (fail)
    go_wp2_with fail
    go_quiet ((go_at_call 80; first | exact quiet_add_same (hix _) | exact Calls.quiet_of_same (hix _)))
    go_wp2_with fail
    rw [Exit.noGoto_ret]
    go_simp
    go_ret
    exact ⟨rfl, rfl, rfl, rfl, Nat.le_refl _, fun _ _ => rfl⟩
set_option maxRecDepth 100000 in
theorem hex_ascii : ∀ pos, pos < 16 → (decodeL ((⟨#[48, 49, 50, 51, 52, 53, 54, 55, 56, 57, 97, 98, 99, 100, 101, 102]⟩ : ByteArray).data.toList.drop pos)).1 < 128 := by decide

set_option maxRecDepth 100000 in
set_option maxHeartbeats 1000000 in
theorem indexRune_err (w : World) :
    Calls Tryd.prog 60 #[.string ⟨#[48, 49, 50, 51, 52, 53, 54, 55, 56, 57, 97, 98, 99, 100, 101, 102]⟩, .int .i32 65533] w fun e w' => e = .returned (.int .i64 (-1)) ∧ Below w.heap.size w w' := by
  go_enter Tryd.func60, Tryd.ntmps60
  go_wp2_with fail
  go_loopw [4] (fun _ wr => ∃ pos : Nat, wr.heap[w.heap.size]? = some (.stringIter ⟨#[48, 49, 50, 51, 52, 53, 54, 55, 56, 57, 97, 98, 99, 100, 101, 102]⟩ pos) ∧ Below w.heap.size w wr ∧ pos ≤ 16) (fun _ wr => 16 - wr.iterPos w.heap.size)
  case atStart => 
    refine ⟨0, ?_, (Below.refl _ _).alloc (Nat.le_refl _) _, Nat.zero_le _⟩
    exact World.iter_heap w _ 0
  case round =>
    obtain ⟨pos, hit, hbw, hps⟩ := hrel
    by_cases hp : pos < 16
    · obtain ⟨r, n, hn1, hpn, hrl, hnx, HI, hbw2, hsz2, HP1, HP2, HD, HNE, HG, HT, HTK⟩ := iter_step hit hp hbw (by omega)
      have hr : decide ((r : Int) = 65533) = false := by
        have h9 := hex_ascii pos hp
        rw [HD.out] at h9
        simp only [decide_eq_false_iff_not]
        have : r < 128 := h9
        omega
      have hr2 : ((r : Int) == 65533) = false := by
        have h9 := hex_ascii pos hp
        rw [HD.out] at h9
        have : r < 128 := h9
        rw [beq_eq_false_iff_ne]; omega
      go_wp2_with fail
      go_roundw
      case rel => exact ⟨pos + n, HI.out, hbw2, hpn⟩
      case measure => rw [HP1.out, HP2.out]; have := hpn; omega
    · have hit2 := iter_end hit hp
      go_wp2_with fail
      go_ret
      exact ⟨rfl, hbw⟩
end Go.Proofs.YtnehpclbflnpaaaDoor
