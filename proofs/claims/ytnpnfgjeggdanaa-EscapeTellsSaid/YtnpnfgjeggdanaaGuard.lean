/- EscapeSafe: the plain law and the walk. -/
import Derived.Test.YtnpnfgjeggdanaaNone
import Derived.Lib.TrimAscii
namespace Go.Proofs.Ytnpnfgjeggdanaa
open Go.RowKit Go.Lib

def lowB (b : UInt8) : UInt8 := if 65 ≤ b.toNat ∧ b.toNat ≤ 90 then b + 32 else b
theorem lowR_fin : ∀ n : Fin 127, 33 ≤ n.val → lowR n.val = [lowB (UInt8.ofNat n.val)] := by decide +kernel
theorem lowL_ascii (b : UInt8) (t : List UInt8) (h : b.toNat < 128) : lowL (b :: t) = lowR b.toNat ++ lowL t := by
  rw [lowL_step _ (by simp), decodeL_ascii b t h]; rfl
theorem lowL_fine (l : List UInt8) (h : ∀ b ∈ l, 33 ≤ b.toNat ∧ b.toNat ≤ 126) : lowL l = l.map lowB := by
  induction l with
  | nil => rfl
  | cons b t ih =>
    have hb := h b (List.mem_cons_self ..)
    rw [lowL_ascii b t (by omega), ih (fun c hc => h c (List.mem_cons_of_mem _ hc))]
    have := lowR_fin ⟨b.toNat, by omega⟩ hb.1
    simp only [UInt8.ofNat_toNat] at this
    rw [this]; rfl
/-- the signs of the prefixes that are refused -/
def plainC (c : UInt8) : Bool := (97 ≤ c.toNat && c.toNat ≤ 122) || c.toNat == 58
def firstOk (b : UInt8) : Bool :=
  match (escL (encByte b)).map lowB with
  | [] => false
  | y :: ys => !plainC y || (decide (33 ≤ b.toNat) && decide (b.toNat ≤ 126) && ys.isEmpty && y == lowB b)
theorem first_fin : ∀ n : Fin 256, firstOk (UInt8.ofNat n.val) = true := by decide +kernel
theorem first_ok (b : UInt8) : firstOk b = true := by
  have := first_fin ⟨b.toNat, b.toNat_lt⟩
  simpa using this
theorem bads_plain : ∀ p ∈ bads, ∀ c ∈ p, plainC c = true := by decide +kernel

theorem pre_back (p : List UInt8) (hp : ∀ c ∈ p, plainC c = true) : ∀ s : List UInt8, hasPrefix ((escL (encL s)).map lowB) p = true → hasPrefix (lowL s) p = true := by
  induction p with
  | nil => intro s _; rfl
  | cons c q ih =>
    intro s h
    cases s with
    | nil => exact absurd h (by simp [hasPrefix, encL, escL])
    | cons b t =>
      have e : escL (encL (b :: t)) = escL (encByte b) ++ escL (encL t) := by
        show escL (encByte b ++ encL t) = _
        rw [escL_append]
      rw [e, List.map_append] at h
      have F := first_ok b
      unfold firstOk at F
      cases hx : (escL (encByte b)).map lowB with
      | nil => rw [hx] at F; cases F
      | cons y ys =>
        rw [hx] at F h
        simp only [hasPrefix, List.cons_append, List.isPrefixOf_cons_cons, Bool.and_eq_true, beq_iff_eq] at h
        obtain ⟨rfl, h2⟩ := h
        have hc := hp c (List.mem_cons_self ..)
        simp only [hc, Bool.not_true, Bool.false_or, Bool.and_eq_true, decide_eq_true_eq, List.isEmpty_iff, beq_iff_eq] at F
        obtain ⟨⟨⟨f1, f2⟩, f3⟩, f4⟩ := F
        rw [f3, List.nil_append] at h2
        rw [lowL_ascii b t (by omega)]
        have hl := lowR_fin ⟨b.toNat, by omega⟩ f1
        simp only [UInt8.ofNat_toNat] at hl
        rw [hl, ← f4]
        have := ih (fun c hc => hp c (List.mem_cons_of_mem _ hc)) t h2
        simpa [hasPrefix] using this

theorem safe_esc (s : List UInt8) (h : safeB s = true) : safeB (escL (encL s)) = true := by
  cases hb : safeB (escL (encL s)) with
  | true => rfl
  | false =>
    exfalso
    unfold safeB badL at hb
    rw [Bool.not_eq_false'] at hb
    obtain ⟨p, hp, hpp⟩ := List.any_eq_true.1 hb
    rw [lowL_fine _ (fun b hb => by have := esc_fine _ (enc_bytes s) b hb; unfold fine at this; omega)] at hpp
    have h2 := pre_back p (bads_plain p hp) s hpp
    have h3 : badL (lowL s) = true := List.any_eq_true.2 ⟨p, hp, h2⟩
    unfold safeB at h; rw [h3] at h; cases h

theorem Safe_as {w0 w : World} {X : ByteArray} {v : Bool} (hY : safeB X.data.toList = v) (hs : X.size ≤ 1000000) (h : Below w0.heap.size w0 w) :
    Calls Try.prog 13 #[.string X] w fun e w' => e = .returned (.bool v) ∧ Below w0.heap.size w0 w' :=
  (safe_from X h hs).mono fun e w' ⟨he, hb⟩ => ⟨by rw [he, hY], hb⟩

set_option maxHeartbeats 1000000 in
theorem guard_from {w0 w : World} (s : ByteArray) (h : Below w0.heap.size w0 w) (hs : s.size ≤ 9223372036854775807) :
    Calls Try.prog 5 #[.string s] w fun e w' => e = .returned (.bool true) ∧ Below w0.heap.size w0 w' := by
  by_cases hc : s.size ≤ 200
  · have hi : (s.size : Int) ≤ 200 := by omega
    cases hb : safeB s.data.toList with
    | false =>
      have c1 : ∀ {w : World}, Below w0.heap.size w0 w → Calls Try.prog 9 #[.string s] w fun e w' => e = .returned (.string ⟨#[35]⟩) ∧ Below w0.heap.size w0 w' := fun {w} h => Href_lit (by unfold hrefL; rw [hb]; rfl) (by omega) h
      have c2 : ∀ {w : World}, Below w0.heap.size w0 w → Calls Try.prog 13 #[.string s] w fun e w' => e = .returned (.bool false) ∧ Below w0.heap.size w0 w' := fun {w} h => Safe_as hb (by omega) h
      clear hb
      go_enter Try.func5, Try.ntmps5
      go_wp2_with fail
      refine (alive_from (w0 := w0) (by assumption)).mono ?_
      rintro e w1 ⟨rfl, hb1⟩
      go_wp2_with fail
      refine (c1 (by assumption)).mono ?_
      rintro e w2 ⟨rfl, hb2⟩
      go_wp2_with fail
      refine (c2 (by assumption)).mono ?_
      rintro e w3 ⟨rfl, hb3⟩
      go_wp2_with fail
      go_ret
      exact ⟨by first | rfl | exact ret_bool (by first | rfl | simp), by assumption⟩
    | true =>
      obtain ⟨H, hH⟩ : ∃ H : ByteArray, H.data.toList = hrefL s.data.toList := ⟨⟨(hrefL s.data.toList).toArray⟩, ba_mk _⟩
      have hHS : H.size ≤ 4000 := by have := href_length s.data.toList; rw [← hH, ← ba_size, ← ba_size] at this; omega
      have hHs : safeB H.data.toList = true := by rw [hH]; unfold hrefL; rw [if_pos hb]; exact safe_esc _ hb
      have c1 : ∀ {w : World}, Below w0.heap.size w0 w → Calls Try.prog 9 #[.string s] w fun e w' => e = .returned (.string H) ∧ Below w0.heap.size w0 w' := fun {w} h => Href_as hH (by omega) h
      have c2 : ∀ {w : World}, Below w0.heap.size w0 w → Calls Try.prog 13 #[.string s] w fun e w' => e = .returned (.bool true) ∧ Below w0.heap.size w0 w' := fun {w} h => Safe_as hb (by omega) h
      have c3 : ∀ {w : World}, Below w0.heap.size w0 w → Calls Try.prog 13 #[.string H] w fun e w' => e = .returned (.bool true) ∧ Below w0.heap.size w0 w' := fun {w} h => Safe_as hHs (by omega) h
      clear hb hH hHs
      go_enter Try.func5, Try.ntmps5
      go_wp2_with fail
      refine (alive_from (w0 := w0) (by assumption)).mono ?_
      rintro e w1 ⟨rfl, hb1⟩
      go_wp2_with fail
      refine (c1 (by assumption)).mono ?_
      rintro e w2 ⟨rfl, hb2⟩
      go_wp2_with fail
      refine (c2 (by assumption)).mono ?_
      rintro e w3 ⟨rfl, hb3⟩
      go_wp2_with fail
      refine (c3 (by assumption)).mono ?_
      rintro e w4 ⟨rfl, hb4⟩
      go_wp2_with fail
      go_ret
      exact ⟨by first | rfl | exact ret_bool (by first | rfl | simp), by assumption⟩
  · have hi : 200 < (s.size : Int) := by omega
    go_enter Try.func5, Try.ntmps5
    go_wp2_with fail
    refine (alive_from (w0 := w0) (by assumption)).mono ?_
    rintro e w1 ⟨rfl, hb1⟩
    go_wp2_with fail
    go_ret
    exact ⟨rfl, by assumption⟩
theorem escapeSafe_walk (s : ByteArray) (W : World) (hs : s.size ≤ 9223372036854775807) :
    Calls Try.prog 5 #[.string s] W fun e w' => e = .returned (.bool true) ∧ Below W.heap.size W w' := guard_from s (Below.refl _ _) hs
end Go.Proofs.Ytnpnfgjeggdanaa
