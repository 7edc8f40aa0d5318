/- What the reference makes of a text, byte by byte, and that it is the same. No program in this text. -/
import Derived.Test.YtnpnfgjeggdanaaGuard
namespace Go.Proofs.Ytnpnfgjeggdanaa
open Go.Lib

def lowRB (c : UInt8) : List UInt8 := if c.toNat ≤ 32 ∨ c.toNat = 127 then [] else [lowB c]
def lowRL (l : List UInt8) : List UInt8 := l.flatMap lowRB
def safeRB (l : List UInt8) : Bool := !badL (lowRL l)

theorem lowRL_append (a b : List UInt8) : lowRL (a ++ b) = lowRL a ++ lowRL b := by simp [lowRL]
theorem lowRL_length (l : List UInt8) : (lowRL l).length ≤ l.length := by
  induction l with
  | nil => simp [lowRL]
  | cons b l ih =>
    have : lowRL (b :: l) = lowRB b ++ lowRL l := by simp [lowRL]
    rw [this, List.length_append, List.length_cons]
    have h : (lowRB b).length ≤ 1 := by unfold lowRB; split <;> simp
    omega
theorem lowRL_next (l : List UInt8) (k : Nat) (h : k < l.length) : lowRL (l.take (k + 1)) = lowRL (l.take k) ++ lowRB l[k] := by
  rw [List.take_succ_eq_append_getElem h, lowRL_append]; simp [lowRL]
theorem escL_next (l : List UInt8) (k : Nat) (h : k < l.length) : escL (l.take (k + 1)) = escL (l.take k) ++ escByte l[k] := by
  rw [List.take_succ_eq_append_getElem h, escL_append]; simp [escL]

theorem lowR_same_fin : ∀ n : Fin 128, lowR n.val = lowRB (UInt8.ofNat n.val) := by decide +kernel
theorem lowRB_high {b : UInt8} (h : 128 ≤ b.toNat) : lowRB b = [b] := by
  unfold lowRB
  rw [if_neg (by omega)]
  unfold lowB
  rw [if_neg (by omega)]
theorem lowRL_high (t : List UInt8) (h : ∀ b ∈ t, 128 ≤ b.toNat) : lowRL t = t := by
  induction t with
  | nil => rfl
  | cons b t ih =>
    show lowRB b ++ lowRL t = _
    rw [lowRB_high (h b (List.mem_cons_self ..)), ih (fun c hc => h c (List.mem_cons_of_mem _ hc))]; rfl
theorem lowR_high {r : Nat} (h : 128 ≤ r) : lowR r = encodeRune r := by
  unfold lowR
  rw [if_neg (by omega), if_pos (by omega)]
theorem plain_low {c : UInt8} (h : plainC c = true) : c.toNat < 128 := by
  unfold plainC at h
  simp only [Bool.or_eq_true, Bool.and_eq_true, decide_eq_true_eq, beq_iff_eq] at h
  omega
theorem pre_high {c : UInt8} {q t x : List UInt8} (hc : c.toNat < 128) (hne : t ≠ []) (h : ∀ b ∈ t, 128 ≤ b.toNat) : hasPrefix (t ++ x) (c :: q) = false := by
  cases t with
  | nil => exact absurd rfl hne
  | cons b t =>
    have hb := h b (List.mem_cons_self ..)
    show (c :: q).isPrefixOf (b :: (t ++ x)) = false
    rw [List.isPrefixOf_cons_cons, Bool.and_eq_false_iff]
    left
    rw [beq_eq_false_iff_ne]; intro e; subst e; omega

theorem enc_ne (r : Nat) : encodeRune (r : Int) ≠ [] := by
  unfold encodeRune encodeRuneZ
  intro h
  have := congrArg List.length h
  simp only [List.length_map, List.length_nil] at this
  repeat' split at this
  all_goals simp at this

theorem pre_eq (s : List UInt8) : ∀ p : List UInt8, (∀ c ∈ p, plainC c = true) → hasPrefix (lowL s) p = hasPrefix (lowRL s) p := by
  induction s using toks_ind with
  | h0 => intro p _; rfl
  | h1 l hl ih =>
    intro p hp
    have hg := good_head l hl
    have hs : lowRL l = lowRL (l.take (decodeL l).2) ++ lowRL (l.drop (decodeL l).2) := by
      rw [← lowRL_append, List.take_append_drop]
    rw [lowL_step l hl, hs]
    cases p with
    | nil => simp [hasPrefix]
    | cons c q =>
      have hc := hp c (List.mem_cons_self ..)
      by_cases hr : (decodeL l).1 < 128
      · obtain ⟨b, e, hb⟩ := good_low hg hr
        have e' : l.take (decodeL l).2 = [b] := e
        have h1 : lowR (decodeL l).1 = lowRB b := by
          have := lowR_same_fin ⟨b.toNat, by rw [hb]; exact hr⟩
          simp only [UInt8.ofNat_toNat] at this
          rw [← this, hb]
        rw [e', h1]
        show hasPrefix (lowRB b ++ _) _ = hasPrefix ((lowRB b ++ []) ++ _) _
        rw [List.append_nil]
        unfold lowRB
        split
        · exact ih _ hp
        · have := ih q (fun d hd => hp d (List.mem_cons_of_mem _ hd))
          simp only [hasPrefix] at this
          simp only [hasPrefix, List.cons_append, List.nil_append, List.isPrefixOf_cons_cons, this]
      · have h128 : 128 ≤ (decodeL l).1 := by omega
        have hh := good_high hg h128
        have hw := decodeL_width l
        have hne : l.take (decodeL l).2 ≠ [] := by
          intro h
          have h9 := congrArg List.length h
          rw [List.length_take, List.length_nil] at h9
          have hlp : 0 < l.length := List.length_pos_iff.2 hl
          omega
        rw [lowR_high h128, lowRL_high _ hh, pre_high (plain_low hc) (enc_ne _) (enc_high _ h128), pre_high (plain_low hc) hne hh]

theorem safeRB_eq (s : List UInt8) : safeRB s = safeB s := by
  unfold safeRB safeB badL
  congr 1
  rw [Bool.eq_iff_iff]
  simp only [List.any_eq_true]
  constructor
  · rintro ⟨p, hp, h⟩; exact ⟨p, hp, by rw [pre_eq s p (bads_plain p hp)]; exact h⟩
  · rintro ⟨p, hp, h⟩; exact ⟨p, hp, by rw [← pre_eq s p (bads_plain p hp)]; exact h⟩
end Go.Proofs.Ytnpnfgjeggdanaa
