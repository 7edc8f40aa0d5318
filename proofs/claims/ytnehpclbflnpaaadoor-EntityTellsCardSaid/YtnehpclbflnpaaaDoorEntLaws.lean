/- What atR answers at the texts of the laws. No walk in this text. -/
import Derived.Test.YtnehpclbflnpaaaDoorAt
namespace Go.Proofs.YtnehpclbflnpaaaDoor
open Go.Lib

theorem indexByte_at {a b : List UInt8} {c : UInt8} (h : c ∉ a) : Lib.indexByte (a ++ c :: b) c = a.length := by
  induction a with
  | nil => unfold Lib.indexByte; simp
  | cons x a ih =>
    simp only [List.mem_cons, not_or] at h
    have h2 := ih h.2
    have h1 : (x == c) = false := by rw [beq_eq_false_iff_ne]; exact fun e => h.1 e.symm
    rw [List.cons_append]
    unfold Lib.indexByte
    rw [if_neg (by rw [h1]; simp), h2]
    have : ((a.length : Int) == -1) = false := by rw [beq_eq_false_iff_ne]; omega
    simp
theorem cut_at {a b : List UInt8} {c : UInt8} (h : c ∉ a) : Lib.cut (a ++ c :: b) [c] = (a, b, true) := by
  unfold Lib.cut
  rw [Lib.index_one, indexByte_at h, if_pos (by omega)]
  simp
theorem indexByte_cases (l : List UInt8) (c : UInt8) : Lib.indexByte l c = -1 ∧ c ∉ l ∨ ∃ a b, l = a ++ c :: b ∧ c ∉ a ∧ Lib.indexByte l c = a.length := by
  by_cases h : c ∈ l
  · right
    obtain ⟨a, b, rfl, hn⟩ : ∃ a b, l = a ++ c :: b ∧ c ∉ a := by
      induction l with
      | nil => cases h
      | cons x l ih =>
        by_cases hx : c = x
        · exact ⟨[], l, by rw [hx]; rfl, by simp⟩
        · rcases List.mem_cons.1 h with e | h
          · exact absurd e hx
          · obtain ⟨a, b, e, hn⟩ := ih h
            exact ⟨x :: a, b, by rw [e]; rfl, by simp only [List.mem_cons, not_or]; exact ⟨hx, hn⟩⟩
    exact ⟨a, b, rfl, hn, indexByte_at hn⟩
  · exact .inl ⟨index_none l c h, h⟩
theorem cut_cases (l : List UInt8) (c : UInt8) : Lib.cut l [c] = (l, [], false) ∧ c ∉ l ∨ ∃ a b, l = a ++ c :: b ∧ c ∉ a ∧ Lib.cut l [c] = (a, b, true) := by
  rcases indexByte_cases l c with ⟨h1, h2⟩ | ⟨a, b, e, hn, -⟩
  · left
    refine ⟨?_, h2⟩
    unfold Lib.cut
    rw [Lib.index_one, h1, if_neg (by omega)]
  · exact .inr ⟨a, b, e, hn, by rw [e]; exact cut_at hn⟩

theorem named_no {l : List UInt8} (h : l ∉ namesL) : namedR l = ([], false) := by
  unfold namedR
  rw [if_neg]
  intro h2
  exact h (List.idxOf_lt_length_iff.1 h2)
theorem named_yes {l : List UInt8} (h : l ∈ namesL) : namedR l = (encodeRune (runesL.getD (namesL.idxOf l) 0), true) := by
  unfold namedR
  rw [if_pos]
  exact List.idxOf_lt_length_iff.2 h
theorem names_form : ∀ n ∈ namesL, 59 ∉ n ∧ 32 ∉ n ∧ n.length ≤ 6 ∧ n ++ [120] ∉ namesL ∧ n ++ [32] ∉ namesL ∧ (∃ a t, n = a :: t ∧ a ≠ 35 ∧ a ≠ 32) := by
  have key : ∀ n ∈ namesL, 59 ∉ n ∧ 32 ∉ n ∧ n.length ≤ 6 ∧ n ++ [120] ∉ namesL ∧ n ++ [32] ∉ namesL ∧ (n.headD 35 ≠ 35 ∧ n.headD 35 ≠ 32) := by decide +kernel
  intro n hn
  obtain ⟨h1, h2, h3, h4, h5, h6, h7⟩ := key n hn
  refine ⟨h1, h2, h3, h4, h5, ?_⟩
  cases n with
  | nil => simp at h6
  | cons a t => exact ⟨a, t, rfl, h6, h7⟩

theorem pre_cons (a b : UInt8) (l p : List UInt8) : Lib.hasPrefix (a :: l) (b :: p) = ((b == a) && Lib.hasPrefix l p) := by
  show (b :: p).isPrefixOf (a :: l) = _
  rw [List.isPrefixOf_cons_cons]
  rfl
theorem pre_nil (l : List UInt8) : Lib.hasPrefix l [] = true := by simp [Lib.hasPrefix]
theorem behind_amp (l : List UInt8) : behind (38 :: l) = l := by
  unfold behind Lib.trimPrefix
  rw [if_pos (by rw [pre_cons, pre_nil]; rfl)]
  rfl
/-- behind an & that a # does not follow -/
theorem at_name {a : UInt8} {l : List UInt8} (h : a ≠ 35) : atR (38 :: a :: l) = nameAtR (a :: l) := by
  have h1 : ((35 : UInt8) == a) = false := by rw [beq_eq_false_iff_ne]; exact fun e => h e.symm
  unfold atR isHex
  rw [behind_amp, pre_cons, pre_cons, pre_cons, pre_cons, pre_nil, h1]
  simp
theorem at_x (l : List UInt8) : atR (120 :: l) = ([], 0) := by
  unfold atR
  rw [if_pos (by rw [pre_cons]; rfl)]
theorem at_blank (l : List UInt8) : (atR (38 :: 32 :: l)).2 = 0 := by
  rw [at_name (by decide)]
  unfold nameAtR
  rcases cut_cases (32 :: l) 59 with ⟨h, -⟩ | ⟨a, b, e, hn, h⟩
  · rw [h]; rfl
  · rw [h]
    have : a ∉ namesL := by
      intro hm
      obtain ⟨-, -, -, -, -, c, t, rfl, -, hc⟩ := names_form a hm
      rw [List.cons_append] at e
      exact hc (List.cons.inj e).1.symm
    rw [named_no this]
    simp
/-- a name, and a semicolon -/
theorem at_named {n : List UInt8} (hn : n ∈ namesL) (l : List UInt8) : atR (38 :: (n ++ 59 :: l)) = ((namedR n).1, n.length + 2) ∧ (namedR n).2 = true := by
  obtain ⟨h1, -, -, -, -, a, t, e, h2, -⟩ := names_form n hn
  have hy := named_yes hn
  refine ⟨?_, by rw [hy]⟩
  have e2 : (38 :: (n ++ 59 :: l)) = 38 :: a :: (t ++ 59 :: l) := by rw [e]; rfl
  rw [e2, at_name h2]
  have e3 : a :: (t ++ 59 :: l) = n ++ 59 :: l := by rw [e]; rfl
  rw [e3]
  unfold nameAtR
  rw [cut_at h1, hy]
  simp
theorem at_named_no {n : List UInt8} (hn : n ∈ namesL) (l : List UInt8) : (atR (38 :: (n ++ 32 :: 59 :: l))).2 = 0 := by
  obtain ⟨h1, -, -, -, h5, a, t, e, h2, -⟩ := names_form n hn
  have e2 : (38 :: (n ++ 32 :: 59 :: l)) = 38 :: a :: (t ++ 32 :: 59 :: l) := by rw [e]; rfl
  rw [e2, at_name h2]
  have e3 : a :: (t ++ 32 :: 59 :: l) = (n ++ [32]) ++ 59 :: l := by rw [e]; simp
  rw [e3]
  unfold nameAtR
  rw [cut_at (by simp only [List.mem_append, not_or]; exact ⟨h1, by decide⟩), named_no h5]
  simp
theorem at_amp (l : List UInt8) : atR (38 :: 97 :: 109 :: 112 :: 59 :: l) = ([38], 5) := by
  have h := (at_named (n := [97, 109, 112]) (by decide +kernel) l).1
  rw [show namedR [97, 109, 112] = ([38], true) by decide +kernel] at h
  exact h

/-- noughts -/
def lenS (hex : Bool) (n : Nat) : List UInt8 := (if hex then [38, 35, 120] else [38, 35]) ++ List.replicate n 48
set_option maxRecDepth 100000 in
theorem at_lens : ∀ hex : Bool, ∀ n, n < 13 → (decide (0 < (atR (lenS hex n ++ [59])).2) = (decide (1 ≤ n) && decide (n ≤ if hex then 6 else 7))) ∧ ((atR (lenS hex n ++ [59])).2 = 0 ∨ (atR (lenS hex n ++ [59])).2 = (lenS hex n).length + 1) ∧ (atR (lenS hex n)).2 = 0 := by
  decide +kernel

/-- digits, and what they come to -/
structure Digs (base : Int) (v : Int) (w : Int) (d : List UInt8) : Prop where
  all : ∀ b ∈ d, isDig base b = true
  w0 : 0 ≤ w
  val : w * base ^ d.length + valB base d = v
  low : 2 ≤ d.length → base ^ (d.length - 1) ≤ v
theorem Digs.start {base v : Int} (h : 0 ≤ v) : Digs base v v [] := ⟨by simp, h, by simp [valB], by simp⟩
theorem valB_from (base : Int) (d : List UInt8) : ∀ a : Int, d.foldl (fun x b => x * base + hexVal b) a = a * base ^ d.length + valB base d := by
  induction d with
  | nil => intro a; simp [valB]
  | cons b d ih =>
    intro a
    unfold valB
    simp only [List.foldl_cons, List.length_cons]
    rw [ih, ih (0 * base + hexVal b), Int.zero_mul, Int.zero_add, Int.add_mul, Int.pow_succ, Int.mul_comm (base ^ d.length) base, ← Int.mul_assoc]
    omega
theorem valB_cons (base : Int) (b : UInt8) (d : List UInt8) : valB base (b :: d) = hexVal b * base ^ d.length + valB base d := by
  have := valB_from base d (hexVal b)
  rw [← this]
  unfold valB
  simp only [List.foldl_cons, Int.zero_mul, Int.zero_add]
theorem Digs.next {base v w : Int} {d : List UInt8} {c : UInt8} (hb : base = 10 ∨ base = 16) (h : Digs base v w d) (hc : hexVal c = w % base) (hgo : 0 < w ∨ d = []) : Digs base v (w / base) (c :: d) := by
  have hb0 : 0 < base := by omega
  have hm := Int.emod_nonneg w (show base ≠ 0 by omega)
  have hm2 := Int.emod_lt_of_pos w hb0
  have hpos : 0 ≤ valB base d := (valB_bd hb d h.all).1
  refine ⟨?_, Int.ediv_nonneg h.w0 (by omega), ?_, ?_⟩
  · intro b hbm
    rcases List.mem_cons.1 hbm with rfl | hbm
    · unfold isDig; rw [hc]; simp [hm, hm2]
    · exact h.all b hbm
  · rw [valB_cons, hc, List.length_cons, Int.pow_succ, ← h.val]
    have hq := Int.emod_add_mul_ediv w base
    have e : w / base * (base ^ d.length * base) = base * (w / base) * base ^ d.length := by
      rw [Int.mul_comm (base ^ d.length) base, ← Int.mul_assoc, Int.mul_comm (w / base) base]
    rw [e, ← Int.add_assoc, ← Int.add_mul, Int.add_comm (base * (w / base)), hq]
  · intro hl
    simp only [List.length_cons, Nat.add_sub_cancel] at hl ⊢
    rcases hgo with hw | rfl
    · have h1 : base ^ d.length * 1 ≤ base ^ d.length * w := Int.mul_le_mul_of_nonneg_left (by omega) (Int.pow_nonneg (by omega))
      rw [Int.mul_one, Int.mul_comm] at h1
      have := h.val
      omega
    · simp at hl
theorem digN_dig {base : Int} {d : List UInt8} (h : ∀ b ∈ d, isDig base b = true) (l : List UInt8) : digN base (d ++ 59 :: l) = d.length := by
  induction d with
  | nil =>
    have : isDig base 59 = false := by
      unfold isDig hexVal; simp
    simp [digN, this]
  | cons b d ih =>
    rw [List.cons_append]
    simp only [digN]
    rw [if_pos (h b (by simp)), ih (fun c hc => h c (List.mem_cons_of_mem _ hc))]; simp
theorem numR_dig {base : Int} {most : Nat} {v : Int} {d : List UInt8} (h : Digs base v 0 d) (hd : d ≠ []) (hm : d.length ≤ most) (l : List UInt8) : numR base most (d ++ 59 :: l) = (runeText v, d.length) := by
  have hv : valB base d = v := by have := h.val; rw [Int.zero_mul, Int.zero_add] at this; exact this
  rw [numR_some (digN_dig h.all l) hm (fun e => hd (List.eq_nil_of_length_eq_zero e)) (by simp), List.take_left, hv]
theorem pow_mono {b : Int} {m n : Nat} (hb : 1 ≤ b) (h : m ≤ n) : b ^ m ≤ b ^ n := by
  obtain ⟨k, rfl⟩ : ∃ k, n = m + k := ⟨n - m, by omega⟩
  clear h
  induction k with
  | zero => exact Int.le_refl _
  | succ k ih =>
    rw [← Nat.add_assoc, Int.pow_succ]
    have h0 : 0 ≤ b ^ (m + k) := Int.pow_nonneg (by omega)
    have h1 : b ^ (m + k) * 1 ≤ b ^ (m + k) * b := Int.mul_le_mul_of_nonneg_left hb h0
    rw [Int.mul_one] at h1
    omega
theorem Digs.len10 {v : Int} {d : List UInt8} (h : Digs 10 v 0 d) (hv : v ≤ 1114128) : d.length ≤ 7 := by
  rcases Nat.lt_or_ge 7 d.length with h7 | h7
  · exfalso
    have h1 := h.low (by omega)
    have h2 : (10 : Int) ^ 7 ≤ 10 ^ (d.length - 1) := pow_mono (by omega) (by omega)
    omega
  · exact h7
theorem Digs.len16 {v : Int} {d : List UInt8} (h : Digs 16 v 0 d) (hv : v ≤ 1114128) : d.length ≤ 6 := by
  rcases Nat.lt_or_ge 6 d.length with h7 | h7
  · exfalso
    have h1 := h.low (by omega)
    have h2 : (16 : Int) ^ 6 ≤ 16 ^ (d.length - 1) := pow_mono (by omega) (by omega)
    omega
  · exact h7
theorem at_dec {v : Int} {d : List UInt8} (h : Digs 10 v 0 d) (hd : d ≠ []) (hv : v ≤ 1114128) (l : List UInt8) : atR (38 :: 35 :: (d ++ 59 :: l)) = (runeText v, d.length + 3) := by
  obtain ⟨c, t, rfl⟩ := List.exists_cons_of_ne_nil hd
  have hc := h.all c (by simp)
  have h1 : ((120 : UInt8) == c) = false := by
    rw [beq_eq_false_iff_ne]; rintro rfl; revert hc; decide
  have h2 : ((88 : UInt8) == c) = false := by
    rw [beq_eq_false_iff_ne]; rintro rfl; revert hc; decide
  have e : (38 :: 35 :: ((c :: t) ++ 59 :: l)) = 38 :: 35 :: c :: (t ++ 59 :: l) := rfl
  have hx : isHex (38 :: 35 :: c :: (t ++ 59 :: l)) = false := by
    unfold isHex
    rw [behind_amp]
    simp only [pre_cons, pre_nil, h1, h2, Bool.false_and, Bool.and_false, Bool.or_false]
  rw [e]
  unfold atR
  rw [hx, behind_amp, if_neg (by rw [pre_cons, pre_nil]; decide), if_neg (by simp), if_pos (by rw [pre_cons, pre_nil]; decide)]
  unfold numAtR
  rw [show (38 :: 35 :: c :: (t ++ 59 :: l)).drop 2 = (c :: t) ++ 59 :: l from rfl, numR_dig h hd (h.len10 hv) l, if_neg (by simp)]
  simp only [Prod.mk.injEq, true_and]
  omega
theorem at_hex {v : Int} {d : List UInt8} (h : Digs 16 v 0 d) (hd : d ≠ []) (hv : v ≤ 1114128) (x : UInt8) (hx : x = 120 ∨ x = 88) (l : List UInt8) : atR (38 :: 35 :: x :: (d ++ 59 :: l)) = (runeText v, d.length + 4) := by
  have hh : isHex (38 :: 35 :: x :: (d ++ 59 :: l)) = true := by
    unfold isHex
    rw [behind_amp]
    rcases hx with rfl | rfl
    · simp only [pre_cons, pre_nil]; decide
    · simp only [pre_cons, pre_nil]; decide
  unfold atR
  rw [hh, if_neg (by rw [pre_cons, pre_nil]; decide), if_pos rfl]
  unfold numAtR
  rw [show (38 :: 35 :: x :: (d ++ 59 :: l)).drop 3 = d ++ 59 :: l from rfl, numR_dig h hd (h.len16 hv) l, if_neg (by cases d with | nil => exact absurd rfl hd | cons a d => simp)]
  simp only [Prod.mk.injEq, true_and]
  omega
end Go.Proofs.YtnehpclbflnpaaaDoor
