/- Signs of HTML: what html.Tokens answers, as a function; what is written of nodes without raw HTML is a forest of them. Plain. -/
import Derived.Test.YtpabackkapgkpaaGreatDoorHFits
namespace Go.Proofs.YtpabackkapgkpaaGreatDoor
open Go.RowKit Go.Lib

/-- up to the first '>', with it, and what is behind -/
def cutGt : List UInt8 → Option (List UInt8 × List UInt8)
  | [] => none
  | c :: l => if c = 62 then some ([62], l) else
    match cutGt l with
    | none => none
    | some (a, r) => some (c :: a, r)
/-- a sign's name -/
def nameL : List UInt8 → List UInt8
  | [] => []
  | c :: l => if c = 32 ∨ c = 62 then [] else c :: nameL l
/-- what a sign makes of those that are open -/
def signStep (sign : List UInt8) (op : List (List UInt8)) : Option (List (List UInt8)) :=
  if hasPrefix sign [60, 47] then
    match op with
    | [] => none
    | top :: r => if top = nameL (sign.drop 2) then some r else none
  else if sign.drop (sign.length - 2) = [47, 62] then some op
  else some (nameL (sign.drop 1) :: op)
def runF : Nat → List UInt8 → List (List UInt8) → List (List UInt8) → Option (List (List UInt8))
  | 0, _, op, out => if op = [] then some out else none
  | n + 1, s, op, out =>
    match cutGt (s.dropWhile (· != 60)) with
    | none => if s.dropWhile (· != 60) = [] ∧ op = [] then some out else none
    | some (sign, rest) =>
      match signStep sign op with
      | none => none
      | some op' => runF n rest op' (out ++ [sign])

theorem cutGt_len {s a r : List UInt8} (h : cutGt s = some (a, r)) : s = a ++ r ∧ a ≠ [] := by
  induction s generalizing a r with
  | nil => simp [cutGt] at h
  | cons c l ih =>
    unfold cutGt at h
    split at h
    · next hc => simp only [Option.some.injEq, Prod.mk.injEq] at h; obtain ⟨rfl, rfl⟩ := h; simp [hc]
    · cases hl : cutGt l with
      | none => rw [hl] at h; cases h
      | some p =>
        obtain ⟨a', r'⟩ := p
        rw [hl] at h
        simp only [Option.some.injEq, Prod.mk.injEq] at h
        obtain ⟨rfl, rfl⟩ := h
        simp [(ih hl).1]
theorem drop_le (s : List UInt8) : (s.dropWhile (· != 60)).length ≤ s.length := (List.dropWhile_suffix _).length_le
theorem runF_fuel : ∀ (n m : Nat) (s : List UInt8) (op out : List (List UInt8)), s.length ≤ n → s.length ≤ m → runF n s op out = runF m s op out
  | 0, 0, s, op, out, _, _ => rfl
  | 0, m + 1, s, op, out, h, _ => by
    have : s = [] := List.eq_nil_of_length_eq_zero (by omega)
    subst this
    simp [runF, cutGt]
  | n + 1, 0, s, op, out, _, h => by
    have : s = [] := List.eq_nil_of_length_eq_zero (by omega)
    subst this
    simp [runF, cutGt]
  | n + 1, m + 1, s, op, out, h, h' => by
    unfold runF
    cases hc : cutGt (s.dropWhile (· != 60)) with
    | none => rfl
    | some p =>
      obtain ⟨a, r⟩ := p
      obtain ⟨e, ha⟩ := cutGt_len hc
      have := drop_le s
      have hl : a.length + r.length ≤ s.length := by rw [e] at this; simpa using this
      have hp : 0 < a.length := List.length_pos_iff.2 ha
      dsimp only
      cases signStep a op with
      | none => rfl
      | some op' => exact runF_fuel n m r op' _ (by omega) (by omega)
/-- the signs of a text, those that are open ahead of it, those that were ahead of it; none: they are no forest -/
def forestF (s : List UInt8) (op out : List (List UInt8)) : Option (List (List UInt8)) := runF s.length s op out
theorem forestF_step (s : List UInt8) (op out : List (List UInt8)) : forestF s op out =
    match cutGt (s.dropWhile (· != 60)) with
    | none => if s.dropWhile (· != 60) = [] ∧ op = [] then some out else none
    | some (sign, rest) =>
      match signStep sign op with
      | none => none
      | some op' => forestF rest op' (out ++ [sign]) := by
  unfold forestF
  rw [runF_fuel s.length (s.length + 1) s op out (Nat.le_refl _) (Nat.le_succ _), runF]
  cases hc : cutGt (s.dropWhile (· != 60)) with
  | none => rfl
  | some p =>
    obtain ⟨a, r⟩ := p
    obtain ⟨e, ha⟩ := cutGt_len hc
    have := drop_le s
    have hl : a.length + r.length ≤ s.length := by rw [e] at this; simpa using this
    dsimp only
    cases signStep a op with
    | none => rfl
    | some op' => exact runF_fuel _ _ r op' _ (by omega) (Nat.le_refl _)

theorem dropWhile_no {t : List UInt8} (h : (60 : UInt8) ∉ t) (r : List UInt8) : (t ++ r).dropWhile (· != 60) = r.dropWhile (· != 60) := by
  induction t with
  | nil => rfl
  | cons c l ih =>
    have hc : c ≠ 60 := fun e => h (by simp [e])
    rw [List.cons_append, List.dropWhile_cons]
    simp only [bne_iff_ne, ne_eq, hc, not_false_iff, if_true]
    exact ih (fun hm => h (by simp [hm]))
theorem forestF_text {t : List UInt8} (h : (60 : UInt8) ∉ t) (r : List UInt8) (op out : List (List UInt8)) : forestF (t ++ r) op out = forestF r op out := by
  rw [forestF_step, forestF_step, dropWhile_no h]
theorem cutGt_sign {m : List UInt8} (h : (62 : UInt8) ∉ m) (r : List UInt8) : cutGt (m ++ 62 :: r) = some (m ++ [62], r) := by
  induction m with
  | nil => simp [cutGt]
  | cons c l ih =>
    have hc : c ≠ 62 := fun e => h (by simp [e])
    rw [List.cons_append, cutGt, if_neg hc, ih (fun hm => h (by simp [hm]))]
    rfl
theorem forestF_sign {m : List UInt8} (h : (62 : UInt8) ∉ m) (r : List UInt8) (op out : List (List UInt8)) : forestF (60 :: m ++ [62] ++ r) op out =
    match signStep (60 :: m ++ [62]) op with
    | none => none
    | some op' => forestF r op' (out ++ [60 :: m ++ [62]]) := by
  rw [forestF_step]
  have e : (60 :: m ++ [62] ++ r).dropWhile (· != 60) = (60 :: m) ++ 62 :: r := by simp
  rw [e, cutGt_sign (by simp; exact h)]

/-- a text whose signs are a forest, whatever lies around it -/
def Bal (D : List UInt8) : Prop := ∃ toks, ∀ r op out, forestF (D ++ r) op out = forestF r op (out ++ toks)
theorem Bal.nil : Bal [] := ⟨[], fun r op out => by simp⟩
theorem Bal.text {t : List UInt8} (h : (60 : UInt8) ∉ t) : Bal t := ⟨[], fun r op out => by rw [forestF_text h]; simp⟩
theorem Bal.append {a b : List UInt8} (ha : Bal a) (hb : Bal b) : Bal (a ++ b) := by
  obtain ⟨x, hx⟩ := ha
  obtain ⟨y, hy⟩ := hb
  exact ⟨x ++ y, fun r op out => by rw [List.append_assoc, hx, hy, List.append_assoc]⟩
/-- a sign that is its own end -/
theorem Bal.self {m : List UInt8} (h : (62 : UInt8) ∉ m) (h2 : hasPrefix (60 :: m ++ [62]) [60, 47] = false) (h3 : (60 :: m ++ [62]).drop ((60 :: m ++ [62]).length - 2) = [47, 62]) : Bal (60 :: m ++ [62]) :=
  ⟨[60 :: m ++ [62]], fun r op out => by rw [forestF_sign h]; unfold signStep; rw [if_neg (by rw [h2]; decide), if_pos h3]⟩
/-- what is opened, what lies within, what is closed -/
theorem Bal.pair {m e D : List UInt8} (h : (62 : UInt8) ∉ m) (h2 : hasPrefix (60 :: m ++ [62]) [60, 47] = false) (h3 : (60 :: m ++ [62]).drop ((60 :: m ++ [62]).length - 2) ≠ [47, 62]) (he : (62 : UInt8) ∉ e) (hn : nameL (m ++ [62]) = nameL (e ++ [62])) (hD : Bal D) :
    Bal ((60 :: m ++ [62]) ++ D ++ (60 :: (47 :: e) ++ [62])) := by
  obtain ⟨x, hx⟩ := hD
  refine ⟨[60 :: m ++ [62]] ++ x ++ [60 :: (47 :: e) ++ [62]], fun r op out => ?_⟩
  rw [List.append_assoc, List.append_assoc, forestF_sign h]; unfold signStep; rw [if_neg (by rw [h2]; decide), if_neg h3]
  dsimp only
  rw [hx, forestF_sign (by simp; exact he)]; unfold signStep; rw [if_pos (by simp [hasPrefix])]
  dsimp only
  have e1 : (60 :: m ++ [62]).drop 1 = m ++ [62] := rfl
  have e2 : (60 :: (47 :: e) ++ [62]).drop 2 = e ++ [62] := rfl
  rw [e1, e2, if_pos hn]
  simp [List.append_assoc]
end Go.Proofs.YtpabackkapgkpaaGreatDoor
