/- What is written of nodes without raw HTML is a forest of signs. Plain. -/
import Derived.Test.YtpabackkapgkpaaGreatDoorPForest
namespace Go.Proofs.YtpabackkapgkpaaGreatDoor
open Go.RowKit Go.Lib

theorem escByte_no_fin : ∀ n : Fin 256, (60 : UInt8) ∉ escByte (UInt8.ofNat n.val) ∧ (62 : UInt8) ∉ escByte (UInt8.ofNat n.val) := by decide +kernel
theorem escByte_no (b : UInt8) : (60 : UInt8) ∉ escByte b ∧ (62 : UInt8) ∉ escByte b := by
  have := escByte_no_fin ⟨b.toNat, b.toNat_lt⟩
  simpa using this
theorem escL_no (l : List UInt8) : (60 : UInt8) ∉ escL l ∧ (62 : UInt8) ∉ escL l := by
  constructor
  · intro h
    obtain ⟨b, -, hb⟩ := List.mem_flatMap.1 h
    exact (escByte_no b).1 hb
  · intro h
    obtain ⟨b, -, hb⟩ := List.mem_flatMap.1 h
    exact (escByte_no b).2 hb
theorem hrefL_no (l : List UInt8) : (62 : UInt8) ∉ hrefL l := by
  unfold hrefL
  split
  · exact (escL_no _).2
  · decide
theorem attrL_no {n : List UInt8} (hn : (62 : UInt8) ∉ n) (v : List UInt8) : (62 : UInt8) ∉ attrL n v := by
  unfold attrL
  split
  · simp
  · have := (escL_no v).2
    simp [hn, this]
/-- an attribute is nothing, or ends with a quote -/
theorem attrL_end (n v : List UInt8) : attrL n v = [] ∨ ∃ t, attrL n v = t ++ [34] := by
  unfold attrL
  split
  · exact .inl rfl
  · exact .inr ⟨_, rfl⟩
theorem last_two (m : List UInt8) (x : UInt8) : (60 :: (m ++ [x]) ++ [62]).drop ((60 :: (m ++ [x]) ++ [62]).length - 2) = [x, 62] := by
  have e : 60 :: (m ++ [x]) ++ [62] = (60 :: m) ++ [x, 62] := by simp
  rw [e]
  have : ((60 :: m) ++ [x, 62]).length - 2 = (60 :: m).length := by simp
  rw [this, List.drop_left]
theorem not_self {m : List UInt8} {x : UInt8} (hx : x ≠ 47) : (60 :: (m ++ [x]) ++ [62]).drop ((60 :: (m ++ [x]) ++ [62]).length - 2) ≠ [47, 62] := by
  rw [last_two]
  simp [hx]
theorem nameL_at (a r : List UInt8) (h : ∀ c ∈ a, c ≠ 32 ∧ c ≠ 62) (c : UInt8) (hc : c = 32 ∨ c = 62) : nameL (a ++ c :: r) = a := by
  induction a with
  | nil => simp [nameL, hc]
  | cons x a ih =>
    have hx := h x (by simp)
    rw [List.cons_append, nameL, if_neg (by rintro (e | e); exact hx.1 e; exact hx.2 e), ih (fun c hc => h c (by simp [hc]))]
/-- <name attribute>..</name> -/
theorem Bal.tag {nm at_ D : List UInt8} (hn : ∀ c ∈ nm, c ≠ 32 ∧ c ≠ 62 ∧ c ≠ 47) (h0 : nm ≠ []) (ha : (62 : UInt8) ∉ at_) (hs : at_ = [] ∨ (∃ t, at_ = 32 :: t) ∧ ∃ t, at_ = t ++ [34]) (hD : Bal D) :
    Bal ((60 :: (nm ++ at_) ++ [62]) ++ D ++ (60 :: 47 :: nm ++ [62])) := by
  have hn62 : (62 : UInt8) ∉ nm := fun h => (hn 62 h).2.1 rfl
  obtain ⟨x, nm', rfl⟩ : ∃ x nm', nm = x :: nm' := by cases nm with | nil => exact absurd rfl h0 | cons x l => exact ⟨x, l, rfl⟩
  refine Bal.pair (m := (x :: nm') ++ at_) (e := x :: nm') (by simp only [List.mem_append]; rintro (h | h); exact hn62 h; exact ha h) ?_ ?_ hn62 ?_ hD
  · have hx := (hn x (by simp)).2.2
    simp [hasPrefix, List.isPrefixOf, Ne.symm hx]
  · rcases hs with rfl | ⟨-, t, rfl⟩
    · rw [List.append_nil]
      obtain ⟨l, y, e⟩ : ∃ l y, x :: nm' = l ++ [y] := ⟨(x :: nm').dropLast, (x :: nm').getLast (by simp), (List.dropLast_concat_getLast (by simp)).symm⟩
      have hy := (hn y (by rw [e]; simp)).2.2
      rw [e]
      exact not_self hy
    · rw [← List.append_assoc]
      exact not_self (by decide)
  · have e2 : nameL ((x :: nm') ++ [62]) = x :: nm' := nameL_at _ [] (fun c hc => ⟨(hn c hc).1, (hn c hc).2.1⟩) 62 (.inr rfl)
    rw [e2]
    rcases hs with rfl | ⟨⟨t, rfl⟩, -⟩
    · rw [List.append_nil]; exact e2
    · rw [List.append_assoc]
      exact nameL_at _ _ (fun c hc => ⟨(hn c hc).1, (hn c hc).2.1⟩) 32 (.inl rfl)

/-- a row of digits -/
theorem dec_bytes (u : Nat) : ∀ b ∈ decDigits u, 48 ≤ b.toNat ∧ b.toNat ≤ 57 := by
  induction u using decDigits.induct with
  | case1 u h =>
    rw [decDigits, dif_pos h]
    intro b hb
    rw [List.mem_singleton.1 hb]
    have : u % 256 = u := by omega
    simp
    omega
  | case2 u h ih =>
    rw [decDigits, dif_neg h]
    intro b hb
    rcases List.mem_append.1 hb with h1 | h1
    · exact ih b h1
    · rw [List.mem_singleton.1 h1]
      simp
      omega
theorem itoa_bytes {n : Int} (h : 0 ≤ n) : ∀ b ∈ Lib.itoa n, 48 ≤ b.toNat ∧ b.toNat ≤ 57 := by
  have e := itoa_nonneg n.toNat
  rw [Int.toNat_of_nonneg h] at e
  rw [e]
  exact dec_bytes _
theorem itoa_no {n : Int} (h : 0 ≤ n) : (60 : UInt8) ∉ Lib.itoa n ∧ (62 : UInt8) ∉ Lib.itoa n :=
  ⟨fun hm => absurd (itoa_bytes h _ hm).2 (by decide), fun hm => absurd (itoa_bytes h _ hm).2 (by decide)⟩

structure CleanCfg (c : Cfg) : Prop where
  raw : c.raw = false
  secs : ∀ s ∈ c.secs, ∀ b ∈ s.anchor.data.toList, 97 ≤ b.toNat ∧ b.toNat ≤ 122

theorem attr_shape (n v : List UInt8) : attrL n v = [] ∨ (∃ t, attrL n v = 32 :: t) ∧ ∃ t, attrL n v = t ++ [34] := by
  unfold attrL
  split
  · exact .inl rfl
  · exact .inr ⟨⟨_, rfl⟩, ⟨_, rfl⟩⟩
theorem note_bal {n t : Int} (hn : 0 ≤ n) : Bal (noteL n t) := by
  have e : noteL n t = (60 :: ([115, 117, 112] ++ attrL [105, 100] (backL n t)) ++ [62]) ++ ((60 :: ([97] ++ ([32, 104, 114, 101, 102, 61, 34, 35] ++ idL n ++ [34])) ++ [62]) ++ Lib.itoa n ++ (60 :: 47 :: [97] ++ [62])) ++ (60 :: 47 :: [115, 117, 112] ++ [62]) := by
    simp [noteL, List.append_assoc]
  rw [e]
  refine Bal.tag (by decide) (by simp) (attrL_no (by decide) _) (attr_shape _ _) (Bal.tag (by decide) (by simp) ?_ (.inr ⟨⟨_, rfl⟩, ⟨_, rfl⟩⟩) (Bal.text (itoa_no hn).1))
  have := (itoa_no hn).2
  simp [idL, this]
theorem cross_bal {c : Cfg} (hc : CleanCfg c) (a : ByteArray) : Bal (crossL c a) := by
  unfold crossL
  split
  · next h =>
    obtain ⟨hm, -⟩ := findSec_small h
    have hs := hc.secs _ hm
    generalize (findSec a c.secs).1 = s at *
    have e : [60, 97, 32, 104, 114, 101, 102, 61, 34, 35, 115, 45] ++ s.anchor.data.toList ++ [34, 62] ++ escL (callSec s c.number).data.toList ++ [60, 47, 97, 62] = (60 :: ([97] ++ ([32, 104, 114, 101, 102, 61, 34, 35, 115, 45] ++ s.anchor.data.toList ++ [34])) ++ [62]) ++ escL (callSec s c.number).data.toList ++ (60 :: 47 :: [97] ++ [62]) := by
      simp [List.append_assoc]
    rw [e]
    refine Bal.tag (by decide) (by simp) ?_ (.inr ⟨⟨_, rfl⟩, ⟨_, rfl⟩⟩) (Bal.text (escL_no _).1)
    have : (62 : UInt8) ∉ s.anchor.data.toList := fun hm => absurd (hs _ hm).1 (by decide)
    simp [this]
  · exact Bal.text (escL_no _).1
theorem nodeL_bal {c : Cfg} (hc : CleanCfg c) (x : Inl) {D : List UInt8} (hD : Bal D) : Bal ((nodeL c x).1 ++ D ++ (nodeL c x).2) := by
  have hT : ∀ t : List UInt8, Bal t → Bal (t ++ D ++ []) := fun t ht => by rw [List.append_nil]; exact ht.append hD
  unfold nodeL
  split
  · exact hT _ (Bal.text (escL_no _).1)
  · split
    · refine hT _ ?_
      have e : [60, 99, 111, 100, 101, 62] ++ escL x.text.data.toList ++ [60, 47, 99, 111, 100, 101, 62] = (60 :: ([99, 111, 100, 101] ++ []) ++ [62]) ++ escL x.text.data.toList ++ (60 :: 47 :: [99, 111, 100, 101] ++ [62]) := by simp
      rw [e]
      exact Bal.tag (by decide) (by simp) (by decide) (.inl rfl) (Bal.text (escL_no _).1)
    · split
      · exact Bal.tag (nm := [101, 109]) (at_ := []) (by decide) (by simp) (by decide) (.inl rfl) hD
      · split
        · exact Bal.tag (nm := [115, 116, 114, 111, 110, 103]) (at_ := []) (by decide) (by simp) (by decide) (.inl rfl) hD
        · split
          · have e : [60, 97, 32, 104, 114, 101, 102, 61, 34] ++ hrefL x.url.data.toList ++ [34] ++ attrL [116, 105, 116, 108, 101] x.title.data.toList ++ [62] = (60 :: ([97] ++ ([32, 104, 114, 101, 102, 61, 34] ++ hrefL x.url.data.toList ++ [34] ++ attrL [116, 105, 116, 108, 101] x.title.data.toList)) ++ [62]) := by simp [List.append_assoc]
            dsimp only
            rw [e]
            have h1 := hrefL_no x.url.data.toList
            have h2 := attrL_no (n := [116, 105, 116, 108, 101]) (by decide) x.title.data.toList
            refine Bal.tag (nm := [97]) (by decide) (by simp) (by simp [h1, h2]) (.inr ⟨⟨_, rfl⟩, ?_⟩) hD
            rcases attr_shape [116, 105, 116, 108, 101] x.title.data.toList with h | ⟨-, t, h⟩
            · rw [h, List.append_nil]; exact ⟨_, rfl⟩
            · rw [h, ← List.append_assoc]; exact ⟨_, rfl⟩
          · split
            · refine hT _ ?_
              have e : [60, 105, 109, 103, 32, 115, 114, 99, 61, 34] ++ hrefL x.url.data.toList ++ [34, 32, 97, 108, 116, 61, 34] ++ escL x.text.data.toList ++ [34] ++ attrL [116, 105, 116, 108, 101] x.title.data.toList ++ [32, 47, 62] = 60 :: (([105, 109, 103, 32, 115, 114, 99, 61, 34] ++ hrefL x.url.data.toList ++ [34, 32, 97, 108, 116, 61, 34] ++ escL x.text.data.toList ++ [34] ++ attrL [116, 105, 116, 108, 101] x.title.data.toList ++ [32]) ++ [47]) ++ [62] := by simp [List.append_assoc]
              rw [e]
              have h1 := hrefL_no x.url.data.toList
              have h2 := attrL_no (n := [116, 105, 116, 108, 101]) (by decide) x.title.data.toList
              have h3 := (escL_no x.text.data.toList).2
              exact Bal.self (by simp [h1, h2, h3]) (by simp [hasPrefix, List.isPrefixOf]) (last_two _ _)
            · split
              · exact hT _ (Bal.text (by decide))
              · split
                · refine hT _ ?_
                  have e : ([60, 98, 114, 32, 47, 62, 10] : List UInt8) = (60 :: ([98, 114, 32] ++ [47]) ++ [62]) ++ [10] := rfl
                  rw [e]
                  exact (Bal.self (by decide) (by decide) (last_two _ _)).append (Bal.text (by decide))
                · split
                  · rw [hc.raw]
                    exact hT _ (Bal.text (escL_no _).1)
                  · split
                    · have e : [60, 115, 112, 97, 110] ++ attrL [99, 108, 97, 115, 115] x.text.data.toList ++ [62] = (60 :: ([115, 112, 97, 110] ++ attrL [99, 108, 97, 115, 115] x.text.data.toList) ++ [62]) := by simp
                      dsimp only
                      rw [e]
                      exact Bal.tag (nm := [115, 112, 97, 110]) (by decide) (by simp) (attrL_no (by decide) _) (attr_shape _ _) hD
                    · exact hT [] Bal.nil
theorem node_bal {N : Nat} {c : Cfg} {x : Inl} {s : HSt} (hc : CleanCfg c) (hx : x.Small) (hf : Fits (N + 1) s) {D : List UInt8} (hD : Bal D) : Bal ((nodeS c x s).1 ++ D ++ (nodeS c x s).2.1) := by
  unfold nodeS
  split
  · split
    · rw [List.append_nil]
      exact (note_bal (by have := (hf.ref hx.text).2.1; omega)).append hD
    · rw [List.append_nil]
      exact (Bal.text (escL_no _).1).append hD
  · split
    · rw [List.append_nil]
      exact (cross_bal hc _).append hD
    · exact nodeL_bal hc x hD
theorem nodes_bal {c : Cfg} (hc : CleanCfg c) (hs : c.Small) : ∀ (n N : Nat) (l : List Inl) (s : HSt), l.length ≤ n → (∀ x ∈ l, x.Small) → Fits (N + l.length) s → ∃ D, (nodesS c l s).out = s.out ++ D ∧ Bal D
  | n, N, [], s, _, _, _ => ⟨[], by rw [nodesS_nil]; simp, Bal.nil⟩
  | 0, _, _ :: _, _, h, _, _ => by simp at h
  | n + 1, N, x :: l, s, hn, hsm, h => by
    simp only [List.length_cons] at hn h
    have hi := inside_le x.depth l
    have hx := hsm x (by simp)
    have hl : ∀ y ∈ l, y.Small := fun y hy => hsm y (by simp [hy])
    rw [nodesS_cons]
    have hF : Fits (N + l.length + 1) s := by rwa [Nat.add_assoc]
    have hN : Fits (N + l.length) (nodeS c x s).2.2 := hF.node hx
    have hlt : (l.take (inside x.depth l)).length = inside x.depth l := by rw [List.length_take]; omega
    have hld : (l.drop (inside x.depth l)).length = l.length - inside x.depth l := List.length_drop
    have hA : Fits (N + (l.drop (inside x.depth l)).length + (l.take (inside x.depth l)).length) ((nodeS c x s).2.2.put (nodeS c x s).1) := (hN.put _).less (by omega)
    obtain ⟨D1, e1, b1⟩ := nodes_bal hc hs n (N + (l.drop (inside x.depth l)).length) (l.take (inside x.depth l)) ((nodeS c x s).2.2.put (nodeS c x s).1) (by omega) (fun y hy => hl y (List.mem_of_mem_take hy)) hA
    have f1 := (nodes_fits c hs n _ _ _ (by omega) (fun y hy => hl y (List.mem_of_mem_take hy)) hA).1
    obtain ⟨D2, e2, b2⟩ := nodes_bal hc hs n N (l.drop (inside x.depth l)) ((nodesS c (l.take (inside x.depth l)) ((nodeS c x s).2.2.put (nodeS c x s).1)).put (nodeS c x s).2.1) (by omega) (fun y hy => hl y (List.mem_of_mem_drop hy)) (f1.put _)
    refine ⟨((nodeS c x s).1 ++ D1 ++ (nodeS c x s).2.1) ++ D2, ?_, (node_bal hc hx hF b1).append b2⟩
    rw [e2]
    show (nodesS c (l.take (inside x.depth l)) ((nodeS c x s).2.2.put (nodeS c x s).1)).out ++ (nodeS c x s).2.1 ++ D2 = _
    rw [e1]
    show (nodeS c x s).2.2.out ++ (nodeS c x s).1 ++ D1 ++ (nodeS c x s).2.1 ++ D2 = _
    rw [nodeS_out]
    simp [List.append_assoc]
/-- what is written of nodes on a new paper is a forest -/
theorem nodes_forest {c : Cfg} (hc : CleanCfg c) (hs : c.Small) {l : List Inl} (hsm : ∀ x ∈ l, x.Small) {L : List ByteArray} {C : List Int} (hf : Fits l.length ⟨[], L, C, [], []⟩) : ∃ toks, forestF (nodesS c l ⟨[], L, C, [], []⟩).out [] [] = some toks := by
  obtain ⟨D, e, toks, hD⟩ := nodes_bal hc hs l.length 0 l ⟨[], L, C, [], []⟩ (Nat.le_refl _) hsm (by rwa [Nat.zero_add])
  refine ⟨toks, ?_⟩
  have := hD [] [] []
  rw [List.append_nil] at this
  rw [e]
  show forestF ([] ++ D) [] [] = _
  rw [List.nil_append, this]
  rw [forestF_step]
  simp [cutGt]
end Go.Proofs.YtpabackkapgkpaaGreatDoor
