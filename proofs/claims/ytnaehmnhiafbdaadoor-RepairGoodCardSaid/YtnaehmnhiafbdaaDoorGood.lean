/- RepairGood: the plain law and the walk. -/
import Derived.Test.YtnaehmnhiafbdaaDoorPlainFolds
import Derived.Test.YtnaehmnhiafbdaaDoorRow
namespace Go.Proofs.YtnaehmnhiafbdaaDoor
open Go.RowKit Go.Lib

/-- runes as they are encoded -/
def runesV (l : List Int) : List (Nat × List UInt8) := l.map fun r => (r.toNat, encodeRune r)
def goodR (r : Int) : Prop := 0 < r ∧ r ≠ 13 ∧ r ≤ 1114111 ∧ (r < 55296 ∨ 57343 < r)
theorem runesV_plain (l : List Int) (h : ∀ r ∈ l, goodR r) : ∀ x ∈ runesV l, Plain x := by
  intro x hx
  obtain ⟨r, hr, rfl⟩ := List.mem_map.1 hx
  obtain ⟨h1, h2, h3, h4⟩ := h r hr
  exact ⟨⟨by dsimp only; rw [Int.toNat_of_nonneg (by omega)], by dsimp only; omega, by dsimp only; omega⟩, by dsimp only; omega, by dsimp only; omega⟩
theorem runesV_next (l : List Int) (k : Nat) (h : k < l.length) : flat (runesV (l.take (k + 1))) = flat (runesV (l.take k)) ++ encodeRune l[k] := by
  rw [List.take_succ_eq_append_getElem h]
  unfold runesV
  rw [List.map_append, flat_append]
  simp [flat]
theorem runesV_len (l : List Int) : (flat (runesV l)).length ≤ 4 * l.length := by
  induction l with
  | nil => simp [runesV, flat]
  | cons r l ih =>
    have h := enc_length r
    have e : flat (runesV (r :: l)) = encodeRune r ++ flat (runesV l) := rfl
    rw [e, List.length_append, List.length_cons]; omega

set_option maxHeartbeats 2000000 in
theorem good_main (a : Option Addr) (cap : Nat) (l : List Int) (W : World) (hT : Tabs W) (hl : l.length ≤ 60)
    (hr : l = [] ∨ ∃ b o, a = some ⟨b, o, none⟩ ∧ b < W.heap.size ∧ ∀ i (h : i < l.length), W.cell? ⟨b, o + i, none⟩ = some (.int .i32 l[i])) :
    Calls Tryd.prog 6 #[.slice a l.length cap] W fun e w' => e = .returned (.bool true) ∧ Below W.heap.size W w' := by
  have h0 := Below.refl W.heap.size W
  have hi : (l.length : Int) ≤ 60 := by omega
  have HR := Lib.hid hr
  clear hr
  go_enter Tryd.func6, Tryd.ntmps6
  go_wp2_with fail
  refine (alive_from (by assumption) hT).mono ?_
  rintro e w1 ⟨rfl, hb1⟩
  go_wp2_with fail
  go_loopw [3, 17] (fun vs vi wr => ∃ (k : Nat) (S : ByteArray), k ≤ l.length ∧ vi = .int .i64 k ∧ vs = .string S ∧ Below W.heap.size W wr ∧ Hid (S.data.toList = flat (runesV (l.take k))) ∧ Hid (∀ r ∈ l.take k, goodR r)) (fun _ vi _ => l.length - (RowKit.intOf vi).toNat)
  case atStart => exact ⟨0, _, Nat.zero_le _, rfl, rfl, by assumption, rfl, by (intro r hr; rw [List.take_zero] at hr; cases hr)⟩
  case round =>
    obtain ⟨k, S, hk, rfl, rfl, hB, HS, HG⟩ := hrel
    have hSl : S.size ≤ 240 := by
      have := runesV_len (l.take k)
      rw [← HS.out, ← ba_size, List.length_take] at this; omega
    by_cases hlt : k < l.length
    · rcases HR.out with h9 | ⟨b, o, ha, hbl, hcell⟩
      · rw [h9] at hlt; simp at hlt
      subst ha
      have hc := (hB.cell (p := ⟨b, o + k, none⟩) hbl).trans (hcell k hlt)
      have HN := Lib.hid (runesV_next l k hlt)
      have HT := Lib.hid (List.take_succ_eq_append_getElem hlt)
      have hz := Lib.hid (show (Utf8.encode l[k]).data.toList = encodeRune l[k] from utf8_enc _)
      have hzl : (Utf8.encode l[k]).size ≤ 4 := by rw [ba_size, utf8_enc]; exact enc_length _
      clear hcell
      generalize l[k] = r at *
      go_wp2_with fail
      all_goals first
        | (go_ret; exact ⟨rfl, hB⟩)
        | (go_roundw
           case rel =>
             have hgr : goodR r := ⟨by omega, by omega, by omega, by omega⟩
             refine ⟨k + 1, _, by omega, by go_num, rfl, hB, ?_, ?_⟩
             · show _ = _
               rw [HN.out, ba_append, HS.out, hz.out]
             · intro x hx
               rw [HT.out] at hx
               rcases List.mem_append.1 hx with hx | hx
               · exact HG.out x hx
               · rw [List.mem_singleton.1 hx]; exact hgr
           case measure => simp [RowKit.intOf]; omega)
    · have hkl : k = l.length := by omega
      have hS2 : S.data.toList = flat (runesV l) := by
        have := HS.out
        rw [hkl, List.take_length] at this; exact this
      have hG2 : ∀ r ∈ l, goodR r := by
        have := HG.out
        rw [hkl, List.take_length] at this; exact this
      have hp := runesV_plain l hG2
      have hF : S.data.toList = textF S.data.toList := by rw [hS2, textF_plain _ hp]
      have hK : (toks S.data.toList).length = l.length := by
        rw [hS2, toks_vs _ (fun x hx => (hp x hx).1)]; simp [runesV]
      have HK := Lib.hid hK
      have c1 : ∀ {w : World}, Below W.heap.size W w → Calls Tryd.prog 10 #[.string S] w fun e w' => e = .returned (.string S) ∧ Below W.heap.size W w' := fun h => Text_as hF (by omega) h
      clear hkl hS2 hG2 hp hF hK HS HG HR
      go_wp2_with fail
      refine (c1 (by assumption)).mono ?_
      rintro e w3 ⟨rfl, hb3⟩
      go_wp2_with fail
      have hsz3 := hb3.size
      go_loopw [6] (fun vn wr => ∃ pos n : Nat, vn = .int .i64 n ∧ pos ≤ S.size ∧ wr.heap[w3.heap.size]? = some (.stringIter S pos) ∧ Below W.heap.size W wr ∧ n ≤ pos ∧ Hid (n + (toks (S.data.toList.drop pos)).length = l.length)) (fun _ wr => S.size - wr.iterPos w3.heap.size)
      case atStart => exact ⟨0, 0, rfl, Nat.zero_le _, by have := World.iter_heap w3 S 0; simpa using this, hb3.alloc hsz3 _, Nat.le_refl _, by show _ = _; rw [List.drop_zero, Nat.zero_add]; exact HK.out⟩
      case round =>
        obtain ⟨pos, n, rfl, hps, hit, hB2, hnp, HC⟩ := hrel
        by_cases hp : pos < S.size
        · obtain ⟨r, m, hn1, hpn, hrl, hnx, HI, hbw2, hsz2, HP1, HP2, HD, HNE, HG, HT, HTK⟩ := iter_step hit hp hB2 hsz3
          clear hit
          go_wp2_with fail
          go_roundw
          case rel => exact ⟨pos + m, n + 1, by go_num, hpn, HI.out, hbw2, by omega, by have h9 := HC.out; rw [HT.out, List.length_cons] at h9; show _ = _; omega⟩
          case measure => rw [HP1.out, HP2.out]; omega
        · have hnx := iter_end (wr := wr) hit hp
          have hn : n = l.length := by
            have h9 := HC.out
            rw [List.drop_of_length_le (by rw [← ba_size]; omega), toks_nil] at h9
            simpa using h9
          subst hn
          go_wp2_with fail
          refine (c1 (by assumption)).mono ?_
          rintro e w4 ⟨rfl, hb4⟩
          go_wp2_with fail
          go_ret
          exact ⟨ret_bool (by first | rfl | simp), by assumption⟩

theorem repairGood_walk (v : Value) (W : World) (hT : Tabs W) (h : ∃ l : List Int, RowIn W W.heap.size v (l.map (Value.int .i32)) ∧ ∀ n ∈ l, (Lit.int .i32 n).wf = true) :
    Calls Tryd.prog 6 #[v] W fun e w' => e = .returned (.bool true) ∧ Below W.heap.size W w' := by
  obtain ⟨l, ⟨a, cap, rfl, hlc, hcm, hr⟩, -⟩ := h
  rw [List.length_map] at *
  by_cases hl : l.length ≤ 60
  · refine good_main a cap l W hT hl ?_
    rcases hr with hr | ⟨b, o, ha, hb, hc⟩
    · exact .inl (by simpa using hr)
    · exact .inr ⟨b, o, ha, hb, fun i h => by have := hc i (by simpa using h); simpa using this⟩
  · have h0 := Below.refl W.heap.size W
    have hi : 60 < (l.length : Int) := by omega
    clear hr
    go_enter Tryd.func6, Tryd.ntmps6
    go_wp2_with fail
    refine (alive_from (by assumption) hT).mono ?_
    rintro e w1 ⟨rfl, hb1⟩
    go_wp2_with fail
    go_ret
    exact ⟨rfl, by assumption⟩
end Go.Proofs.YtnaehmnhiafbdaaDoor
