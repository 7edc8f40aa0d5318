/- HtmlSpans: the plain law and the walk. -/
import Derived.Test.YtpabackkapgkpaaGreatDoorHRows
namespace Go.Proofs.YtpabackkapgkpaaGreatDoor
open Go.RowKit Go.Lib

def spanI (lab : ByteArray) (d : Nat) : Inl := ⟨12, d, lab, ⟨#[]⟩, ⟨#[]⟩⟩
def wordI (text : ByteArray) (d : Nat) : Inl := ⟨1, d, text, ⟨#[]⟩, ⟨#[]⟩⟩
def chainI (lab text : ByteArray) (d : Nat) : Nat → List Inl
  | 0 => [wordI text d]
  | m + 1 => spanI lab d :: chainI lab text (d + 1) m
theorem chain_eq (lab text : ByteArray) : ∀ m d, chainI lab text d m = ((List.range m).map fun i => spanI lab (d + i)) ++ [wordI text (d + m)]
  | 0, d => rfl
  | m + 1, d => by
    rw [chainI, chain_eq lab text m (d + 1), List.range_succ_eq_map, List.map_cons, List.map_map, List.cons_append]
    congr 2
    · congr 1
      funext i
      simp only [Function.comp]
      congr 1
      omega
    · congr 2
      omega
theorem chain_deep (lab text : ByteArray) : ∀ m d, ∀ x ∈ chainI lab text d m, (d : Int) ≤ x.depth
  | 0, d, x, hx => by rw [List.mem_singleton.1 hx]; exact Int.le_refl _
  | m + 1, d, x, hx => by
    rcases List.mem_cons.1 hx with rfl | hx
    · exact Int.le_refl _
    · have := chain_deep lab text m (d + 1) x hx; omega
theorem inside_all (d : Int) : ∀ l : List Inl, (∀ x ∈ l, d < x.depth) → inside d l = l.length
  | [], _ => rfl
  | x :: l, h => by rw [inside, if_pos (h x (by simp)), inside_all d l (fun y hy => h y (by simp [hy]))]; rfl
def repL (m : Nat) (t : List UInt8) : List UInt8 := (List.replicate m t).flatten
theorem repL_succ (m : Nat) (t : List UInt8) : repL (m + 1) t = t ++ repL m t := by simp [repL, List.replicate_succ]
theorem repL_snoc (m : Nat) (t : List UInt8) : repL (m + 1) t = repL m t ++ t := by simp [repL, List.replicate_succ']
theorem repL_length (m : Nat) (t : List UInt8) : (repL m t).length = m * t.length := by simp [repL]
def openL (lab : ByteArray) : List UInt8 := [60, 115, 112, 97, 110] ++ attrL [99, 108, 97, 115, 115] lab.data.toList ++ [62]
def shutL : List UInt8 := [60, 47, 115, 112, 97, 110, 62]
theorem chain_s (c : Cfg) (lab text : ByteArray) : ∀ m d s, nodesS c (chainI lab text d m) s = s.put (repL m (openL lab) ++ escL text.data.toList ++ repL m shutL)
  | 0, d, s => by simp [chainI, wordI, nodesS_cons, nodesS_nil, inside, nodeS, nodeL, HSt.put, repL]
  | m + 1, d, s => by
    have hall : inside (spanI lab d).depth (chainI lab text (d + 1) m) = (chainI lab text (d + 1) m).length := inside_all _ _ (fun x hx => by have := chain_deep lab text m (d + 1) x hx; show (d : Int) < x.depth; omega)
    rw [chainI, nodesS_cons, hall, List.take_length, List.drop_length, nodesS_nil, chain_s c lab text m (d + 1)]
    have e1 : nodeS c (spanI lab d) s = (openL lab, shutL, s) := by simp [nodeS, nodeL, spanI, openL, shutL]
    rw [e1, repL_succ, repL_snoc m shutL]
    simp [HSt.put, List.append_assoc]

set_option maxHeartbeats 4000000 in
set_option maxRecDepth 100000 in
theorem htmlSpans_walk (lab text : ByteArray) (n : Int) (W : World) (hT : Tabs W) (_ : lab.size ≤ 9223372036854775807) (_ : text.size ≤ 9223372036854775807) (hn : -9223372036854775808 ≤ n ∧ n ≤ 9223372036854775807) :
    Calls Tryz.prog 12 #[.string lab, .string text, .int .i64 n] W fun e w' => e = .returned (.bool true) ∧ Below W.heap.size W w' := by
  have h0 := Below.refl W.heap.size W
  by_cases h1 : lab.size ≤ 40
  · by_cases h2 : text.size ≤ 40
    · by_cases h3 : 0 ≤ n
      · by_cases h4 : n ≤ 6
        · obtain ⟨m, rfl⟩ : ∃ m : Nat, n = m := ⟨n.toNat, by omega⟩
          obtain ⟨i0, hi, hz0, hz1, hz2⟩ := info_parts info_inl
          have HI0 : Hid (Tryz.prog.info? 45 = some i0 ∧ i0.zero = some (.agg #[.int .i64 0, .int .i64 0, .string ⟨#[]⟩, .string ⟨#[]⟩, .string ⟨#[]⟩]) ∧ i0.size = 5 ∧ i0.bytes = 64) := ⟨hi, hz0, hz1, hz2⟩
          obtain ⟨E, hE⟩ := ex_escE text
          obtain ⟨A, hA⟩ : ∃ E : ByteArray, E.data.toList = attrL [99, 108, 97, 115, 115] lab.data.toList := ⟨_, ba_mk _⟩
          have hEs := esc_size hE
          have hAs : A.size ≤ 5 + 6 * lab.size + 4 := by rw [ba_size, hA, ba_size]; exact attrL_length _ _
          have HE := Lib.hid hE
          have HA := Lib.hid hA
          have hO : (openL lab).length ≤ 300 := by
            have := hAs
            rw [ba_size, hA] at this
            unfold openL
            simp only [List.length_append, List.length_cons, List.length_nil] at this ⊢
            omega
          clear hE hA hi hz0 hz1 hz2
          go_enter Tryz.func12, Tryz.ntmps12
          go_wp2_with fail
          refine (alive_any h0 hT).mono ?_
          rintro e w1 ⟨rfl, hb1⟩
          go_wp2_with fail
          go_loopw [7, 8, 9, 10] (fun vl vw ve vk wr => ∃ (k : Nat) (X Y : ByteArray), k ≤ m ∧ vk = .int .i64 k ∧ vw = .string X ∧ ve = .string Y ∧ Hid (X.data.toList = repL k (openL lab)) ∧ Hid (Y.data.toList = repL k shutL) ∧ Hid (Below W.heap.size W wr) ∧ Hid (wr.ownsRow W.heap.size 45 5 vl k (((List.range k).map fun i => spanI lab (0 + i)).flatMap Inl.cells))) (fun _ _ _ vk _ => m - (RowKit.intOf vk).toNat)
          case atStart => exact ⟨0, ⟨#[]⟩, ⟨#[]⟩, Nat.zero_le _, rfl, rfl, rfl, rfl, rfl, hb1, row_nil _ _ _ _⟩
          case round =>
            obtain ⟨k, X, Y, hk, rfl, rfl, rfl, HX, HY, HB, HR⟩ := hrel
            obtain ⟨al, cl, hvl⟩ := row_slice HR.out
            subst hvl
            have hXs : X.size ≤ 2000 := by
              have h9 : k * (openL lab).length ≤ 6 * 300 := Nat.mul_le_mul (by omega) hO
              rw [ba_size, HX.out, repL_length]; omega
            have hYs : Y.size ≤ 100 := by
              have h9 : k * shutL.length ≤ 6 * 7 := Nat.mul_le_mul (by omega) (by decide)
              rw [ba_size, HY.out, repL_length]; omega
            have hm1 : k + 1 ≤ maxLen := by unfold maxLen; omega
            have hm2 : (k + 1) * 64 ≤ 140737488355328 := by omega
            by_cases hlt : k < m
            · have hba : W.heap.size ≤ (wr.alloc (.cells #[.int .i64 12, .int .i64 k, .string lab, .string ⟨#[]⟩, .string ⟨#[]⟩] 45)).heap.size := by have := HB.out.size; simp; omega
              go_wp2_with (first
                | (at_builtin; go_loud (refine wpList_append_any rfl (.tmp 40) (.tmp 44) 25 rfl W.heap.size 45 i0 (.agg #[.int .i64 0, .int .i64 0, .string ⟨#[]⟩, .string ⟨#[]⟩, .string ⟨#[]⟩]) 5 64 Tryz.underlying25 HI0.out.1 HI0.out.2.1 HI0.out.2.2.1 HI0.out.2.2.2 rfl (by decide) (.slice al k cl) k (((List.range k).map fun i => spanI lab (0 + i)).flatMap Inl.cells) rfl (HR.out.alloc _) (some ⟨wr.heap.size, 0, none⟩) 1 1 [.int .i64 12, .int .i64 k, .string lab, .string ⟨#[]⟩, .string ⟨#[]⟩] rfl rfl (fun h => by cases h) (news_lit rfl _ _) (fun u hu => by simp at hu; rcases hu with rfl | rfl | rfl | rfl | rfl <;> rfl) hm1 hm2 hba ?_); intro v' w4 hown4 hgr4 _; have H4 := Lib.hid hown4; have hB4 := (HB.out.alloc HB.out.size (.cells #[.int .i64 12, .int .i64 k, .string lab, .string ⟨#[]⟩, .string ⟨#[]⟩] 45)).grown hgr4 hba (fun g hg => (HR.out.lt g hg).1); have HB4 := Lib.hid hB4; clear hown4 hgr4 hB4)
                | (go_at_call 22; refine (Attr_lit (w0 := w4) (N := ⟨#[99, 108, 97, 115, 115]⟩) (X := lab) (Y := A) HA.out.symm (by decide) (by omega) (Below.refl _ _)).mono ?_; rintro e w5 ⟨rfl, hb5⟩; have HB45 := Lib.hid hb5; have HB5 := Lib.hid (HB4.out.trans (hb5.mono HB4.out.size)); clear hb5))
              go_roundw
              case rel =>
                refine ⟨k + 1, X ++ (⟨#[60, 115, 112, 97, 110]⟩ ++ A ++ ⟨#[62]⟩), Y ++ ⟨#[60, 47, 115, 112, 97, 110, 62]⟩, by omega, by go_num, rfl, rfl, ?_, ?_, HB5, ?_⟩
                · show (X ++ (⟨#[60, 115, 112, 97, 110]⟩ ++ A ++ ⟨#[62]⟩) : ByteArray).data.toList = _
                  rw [ba_append, ba_append, ba_append, HA.out, HX.out, repL_snoc]; rfl
                · show (Y ++ ⟨#[60, 47, 115, 112, 97, 110, 62]⟩ : ByteArray).data.toList = _
                  rw [ba_append, HY.out, repL_snoc]; rfl
                · have h9 := row_kept H4.out (fun g hg => HB45.out.block g (H4.out.lt g hg).2)
                  show World.ownsRow _ _ _ _ _ _ _
                  rw [List.range_succ, List.map_append, List.flatMap_append]
                  have e9 : ([k].map fun i => spanI lab (0 + i)).flatMap Inl.cells = [.int .i64 12, .int .i64 k, .string lab, .string ⟨#[]⟩, .string ⟨#[]⟩] := by simp [spanI, Inl.cells]
                  rw [e9]
                  exact h9
              case measure => simp only [RowKit.intOf]; omega
            · obtain rfl : k = m := by omega
              have hnn : ¬ ((k : Int) < k) := by omega
              have hba : W.heap.size ≤ (wr.alloc (.cells #[.int .i64 1, .int .i64 k, .string text, .string ⟨#[]⟩, .string ⟨#[]⟩] 45)).heap.size := by have := HB.out.size; simp; omega
              go_wp2_with (at_builtin; go_loud (refine wpList_append_any rfl (.tmp 54) (.tmp 58) 25 rfl W.heap.size 45 i0 (.agg #[.int .i64 0, .int .i64 0, .string ⟨#[]⟩, .string ⟨#[]⟩, .string ⟨#[]⟩]) 5 64 Tryz.underlying25 HI0.out.1 HI0.out.2.1 HI0.out.2.2.1 HI0.out.2.2.2 rfl (by decide) (.slice al k cl) k (((List.range k).map fun i => spanI lab (0 + i)).flatMap Inl.cells) rfl (HR.out.alloc _) (some ⟨wr.heap.size, 0, none⟩) 1 1 [.int .i64 1, .int .i64 k, .string text, .string ⟨#[]⟩, .string ⟨#[]⟩] rfl rfl (fun h => by cases h) (news_lit rfl _ _) (fun u hu => by simp at hu; rcases hu with rfl | rfl | rfl | rfl | rfl <;> rfl) hm1 hm2 hba ?_); intro v' w4 hown4 hgr4 _; have H4 := Lib.hid hown4; have hB4 := (HB.out.alloc HB.out.size (.cells #[.int .i64 1, .int .i64 k, .string text, .string ⟨#[]⟩, .string ⟨#[]⟩] 45)).grown hgr4 hba (fun g hg => (HR.out.lt g hg).1); have HB4 := Lib.hid hB4; clear hown4 hgr4 hB4)
              have hch : ((List.range k).map fun i => spanI lab (0 + i)) ++ [wordI text (0 + k)] = chainI lab text 0 k := (chain_eq lab text k 0).symm
              have hclen : (chainI lab text 0 k).length = k + 1 := by rw [← hch]; simp
              have hrow : w4.ownsRow W.heap.size 45 5 v' (chainI lab text 0 k).length ((chainI lab text 0 k).flatMap Inl.cells) := by
                rw [hclen, ← hch, List.flatMap_append]
                have e9 : [wordI text (0 + k)].flatMap Inl.cells = [.int .i64 1, .int .i64 k, .string text, .string ⟨#[]⟩, .string ⟨#[]⟩] := by simp [wordI, Inl.cells]
                rw [e9]
                exact H4.out
              have hsm : ∀ x ∈ chainI lab text 0 k, x.Small := by
                rw [← hch]
                intro x hx
                rcases List.mem_append.1 hx with hx | hx
                · obtain ⟨i, -, rfl⟩ := List.mem_map.1 hx
                  exact small_node (by omega) (by decide) (by decide)
                · rw [List.mem_singleton.1 hx]
                  exact small_node (by omega) (by decide) (by decide)
              have cI := row_inline (X := X ++ E ++ Y) HB4.out hT false false false false 0 (secs_nil w4) small_nil hrow (by omega) hsm (chain_s _ lab text k 0 _) (by rw [ba_append, ba_append, HX.out, HE.out, HY.out]; simp [HSt.put])
              have hT9 := hT
              clear hch hclen hrow hsm
              go_wp2_with fail
              refine cI.mono ?_
              rintro e w6 ⟨a6, c6, F6, rfl, P6⟩
              have hb6 := P6.below
              clear P6 cI
              go_wp2_with (go_at_call 18; refine (Esc_lit (w0 := W) (X := text) (Y := E) HE.out.symm (by omega) (by assumption)).mono ?_; rintro e w7 ⟨rfl, hb7⟩)
              go_ret
              exact ⟨by first | rfl | exact ret_bool (by simp), by assumption⟩
        · go_enter Tryz.func12, Tryz.ntmps12
          go_wp2_with (go_at_call 14; refine (alive_any h0 hT).mono ?_; rintro e w1 ⟨rfl, hb1⟩)
          go_ret
          exact ⟨rfl, hb1⟩
      · go_enter Tryz.func12, Tryz.ntmps12
        go_wp2_with (go_at_call 14; refine (alive_any h0 hT).mono ?_; rintro e w1 ⟨rfl, hb1⟩)
        go_ret
        exact ⟨rfl, hb1⟩
    · go_enter Tryz.func12, Tryz.ntmps12
      go_wp2_with (go_at_call 14; refine (alive_any h0 hT).mono ?_; rintro e w1 ⟨rfl, hb1⟩)
      go_ret
      exact ⟨rfl, hb1⟩
  · go_enter Tryz.func12, Tryz.ntmps12
    go_wp2_with (go_at_call 14; refine (alive_any h0 hT).mono ?_; rintro e w1 ⟨rfl, hb1⟩)
    go_ret
    exact ⟨rfl, hb1⟩
end Go.Proofs.YtpabackkapgkpaaGreatDoor
