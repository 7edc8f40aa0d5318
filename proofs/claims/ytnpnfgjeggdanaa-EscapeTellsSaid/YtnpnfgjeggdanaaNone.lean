/- EscapeNone: the plain law and the walk. -/
import Derived.Test.YtnpnfgjeggdanaaSafeLaw
namespace Go.Proofs.Ytnpnfgjeggdanaa
open Go.RowKit Go.Lib

def fine (b : UInt8) : Prop := 33 ≤ b.toNat ∧ b.toNat ≤ 126 ∧ b.toNat ≠ 60 ∧ b.toNat ≠ 62 ∧ b.toNat ≠ 34
instance (b : UInt8) : Decidable (fine b) := by unfold fine; infer_instance
theorem esc_fine_fin : ∀ n : Fin 256, 33 ≤ n.val → n.val ≤ 126 → ∀ b ∈ escByte (UInt8.ofNat n.val), fine b := by decide +kernel
theorem esc_fine (l : List UInt8) (h : ∀ b ∈ l, 33 ≤ b.toNat ∧ b.toNat ≤ 126) : ∀ b ∈ escL l, fine b := by
  intro b hb
  obtain ⟨c, hc, hcb⟩ := List.mem_flatMap.1 hb
  have h1 := h c hc
  exact esc_fine_fin ⟨c.toNat, c.toNat_lt⟩ h1.1 h1.2 b (by simpa using hcb)
theorem href_fine (l : List UInt8) : ∀ b ∈ hrefL l, fine b := by
  unfold hrefL
  split
  · exact esc_fine _ (enc_bytes l)
  · decide
theorem href_length (l : List UInt8) : (hrefL l).length ≤ 18 * l.length + 1 := by
  unfold hrefL
  split
  · have h1 := escL_length (encL l)
    have h2 := encL_length l
    omega
  · simp
theorem fine_head (l : List UInt8) (hne : l ≠ []) (h : ∀ b ∈ l, fine b) : 33 ≤ (decodeL l).1 ∧ (decodeL l).1 ≤ 126 ∧ (decodeL l).1 ≠ 60 ∧ (decodeL l).1 ≠ 62 ∧ (decodeL l).1 ≠ 34 := by
  have hg := good_head l hne
  have hw := decodeL_width l
  by_cases hr : (decodeL l).1 < 128
  · obtain ⟨b, e, hb⟩ := good_low hg hr
    have hm : b ∈ l := List.mem_of_mem_take (i := (decodeL l).2) (by rw [show l.take (decodeL l).2 = [b] from e]; exact List.mem_singleton.2 rfl)
    rw [← hb]; exact h b hm
  · have hh := good_high hg (by simpa using hr)
    cases l with
    | nil => exact absurd rfl hne
    | cons c t =>
      have hc := h c (List.mem_cons_self ..)
      have hn : 0 < (decodeL (c :: t)).2 := by omega
      have := hh c (by
        show c ∈ (c :: t).take (decodeL (c :: t)).2
        obtain ⟨m, hm⟩ : ∃ m, (decodeL (c :: t)).2 = m + 1 := ⟨_, (Nat.succ_pred_eq_of_pos hn).symm⟩
        rw [hm]; exact List.mem_cons_self ..)
      unfold fine at hc
      omega

theorem Text_as {w0 w : World} {X Y : ByteArray} (hY : Y.data.toList = escL X.data.toList) (hs : X.size ≤ 1000000) (h : Below w0.heap.size w0 w) :
    Calls Try.prog 7 #[.string X] w fun e w' => e = .returned (.string Y) ∧ Below w0.heap.size w0 w' := Esc_lit hY.symm hs h
theorem Href_as {w0 w : World} {X Y : ByteArray} (hY : Y.data.toList = hrefL X.data.toList) (hs : X.size ≤ 300000) (h : Below w0.heap.size w0 w) :
    Calls Try.prog 9 #[.string X] w fun e w' => e = .returned (.string Y) ∧ Below w0.heap.size w0 w' := Href_lit hY.symm hs h

set_option maxRecDepth 100000 in
set_option maxHeartbeats 2000000 in
theorem none_from {w0 w : World} (a b : ByteArray) (h : Below w0.heap.size w0 w) (ha : a.size ≤ 9223372036854775807) (hb : b.size ≤ 9223372036854775807) :
    Calls Try.prog 4 #[.string a, .string b] w fun e w' => e = .returned (.bool true) ∧ Below w0.heap.size w0 w' := by
  by_cases hc : a.size ≤ 200 ∧ b.size ≤ 200
  · obtain ⟨ha2, hb2⟩ := hc
    have hi1 : (a.size : Int) ≤ 200 := by omega
    have hi2 : (b.size : Int) ≤ 200 := by omega
    obtain ⟨E, hE⟩ : ∃ E : ByteArray, E.data.toList = escL a.data.toList := ⟨⟨(escL a.data.toList).toArray⟩, ba_mk _⟩
    obtain ⟨F, hF⟩ : ∃ F : ByteArray, F.data.toList = escL b.data.toList := ⟨⟨(escL b.data.toList).toArray⟩, ba_mk _⟩
    obtain ⟨H, hH⟩ : ∃ H : ByteArray, H.data.toList = hrefL a.data.toList := ⟨⟨(hrefL a.data.toList).toArray⟩, ba_mk _⟩
    have hEF : (E ++ F).data.toList = escL (a ++ b).data.toList := by rw [ba_append, ba_append, hE, hF, escL_append]
    have hES : E.size ≤ 1200 := by have := escL_length a.data.toList; rw [← hE, ← ba_size, ← ba_size] at this; omega
    have hFS : F.size ≤ 1200 := by have := escL_length b.data.toList; rw [← hF, ← ba_size, ← ba_size] at this; omega
    have hHS : H.size ≤ 4000 := by have := href_length a.data.toList; rw [← hH, ← ba_size, ← ba_size] at this; omega
    have hAB : (a ++ b).size ≤ 1000000 := by rw [ba_size, ba_append, List.length_append, ← ba_size, ← ba_size]; omega
    have c1 : ∀ {w : World}, Below w0.heap.size w0 w → Calls Try.prog 7 #[.string a] w fun e w' => e = .returned (.string E) ∧ Below w0.heap.size w0 w' := fun {w} h => Text_as hE (by omega) h
    have c2 : ∀ {w : World}, Below w0.heap.size w0 w → Calls Try.prog 7 #[.string b] w fun e w' => e = .returned (.string F) ∧ Below w0.heap.size w0 w' := fun {w} h => Text_as hF (by omega) h
    have c3 : ∀ {w : World}, Below w0.heap.size w0 w → Calls Try.prog 7 #[.string (a ++ b)] w fun e w' => e = .returned (.string (E ++ F)) ∧ Below w0.heap.size w0 w' := fun {w} h => Text_as hEF hAB h
    have c4 : ∀ {w : World}, Below w0.heap.size w0 w → Calls Try.prog 9 #[.string a] w fun e w' => e = .returned (.string H) ∧ Below w0.heap.size w0 w' := fun {w} h => Href_as hH (by omega) h
    have hEb : ∀ c ∈ E.data.toList, c ≠ 60 ∧ c ≠ 62 ∧ c ≠ 34 ∧ c ≠ 0 := by rw [hE]; exact esc_bytes _
    have hHb : ∀ c ∈ H.data.toList, fine c := by rw [hH]; exact href_fine _
    clear hE hF hH hEF
    have hsz0 := h.size
    go_enter Try.func4, Try.ntmps4
    go_wp2_with fail
    refine (alive_from (w0 := w0) (by assumption)).mono ?_
    rintro e w1 ⟨rfl, hb1⟩
    go_wp2_with fail
    refine (c1 (by assumption)).mono ?_
    rintro e w2 ⟨rfl, hb2⟩
    go_wp2_with fail
    go_loopw [6] (fun vi wr => ∃ k : Nat, k ≤ E.size ∧ vi = .int .i64 k ∧ Below w0.heap.size w0 wr) (fun vi _ => E.size - (RowKit.intOf vi).toNat)
    case atStart => exact ⟨0, Nat.zero_le _, rfl, by assumption⟩
    case round =>
      obtain ⟨k, hk, rfl, hB⟩ := hrel
      by_cases hlt : k < E.size
      · have hq := hEb E[k] (by
          have : E[k] = E.data.toList[k]'(by rw [← ba_size]; exact hlt) := by simp [ByteArray.getElem_eq_getElem_data]
          rw [this]; exact List.getElem_mem _)
        have n1 : ((E[k].toNat : Int) == 60) = false := by have : E[k].toNat ≠ 60 := fun h => hq.1 (UInt8.toNat_inj.1 h); simp; omega
        have n2 : ((E[k].toNat : Int) == 62) = false := by have : E[k].toNat ≠ 62 := fun h => hq.2.1 (UInt8.toNat_inj.1 h); simp; omega
        have n3 : ((E[k].toNat : Int) == 34) = false := by have : E[k].toNat ≠ 34 := fun h => hq.2.2.1 (UInt8.toNat_inj.1 h); simp; omega
        have n4 : ((E[k].toNat : Int) == 0) = false := by have : E[k].toNat ≠ 0 := fun h => hq.2.2.2 (UInt8.toNat_inj.1 h); simp; omega
        clear hq
        go_wp2_with fail
        go_roundw
        case rel => exact ⟨k + 1, by omega, by go_num, hB⟩
        case measure => simp [RowKit.intOf]; omega
      · go_wp2_with fail
        refine (c4 (by assumption)).mono ?_
        rintro e w3 ⟨rfl, hb3⟩
        go_wp2_with fail
        have hsz3 := hb3.size
        go_loopw [8] (fun _ wr => ∃ pos : Nat, pos ≤ H.size ∧ wr.heap[w3.heap.size]? = some (.stringIter H pos) ∧ Below w0.heap.size w0 wr) (fun _ wr => H.size - wr.iterPos w3.heap.size)
        case atStart => exact ⟨0, Nat.zero_le _, by have := World.iter_heap w3 H 0; simpa using this, hb3.alloc hsz3 _⟩
        case round =>
          obtain ⟨pos, hps, hit, hB⟩ := hrel
          by_cases hp : pos < H.size
          · have hnx : ∀ ty, (Instr.next (.pointer (some ⟨w3.heap.size, 0, none⟩)) true ty).run Try.prog wr = _ := fun ty => Lib.run_next_any_at wr w3.heap.size H pos ty hit hp
            have hd1 := decode_le H pos
            have hit2 := Lib.iterAt_heap wr w3.heap.size H pos (pos + (Utf8.decode H pos).2) hit
            have hbw2 := Lib.below_iterAt hB (k := w3.heap.size) (by omega) H (pos + (Utf8.decode H pos).2)
            have HI := Lib.hid hit2
            have HIT := Lib.hid hit
            have hwd := decodeL_width (H.data.toList.drop pos)
            have hne : H.data.toList.drop pos ≠ [] := by
              intro hn
              have := congrArg List.length hn
              rw [List.length_drop, ← ba_size] at this
              simp at this; omega
            have hdl := decodeL_le _ hne
            rw [List.length_drop, ← ba_size] at hdl
            have hfh := fine_head _ hne (fun c hc => hHb c (List.mem_of_mem_drop hc))
            rw [decodeL_drop] at hwd hdl hfh
            clear hit2 hit hne
            generalize Utf8.decode H pos = d at *
            obtain ⟨r, n⟩ := d
            simp only at *
            obtain ⟨f1, f2, f3, f4, f5⟩ := hfh
            have n1 : ¬ ((r : Int) ≤ 32) := by omega
            have n1' : 32 < (r : Int) := by omega
            have n2 : (r : Int) < 127 := by omega
            have n3 : ((r : Int) == 60) = false := by simp; omega
            have n4 : ((r : Int) == 62) = false := by simp; omega
            have n5 : ((r : Int) == 34) = false := by simp; omega
            clear f3 f4 f5
            go_wp2_with fail
            go_roundw
            case rel => exact ⟨pos + n, by omega, HI.out, hbw2⟩
            case measure =>
              simp only [World.iterPos, HI.out, HIT.out]
              omega
          · have hnx : ∀ ty, (Instr.next (.pointer (some ⟨w3.heap.size, 0, none⟩)) true ty).run Try.prog wr = _ := fun ty => Lib.run_next_end_at wr w3.heap.size H pos ty hit hp
            have hz1 : a.size + b.size ≤ 9223372036854775807 := by omega
            have hz2 : E.size + F.size ≤ 9223372036854775807 := by omega
            go_wp2_with fail
            refine (c3 (by assumption)).mono ?_
            rintro e w4 ⟨rfl, hb4⟩
            go_wp2_with fail
            refine (c2 (by assumption)).mono ?_
            rintro e w5 ⟨rfl, hb5⟩
            go_wp2_with fail
            go_ret
            exact ⟨ret_bool (by first | rfl | simp), by assumption⟩
  · have hi : 200 < (a.size : Int) ∨ ((a.size : Int) ≤ 200 ∧ 200 < (b.size : Int)) := by omega
    rcases hi with hi | ⟨hi, hj⟩
    · go_enter Try.func4, Try.ntmps4
      go_wp2_with fail
      refine (alive_from (w0 := w0) (by assumption)).mono ?_
      rintro e w1 ⟨rfl, hb1⟩
      go_wp2_with fail
      go_ret
      exact ⟨rfl, by assumption⟩
    · go_enter Try.func4, Try.ntmps4
      go_wp2_with fail
      refine (alive_from (w0 := w0) (by assumption)).mono ?_
      rintro e w1 ⟨rfl, hb1⟩
      go_wp2_with fail
      go_ret
      exact ⟨rfl, by assumption⟩
theorem escapeNone_walk (a b : ByteArray) (W : World) (ha : a.size ≤ 9223372036854775807) (hb : b.size ≤ 9223372036854775807) :
    Calls Try.prog 4 #[.string a, .string b] W fun e w' => e = .returned (.bool true) ∧ Below W.heap.size W w' := none_from a b (Below.refl _ _) ha hb
end Go.Proofs.Ytnpnfgjeggdanaa
