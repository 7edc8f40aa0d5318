/- para: the walk. -/
import Derived.Test.YtpabackkapgkpaaGreatDoorHLeave
namespace Go.Proofs.YtpabackkapgkpaaGreatDoor
open Go.RowKit Go.Lib

theorem nodes_room {c : Cfg} (hc : c.Small) {l : List Inl} {s : HSt} (hs : ∀ x ∈ l, x.Small) (hf : Fits l.length s) : (nodesS c l s).out.length ≤ s.out.length + 20000000 * l.length :=
  (nodes_fits c hc l.length 0 l s (Nat.le_refl _) hs (by rwa [Nat.zero_add])).2

set_option maxHeartbeats 2000000 in
set_option maxRecDepth 100000 in
theorem para_any {w0 w1 : World} {Fn : Nat → Prop} {v9 : Held} {b wb nb : Nat} {c : Cfg} {s : HSt} {w : World} {v : Value} {l : List Inl} (bare : Bool) (hw : WriterAt w1 Fn c wb nb) (hT : Tabs w0) (hc : c.Small) (h : PSt w0 w1 Fn v9 b (.pointer (some ⟨wb, 0, none⟩)) nb s w) (hv : InlsIn w1 Fn v l) (hs : ∀ x ∈ l, x.Small) (hf : Fits l.length s)
    (hr : s.out.length + 20000000 * l.length + 100 ≤ 100000000000000) :
    Calls Tryz.prog 37 #[.pointer (some ⟨b, 0, none⟩), .bool bare, v] w fun e w' => e = .returned (.tuple #[]) ∧ PSt w0 w1 Fn v9 b (.pointer (some ⟨wb, 0, none⟩)) nb (paraS c bare l s) w' := by
  have HV := Lib.hid hv
  obtain ⟨va, vc, rfl, -⟩ := hv
  have cN := Lib.hid (fun s w (h : PSt w0 w1 Fn v9 b (.pointer (some ⟨wb, 0, none⟩)) nb s w) hf hr => nodes_any hw hT hc l.length _ l s w rfl h HV.out hs hf hr)
  have rm := nodes_room hc hs hf
  have rm2 := nodes_room hc (s := s.put [60, 112, 62]) hs (hf.put _)
  have ep : (s.put [60, 112, 62]).out.length = s.out.length + 3 := by simp [HSt.put]
  rw [ep] at rm2
  have H := Lib.hid h
  have HF := Lib.hid hf
  unfold paraS
  clear hw h hs hf
  cases bare with
  | true =>
    go_enter Tryz.func37, Tryz.ntmps37
    go_wp2_with fail
    refine (cN.out _ _ H.out HF.out (by omega)).mono ?_
    rintro e w2 ⟨rfl, h2⟩
    have H2 := Lib.hid h2
    clear h2
    go_wp2_with fail
    refine (putByte_any 10 H2.out (by omega)).mono ?_
    rintro e w3 ⟨rfl, h3⟩
    have H3 := Lib.hid h3
    clear h3
    go_wp2_with fail
    (try simp only [Exit.inBlock, Exit.then])
    refine bodyPost_ret (results_none rfl _ _ _) rfl ?_
    exact ⟨rfl, H3.out⟩
  | false =>
    go_enter Tryz.func37, Tryz.ntmps37
    go_wp2_with fail
    refine (put_any (X := ⟨#[60, 112, 62]⟩) (t := [60, 112, 62]) H.out rfl (by simp; omega)).mono ?_
    rintro e w2 ⟨rfl, h2⟩
    have H2 := Lib.hid h2
    clear h2
    go_wp2_with fail
    refine (cN.out _ _ H2.out (HF.out.put _) (by omega)).mono ?_
    rintro e w3 ⟨rfl, h3⟩
    have H3 := Lib.hid h3
    clear h3
    go_wp2_with fail
    refine (put_any (X := ⟨#[60, 47, 112, 62, 10]⟩) (t := [60, 47, 112, 62, 10]) H3.out rfl (by simp; omega)).mono ?_
    rintro e w4 ⟨rfl, h4⟩
    have H4 := Lib.hid h4
    clear h4
    go_wp2_with fail
    go_end0
    exact ⟨rfl, H4.out⟩
end Go.Proofs.YtpabackkapgkpaaGreatDoor
