/- HtmlImages: the walk. -/
import Derived.Test.YtpabackkapgkpaaGreatDoorHLaw
namespace Go.Proofs.YtpabackkapgkpaaGreatDoor
open Go.RowKit Go.Lib

theorem ex_hrefE (s : ByteArray) : ∃ E : ByteArray, E.data.toList = hrefL s.data.toList := ⟨_, ba_mk _⟩
theorem ex_attrE (n : List UInt8) (s : ByteArray) : ∃ E : ByteArray, E.data.toList = attrL n s.data.toList := ⟨_, ba_mk _⟩

set_option maxHeartbeats 4000000 in
set_option maxRecDepth 100000 in
theorem htmlImages_walk (url text title : ByteArray) (W : World) (hT : Tabs W) (_ : url.size ≤ 9223372036854775807) (_ : text.size ≤ 9223372036854775807) (_ : title.size ≤ 9223372036854775807) :
    Calls Tryz.prog 11 #[.string url, .string text, .string title] W fun e w' => e = .returned (.bool true) ∧ Below W.heap.size W w' := by
  have h0 := Below.refl W.heap.size W
  by_cases hu : url.size ≤ 60
  · by_cases ht : text.size ≤ 60
    · by_cases hi : title.size ≤ 60
      · obtain ⟨H, hH⟩ := ex_hrefE url
        obtain ⟨E, hE⟩ := ex_escE text
        obtain ⟨A, hA⟩ := ex_attrE [116, 105, 116, 108, 101] title
        have hHs : H.size ≤ 18 * url.size + 1 := by rw [ba_size, hH, ba_size]; exact hrefL_length _
        have hEs := esc_size hE
        have hAs : A.size ≤ 5 + 6 * title.size + 4 := by rw [ba_size, hA, ba_size]; exact attrL_length _ _
        have s1 : nodesS ⟨false, false, false, false, 0, []⟩ [⟨6, 0, text, url, title⟩, ⟨5, 0, ⟨#[]⟩, url, title⟩, ⟨1, 1, text, ⟨#[]⟩, ⟨#[]⟩⟩] ⟨[], [], [], [], []⟩ =
            ⟨(((((((((((((⟨#[60, 105, 109, 103, 32, 115, 114, 99, 61, 34]⟩ : ByteArray) ++ H : ByteArray) ++ ⟨#[34, 32, 97, 108, 116, 61, 34]⟩ : ByteArray) ++ E : ByteArray) ++ ⟨#[34]⟩ : ByteArray) ++ A : ByteArray) ++ ⟨#[32, 47, 62, 60, 97, 32, 104, 114, 101, 102, 61, 34]⟩ : ByteArray) ++ H : ByteArray) ++ ⟨#[34]⟩ : ByteArray) ++ A : ByteArray) ++ ⟨#[62]⟩ : ByteArray) ++ E : ByteArray) ++ ⟨#[60, 47, 97, 62]⟩ : ByteArray).data.toList, [], [], [], []⟩ := by
          simp only [ba_append, hH, hE, hA]; simp [nodesS_cons, nodesS_nil, inside, nodeS, nodeL, HSt.put]
        have HH := Lib.hid hH
        have HE := Lib.hid hE
        have HA := Lib.hid hA
        have S1 := Lib.hid s1
        clear hH hE hA s1
        go_enter Tryz.func11, Tryz.ntmps11
        go_wp2_with fail
        refine (alive_any h0 hT).mono ?_
        rintro e w1 ⟨rfl, hb1⟩
        have cI := first_inline hb1 hT false false false false 0 (secs_nil w1) small_nil [⟨6, 0, text, url, title⟩, ⟨5, 0, ⟨#[]⟩, url, title⟩, ⟨1, 1, text, ⟨#[]⟩, ⟨#[]⟩⟩] (cs := #[.int .i64 6, .int .i64 0, .string text, .string url, .string title, .int .i64 5, .int .i64 0, .string ⟨#[]⟩, .string url, .string title, .int .i64 1, .int .i64 1, .string text, .string ⟨#[]⟩, .string ⟨#[]⟩]) rfl (by simp) (by intro x hx; simp at hx; rcases hx with rfl | rfl | rfl <;> exact small_node (by first | decide | omega) (by first | decide | omega) (by first | decide | omega)) S1.out rfl
        clear hb1
        go_wp2_with fail
        refine cI.mono ?_
        rintro e w2 ⟨a2, c2, F2, rfl, P2, hs2⟩
        have hb2 := P2.below
        clear P2 cI
        go_wp2_with (first
          | (go_at_call 24; refine (Href_lit (w0 := W) (X := url) (Y := H) HH.out.symm (by omega) (by assumption)).mono ?_; rintro e w3 ⟨rfl, hb3⟩)
          | (go_at_call 18; refine (Esc_lit (w0 := W) (X := text) (Y := E) HE.out.symm (by omega) (by assumption)).mono ?_; rintro e w4 ⟨rfl, hb4⟩)
          | (go_at_call 22; refine (Attr_lit (w0 := W) (N := ⟨#[116, 105, 116, 108, 101]⟩) (X := title) (Y := A) HA.out.symm (by decide) (by omega) (by assumption)).mono ?_; rintro e w5 ⟨rfl, hb5⟩))
        go_ret
        exact ⟨by first | rfl | exact ret_bool (by simp), by assumption⟩
      · go_enter Tryz.func11, Tryz.ntmps11
        go_wp2_with (go_at_call 14; refine (alive_any h0 hT).mono ?_; rintro e w1 ⟨rfl, hb1⟩)
        go_ret
        exact ⟨rfl, hb1⟩
    · go_enter Tryz.func11, Tryz.ntmps11
      go_wp2_with (go_at_call 14; refine (alive_any h0 hT).mono ?_; rintro e w1 ⟨rfl, hb1⟩)
      go_ret
      exact ⟨rfl, hb1⟩
  · go_enter Tryz.func11, Tryz.ntmps11
    go_wp2_with (go_at_call 14; refine (alive_any h0 hT).mono ?_; rintro e w1 ⟨rfl, hb1⟩)
    go_ret
    exact ⟨rfl, hb1⟩
end Go.Proofs.YtpabackkapgkpaaGreatDoor
