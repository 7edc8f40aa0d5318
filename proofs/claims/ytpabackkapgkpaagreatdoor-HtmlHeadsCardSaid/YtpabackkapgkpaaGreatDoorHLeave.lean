/- leave, nearest, tight, para: the walks. -/
import Derived.Test.YtpabackkapgkpaaGreatDoorHInline
import Derived.Test.YtpabackkapgkpaaGreatDoorPBlocks
import Derived.StillTailTactics
namespace Go.Proofs.YtpabackkapgkpaaGreatDoor
open Go.RowKit Go.Lib

theorem row_cut {w : World} {base : Nat} {e : TypeId} {sz n m cap : Nat} {a : Option Addr} {xs : List Value} (h : w.ownsRow base e sz (.slice a n cap) n xs) (hm : m ≤ n) : w.ownsRow base e sz (.slice a m cap) m (xs.take (m * sz)) := by
  obtain ⟨h1, h2⟩ := h
  have hle : m * sz ≤ n * sz := Nat.mul_le_mul_right sz hm
  refine ⟨by rw [List.length_take]; omega, ?_⟩
  rcases h2 with ⟨hv, rfl⟩ | ⟨g, cap', cur, hv, hb, hg, hnc, hcm, hcs, ht⟩
  · cases hv
    obtain rfl : m = 0 := by omega
    exact .inl ⟨rfl, rfl⟩
  · cases hv
    exact .inr ⟨g, cap, cur, rfl, hb, hg, by omega, hcm, hcs, by rw [← ht, List.take_take, Nat.min_eq_left hle]⟩
theorem stk_take (p : Blk × ByteArray) (S : List (Blk × ByteArray)) : (stkCells (p :: S)).take (S.length * 7) = stkCells S := by
  rw [stkCells_cons, ← stkCells_len S, List.take_left]
theorem stk_top {w : World} {base : Nat} {e : TypeId} {cap : Nat} {a : Option Addr} {p : Blk × ByteArray} {S : List (Blk × ByteArray)} (h : w.ownsRow base e 7 (.slice a (S.length + 1) cap) (S.length + 1) (stkCells (p :: S))) :
    ∃ g, a = some ⟨g, 0, none⟩ ∧ g < w.heap.size ∧ S.length + 1 ≤ cap ∧ cap ≤ 9223372036854775807 ∧ w.ownsRow base e 7 (.slice a S.length cap) S.length (stkCells S) ∧ ∀ j u, (p.1.cells ++ [Value.string p.2])[j]? = some u → w.cell? ⟨g, S.length * 7 + j, none⟩ = some u := by
  have hc := row_cut h (m := S.length) (by omega)
  rw [stk_take] at hc
  have h2 := h
  obtain ⟨h1, h9⟩ := h
  rcases h9 with ⟨hv, h0⟩ | ⟨g, cap', cur, hv, hb, hg, hnc, hcm, -, -⟩
  · cases h0
  · cases hv
    refine ⟨g, rfl, (h2.lt g rfl).2, hnc, hcm, hc, fun j u hu => ?_⟩
    have hj : j < 7 := by
      have := (List.getElem?_eq_some_iff.1 hu).1
      simpa [Blk.cells] using this
    rw [h2.cellAt (S.length * 7 + j) (by omega), stkCells_cons, List.getElem?_append_right (by rw [stkCells_len]; omega), stkCells_len, Nat.add_sub_cancel_left]
    exact hu

theorem leaveF_stk (d : Int) : ∀ (S X : List (Blk × ByteArray)) (s : HSt), leaveF d S { s with stk := X } = leaveF d S s
  | [], X, s => rfl
  | p :: S, X, s => by
    unfold leaveF
    split
    · exact leaveF_stk d S X (s.put p.2.data.toList)
    · rfl

/-- what stands at the head of each round -/
structure LRel (w0 w1 : World) (Fn : Nat → Prop) (kq : Nat → Option Obj) (b : Nat) (wr : Value) (nb n : Nat) (d : Int) (s0 s : HSt) (v : Value) (w : World) : Prop where
  st : PSt w0 w1 Fn ⟨v, kq⟩ b wr nb s w
  fits : BFits n s
  eq : leaveS d s = leaveS d s0

theorem PSt.cut {w0 w1 : World} {Fn : Nat → Prop} {kq : Nat → Option Obj} {a : Option Addr} {cap b nb : Nat} {wr : Value} {s : HSt} {w : World} {p : Blk × ByteArray} {S : List (Blk × ByteArray)} (h : PSt w0 w1 Fn ⟨.slice a (S.length + 1) cap, kq⟩ b wr nb s w) (hS : s.stk = p :: S) : PSt w0 w1 Fn ⟨.slice a S.length cap, kq⟩ b wr nb { s with stk := S } w := by
  have hr : w.ownsRow w1.heap.size 92 7 (.slice a (S.length + 1) cap) s.stk.length (stkCells s.stk) := h.stk
  rw [hS] at hr
  obtain ⟨g, -, -, -, -, hc, -⟩ := stk_top hr
  exact ⟨h.below, h.le, h.frame, h.paper, h.notes, hc, h.ctr⟩
theorem LRel.pop {w0 w1 : World} {Fn : Nat → Prop} {kq : Nat → Option Obj} {b : Nat} {wr : Value} {nb n : Nat} {d : Int} {s0 s : HSt} {v : Value} {w w3 : World} (h : LRel w0 w1 Fn kq b wr nb n d s0 s v w) {p : Blk × ByteArray} {S : List (Blk × ByteArray)} (hS : s.stk = p :: S) (hd : d ≤ p.1.depth) {a : Option Addr} {cap : Nat}
    (h3 : PSt w0 w1 Fn ⟨.slice a (S.length + 1) cap, kq⟩ b wr nb (s.put p.2.data.toList) w3) : LRel w0 w1 Fn kq b wr nb n d s0 { s.put p.2.data.toList with stk := S } (.slice a S.length cap) w3 := by
  have hf := h.fits
  have he := hf.ends p (by rw [hS]; simp)
  have ho := hf.out
  have hdp := hf.deep
  rw [hS, List.length_cons] at ho hdp
  rw [ba_size] at he
  refine ⟨h3.cut hS, ⟨fun q hq => hf.ends q (by rw [hS]; exact List.mem_cons_of_mem _ hq), fun q hq => hf.smalls q (by rw [hS]; exact List.mem_cons_of_mem _ hq), ?_, by show S.length ≤ n; omega⟩, ?_⟩
  · show (s.out ++ p.2.data.toList).length + 100 * S.length ≤ _
    rw [List.length_append]; omega
  · rw [← h.eq]
    show leaveF d S _ = leaveF d s.stk s
    rw [leaveF_stk d S S, hS, leaveF, if_pos hd]

set_option maxHeartbeats 2000000 in
set_option maxRecDepth 100000 in
theorem leave_any {w0 w1 : World} {Fn : Nat → Prop} {v9 : Value} {kq : Nat → Option Obj} {b nb n : Nat} {wv : Value} {s : HSt} {w : World} {d : Int} (h : PSt w0 w1 Fn ⟨v9, kq⟩ b wv nb s w) (hf : BFits n s) (hn : n ≤ 1000) :
    Calls Tryz.prog 35 #[.pointer (some ⟨b, 0, none⟩), v9, .int .i64 d] w fun e w' => ∃ v', e = .returned v' ∧ PSt w0 w1 Fn ⟨v', kq⟩ b wv nb (leaveS d s) w' := by
  have R0 : Hid (LRel w0 w1 Fn kq b wv nb n d s s v9 w) := ⟨h, hf, rfl⟩
  obtain ⟨a0, cap0, rfl⟩ : ∃ a cap, v9 = .slice a s.stk.length cap := row_slice h.stk
  clear h hf
  go_enter Tryz.func35, Tryz.ntmps35
  go_wp2_with fail
  go_loopw [1] (fun vl wr' => ∃ s', Hid (LRel w0 w1 Fn kq b wv nb n d s s' vl wr')) (fun vl _ => lenOf vl)
  case atStart => exact ⟨_, R0⟩
  case round =>
    clear R0
    obtain ⟨s', HR⟩ := hrel
    obtain ⟨a, cap, hv9⟩ := row_slice HR.out.st.stk
    dsimp only at hv9
    subst hv9
    have hB := HR.out.fits.out
    have hD := HR.out.fits.deep
    cases hS : s'.stk with
    | nil =>
      have e0 : (s'.stk.length : Int) = 0 := by rw [hS]; rfl
      have HE := Lib.hid (show leaveS d s = s' by
        rw [← HR.out.eq]; unfold leaveS; rw [hS]; unfold leaveF; rw [← hS])
      replace hS := Lib.hid hS
      go_wp2_with fail
      go_ret
      exact ⟨_, rfl, by have h9 := HR.out.st; rw [hS.out] at h9; rw [HE.out]; exact h9⟩
    | cons p S =>
      have hrow := HR.out.st.stk
      rw [hS] at hrow
      simp only [List.length_cons] at hrow
      obtain ⟨g, rfl, hg, hc1, hc2, hrest, hcell⟩ := stk_top hrow
      have k1 := hcell 1 _ rfl
      have k6 := hcell 6 (.string p.2) rfl
      have e1 : IntKind.i64.wrap (((S.length : Int) + 1) - 1) = (S.length : Int) := by rw [IntWalk.i64_in _ (by omega)]; omega
      have hl : s'.stk.length = S.length + 1 := by rw [hS]; rfl
      have hSl : S.length ≤ 1000 := by omega
      rw [List.length_cons]
      cases hdd : decide (d ≤ p.1.depth) with
      | true =>
        have he2 := HR.out.fits.ends p (by rw [hS]; simp)
        rw [ba_size] at he2
        have hle : s'.out.length + p.2.data.toList.length ≤ 140737488355328 := by omega
        have P2 := Lib.hid (HR.out.st.on (Below.drew (Below.refl _ wr)))
        have cP := put_any (X := p.2) P2.out rfl hle
        have k6d : wr.drew.cell? ⟨g, S.length * 7 + 6, none⟩ = some (.string p.2) := k6
        have NX := Lib.hid (fun (w3 : World) (h3 : PSt w0 w1 Fn ⟨.slice (some ⟨g, 0, none⟩) s'.stk.length cap, kq⟩ b wv nb (s'.put p.2.data.toList) w3) => LRel.pop HR.out (p := p) (S := S) hS (by simpa using hdd) (by rw [hl] at h3; exact h3))
        replace hS := Lib.hid hS
        have e1' : IntKind.i64.wrap (S.length : Int) = (S.length : Int) := IntWalk.i64_in _ (by omega)
        have hq0 : (0 : Int) ≤ (S.length : Int) := by omega
        have hq1 : (S.length : Int) < (S.length : Int) + 1 := by omega
        clear hrow hrest hcell
        go_wp2_with fail
        refine wp_region_still_tail 10 (by kernel_rfl) (by kernel_rfl) ?_
        simp only [List.take_succ_cons, List.take_zero, List.drop_succ_cons, List.drop_zero]
        repeat still_step
        refine wpStill_nil ?_
        change wpList _ _ _ _ _ wr.drew
        generalize hwd : wr.drew = wd at *
        replace hwd := Lib.hid hwd
        go_wp2_with fail
        refine cP.mono ?_
        rintro e w3 ⟨rfl, h3⟩
        have H3 := Lib.hid (NX.out w3 h3)
        clear h3
        all_goals
          go_wp2_with fail
          go_roundw
          case rel => exact ⟨_, H3⟩
          case measure => simp only [lenOf]; omega
      | false =>
        have HE := Lib.hid (show leaveS d s = s' by
          rw [← HR.out.eq]; unfold leaveS; rw [hS]; unfold leaveF; rw [if_neg (by simpa using hdd), ← hS])
        go_wp2_with fail
        go_ret
        exact ⟨_, rfl, by have h9 := HR.out.st; rw [hl] at h9; rw [HE.out]; exact h9⟩
end Go.Proofs.YtpabackkapgkpaaGreatDoor
