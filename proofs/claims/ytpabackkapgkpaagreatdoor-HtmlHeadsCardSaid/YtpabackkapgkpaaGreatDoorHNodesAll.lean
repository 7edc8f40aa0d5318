/- (*html.paper).nodes: the walk, by its own contract at shorter lists. -/
import Derived.Test.YtpabackkapgkpaaGreatDoorHNodes
namespace Go.Proofs.YtpabackkapgkpaaGreatDoor
open Go.RowKit Go.Lib

def lenOf : Value → Nat
  | .slice _ n _ => n
  | _ => 0

/-- what stands at the head of each round -/
structure NRel (w0 w1 : World) (Fn : Nat → Prop) (v9 : Held) (b wb nb : Nat) (c : Cfg) (l : List Inl) (s : HSt) (l' : List Inl) (s' : HSt) (vl : Value) (wr : World) : Prop where
  st : PSt w0 w1 Fn v9 b (.pointer (some ⟨wb, 0, none⟩)) nb s' wr
  row : InlsIn w1 Fn vl l'
  len : l'.length ≤ l.length
  small : ∀ x ∈ l', x.Small
  fits : Fits l'.length s'
  room : s'.out.length + 20000000 * l'.length ≤ 100000000000000
  eq : nodesS c l' s' = nodesS c l s

set_option maxHeartbeats 4000000 in
set_option maxRecDepth 100000 in
theorem nodes_any {w0 w1 : World} {Fn : Nat → Prop} {v9 : Held} {b wb nb : Nat} {c : Cfg} (hw : WriterAt w1 Fn c wb nb) (hT : Tabs w0) (hc : c.Small) (m : Nat) :
    ∀ (v : Value) (l : List Inl) (s : HSt) (w : World), l.length = m → PSt w0 w1 Fn v9 b (.pointer (some ⟨wb, 0, none⟩)) nb s w → InlsIn w1 Fn v l → (∀ x ∈ l, x.Small) → Fits l.length s → s.out.length + 20000000 * l.length ≤ 100000000000000 →
    Calls Tryz.prog 26 #[.pointer (some ⟨b, 0, none⟩), v] w fun e w' => e = .returned (.tuple #[]) ∧ PSt w0 w1 Fn v9 b (.pointer (some ⟨wb, 0, none⟩)) nb (nodesS c l s) w' := by
  induction m using Nat.strongRecOn with
  | ind m ih =>
  intro v l s w hlm hst hv hsm hfit hroom
  have IH := Lib.hid ih
  have HW := Lib.hid hw
  have HC := Lib.hid hc
  have R0 : Hid (NRel w0 w1 Fn v9 b wb nb c l s l s v w) := ⟨hst, hv, Nat.le_refl _, hsm, hfit, hroom, rfl⟩
  obtain ⟨a, cap, rfl, hcl, hcm, -⟩ := hv
  clear ih hw hc hst hsm hfit hroom
  go_enter Tryz.func26, Tryz.ntmps26
  go_wp2_with fail
  go_loopw [1] (fun vl wr => ∃ l' s', Hid (NRel w0 w1 Fn v9 b wb nb c l s l' s' vl wr)) (fun vl _ => lenOf vl)
  case atStart => exact ⟨_, _, R0⟩
  case round =>
    clear R0
    obtain ⟨l', s', HR⟩ := hrel
    obtain ⟨a', cap', rfl, hcl', hcm', hrow⟩ := HR.out.row
    cases l' with
    | nil =>
      go_wp2_with fail
      go_end0
      exact ⟨rfl, by have h := HR.out.st; have e := HR.out.eq; rw [nodesS_nil] at e; rwa [e] at h⟩
    | cons x r =>
      rcases hrow with hrow | ⟨g, o, rfl, hg, hGg, hat⟩
      · cases hrow
      have hrl := HR.out.len
      have hx := HR.out.small x (by simp)
      have hat0 := hat 0 (by simp)
      have hfr := HR.out.st.frame.block g hg hGg
      have hk : ∀ j, wr.cell? ⟨g, j, none⟩ = w1.cell? ⟨g, j, none⟩ := fun j => by simp [World.cell?, hfr]
      have k0 := (hk _).trans hat0.c0
      have k1 := (hk _).trans hat0.c1
      have k2 := (hk _).trans hat0.c2
      have k3 := (hk _).trans hat0.c3
      have k4 := (hk _).trans hat0.c4
      simp only [Nat.zero_mul, Nat.add_zero, List.getElem_cons_zero] at k0 k1 k2 k3 k4
      have hin := inside_le x.depth r
      have PT := Lib.hid (fun (i n cap9 : Nat) (a9 : Option Addr) => (HR.out.row.part (by simp) (i := i) (n := n) (cap' := cap9) (a' := a9)))
      simp only [List.length_cons] at hcl' hrl hcm'
      have hri : ((r.length + 1 : Nat) : Int) ≤ cap' := by omega
      clear hat hat0 hfr hk
      obtain ⟨n, hn⟩ : ∃ n, inside x.depth r = n := ⟨_, rfl⟩
      rw [hn] at hin
      replace hn := Lib.hid hn
      have hwg := HR.out.st.frame.size
      go_upto_region 2 with fail
      obtain ⟨wx, hwx⟩ : ∃ wx, wx = wr.alloc (.cells #[.int .i64 x.kind, .int .i64 x.depth, .string x.text, .string x.url, .string x.title] 45) := ⟨_, rfl⟩
      have hBx : Below wr.heap.size wr wx := by rw [hwx]; exact (Below.refl _ wr).alloc (Nat.le_refl _) _
      have HXS := Lib.hid (HR.out.st.on hBx)
      have q := heap_alloc_new wr (.cells #[.int .i64 x.kind, .int .i64 x.depth, .string x.text, .string x.url, .string x.title] 45)
      rw [← hwx] at q
      have q0 : wx.cell? ⟨wr.heap.size, 0, none⟩ = some (.int .i64 x.kind) := by rw [Lib.cell_of_heap q]; rfl
      have q1 : wx.cell? ⟨wr.heap.size, 1, none⟩ = some (.int .i64 x.depth) := by rw [Lib.cell_of_heap q]; rfl
      have q2 : wx.cell? ⟨wr.heap.size, 2, none⟩ = some (.string x.text) := by rw [Lib.cell_of_heap q]; rfl
      have q3 : wx.cell? ⟨wr.heap.size, 3, none⟩ = some (.string x.url) := by rw [Lib.cell_of_heap q]; rfl
      have q4 : wx.cell? ⟨wr.heap.size, 4, none⟩ = some (.string x.title) := by rw [Lib.cell_of_heap q]; rfl
      rw [← hwx]
      replace hwx := Lib.hid hwx
      have Q1 := cells_on q1
      clear k0 k1 k2 k3 k4 q
      refine wp_region_quiet_below (by kernel_rfl) (by kernel_rfl) ?_
      obtain ⟨a1, ha1⟩ : ∃ a1 : Option Addr, (if cap' = 1 then some (⟨g, o, none⟩ : Addr) else some ⟨g, o + 5, none⟩) = a1 := ⟨_, rfl⟩
      have HA1 := Lib.hid ha1
      have e1 : IntKind.i64.wrap (1 + (n : Int)) = 1 + (n : Int) := IntWalk.i64_in _ (by omega)
      have V1 : InlsIn w1 Fn (.slice a1 r.length (cap' - 1)) r := by
        have h9 := PT.out 1 r.length (cap' - 1) a1 (by simp; omega) (by omega) (by omega) (fun h => by rw [← ha1, if_neg (by omega)])
        simpa using h9
      have cI : ∀ d os, Calls Tryz.prog 46 #[.slice a1 r.length (cap' - 1), .int .i64 x.depth] (Sort.grow (redrawn wx d) os) fun e w'' => e = .returned (.int .i64 n) ∧ ∃ p : Regrown, w'' = Sort.grow (redrawn wx p.d) p.os := fun d os => Calls.regrown_of (by
        have h9 := inside_any (w := Sort.grow (redrawn wx d) os) (G := Fn) _ r x.depth ((HXS.out.on (below_regrown wx d os)).inls V1)
        rw [hn.out] at h9
        exact h9)
      repeat (first | quiet_step (exact cI _ _) | (refine wpQuiet_step (fun K hK => ?_); go_simp; apply Exists.intro; refine ⟨fun _ => ?_, hK _ ?_⟩; (rw [if_pos (by omega)]; exact ⟨rfl, rfl⟩); clear hK K; try rw [ha1]))
      refine wpQuiet_nil ?_
      intro _ hw'
      obtain ⟨⟨dq, osq⟩, hw''⟩ := hw'
      subst hw''
      have HQ := Lib.hid (HXS.out.on (below_regrown wx dq osq))
      have q0' := cell_regrown q0 dq osq
      have q1' := cell_regrown q1 dq osq
      have q2' := cell_regrown q2 dq osq
      have q3' := cell_regrown q3 dq osq
      have q4' := cell_regrown q4 dq osq
      have hfit : Fits (r.length + 1) s' := HR.out.fits
      have cN := node_any (x := x) HQ.out HW.out hT hfit HC.out hx
      unfold Inl.val at cN
      clear q0 q1 q2 q3 q4 Q1
      go_wp2_with fail
      refine cN.mono ?_
      rintro e w2 ⟨A, B, rfl, hA, hB, h2⟩
      have hL1 := nodeS_length (N := r.length) (s := s') hx HC.out hfit
      have hF1 : Fits r.length (nodeS c x s').2.2 := Fits.node hfit hx
      have hO1 := nodeS_out c x s'
      have hrm := HR.out.room
      have hEq := HR.out.eq
      simp only [List.length_cons] at hrm
      rw [nodesS_cons, hn.out] at hEq
      have HEQ := Lib.hid hEq
      obtain ⟨p1, hp1⟩ : ∃ p, (nodeS c x s').1 = p := ⟨_, rfl⟩
      obtain ⟨p2, hp2⟩ : ∃ p, (nodeS c x s').2.1 = p := ⟨_, rfl⟩
      obtain ⟨sN, hsN⟩ : ∃ p, (nodeS c x s').2.2 = p := ⟨_, rfl⟩
      rw [hp1] at hA hL1 HEQ
      rw [hp2] at hB hL1 HEQ
      rw [hsN] at h2 hF1 hO1 HEQ
      have H2 := Lib.hid h2
      have hBh := Lib.hid hB
      have hl1 : sN.out.length + p1.length ≤ 140737488355328 := by rw [hO1]; omega
      clear h2 hB hEq cN
      go_wp2_with fail
      refine (put_any H2.out hA hl1).mono ?_
      rintro e w3 ⟨rfl, h3⟩
      have H3 := Lib.hid h3
      clear h3 hA
      go_wp2_with fail
      have ht : (r.take n).length = n := by rw [List.length_take]; omega
      have hd : (r.drop n).length = r.length - n := List.length_drop
      have hsm9 : ∀ y ∈ r, y.Small := fun y hy => HR.out.small y (by simp [hy])
      have V2 : InlsIn w1 Fn (.slice a1 n (cap' - 1)) (r.take n) := by
        have h9 := PT.out 1 n (cap' - 1) a1 (by simp; omega) (by omega) (by omega) (fun h => by rw [← ha1, if_neg (by omega)])
        simpa using h9
      have ho2 : (sN.put p1).out.length = s'.out.length + p1.length := by simp [HSt.put, hO1]
      have hf2 : Fits ((r.length - n) + (r.take n).length) (sN.put p1) := by rw [ht]; exact (hF1.put p1).less (by omega)
      have cR := IH.out n (by omega) (.slice a1 n (cap' - 1)) (r.take n) (sN.put p1) w3 ht H3.out V2 (fun y hy => hsm9 y (List.mem_of_mem_take hy)) (by rw [ht]; exact (hF1.put p1).less hin) (by rw [ht, ho2]; omega)
      obtain ⟨f2, o2⟩ := nodes_fits c HC.out n (r.length - n) (r.take n) (sN.put p1) (by omega) (fun y hy => hsm9 y (List.mem_of_mem_take hy)) hf2
      rw [ht, ho2] at o2
      obtain ⟨s2, hs2⟩ : ∃ s2, nodesS c (r.take n) (sN.put p1) = s2 := ⟨_, rfl⟩
      rw [hs2] at cR f2 o2
      have HS2 := Lib.hid hs2
      have hl2 : s2.out.length + p2.length ≤ 140737488355328 := by omega
      have hpo : (s2.put p2).out.length = s2.out.length + p2.length := by simp [HSt.put]
      clear hs2 V2
      refine cR.mono ?_
      rintro e w4 ⟨rfl, h4⟩
      have H4 := Lib.hid h4
      clear h4 cR
      go_wp2_with fail
      refine (put_any H4.out hBh.out hl2).mono ?_
      rintro e w5 ⟨rfl, h5⟩
      have H5 := Lib.hid h5
      clear h5
      go_wp2_with fail
      go_roundw
      case rel =>
        refine ⟨r.drop n, s2.put p2, H5.out, ?_, by rw [hd]; omega, fun y hy => hsm9 y (List.mem_of_mem_drop hy), by rw [hd]; exact f2.put p2, by rw [hd, hpo]; omega, ?_⟩
        · have h9 := PT.out (1 + n) (r.length - n) (cap' - (1 + n)) (if cap' = 1 + n then some ⟨g, o, none⟩ else some ⟨g, o + (1 + n) * 5, none⟩) (by simp; omega) (by omega) (by omega) (fun h => by rw [if_neg (by omega)])
          have e9 : ((x :: r).drop (1 + n)).take (r.length - n) = r.drop n := by
            rw [Nat.add_comm 1 n, List.drop_succ_cons]
            exact List.take_of_length_le (by rw [hd]; exact Nat.le_refl _)
          rw [e9] at h9
          rw [show r.length + 1 - (1 + n) = r.length - n by omega]
          exact h9
        · have := HEQ.out
          rw [HS2.out] at this
          exact this
      case measure => simp only [lenOf, List.length_cons]; omega
end Go.Proofs.YtpabackkapgkpaaGreatDoor
