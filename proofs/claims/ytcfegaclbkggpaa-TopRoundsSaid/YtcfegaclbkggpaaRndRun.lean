/-
  Running and taken: two loops over the map of the tasks, walked.
-/
import Derived.Test.YtcfegaclbkggpaaRndWalk4
namespace Go.Rnd
open Go.Own Go.RowKit Go.Proofs

section
variable {g : Gh} {K : KS} {w w' : World}

/-- The best of the tasks that have come: its block; none: the block that was made for it. -/
def RunI (g : Gh) (K : KS) (w0 : World) (B0 R : Nat) (cnt : Nat) (bb : Nat) (w : World) : Prop :=
  Turn (fun _ => False) w0 w ∧ w0.heap.size ≤ B0 ∧ B0 ≠ R ∧ w0.heap.size ≤ R ∧ (∃ v, w.heap[B0]? = some (.cells (tCells 0 ⟨0, false, []⟩ v) 60 (0, 0))) ∧
  ∃ left, RangeAt w g.mt R (tmap K.n g.tb) left cnt ∧
    ((bb = B0 ∧ ∀ i : Nat, 1 ≤ i → i ≤ K.n → left i = false → (K.ts i).wt = true) ∨
     (∃ j : Nat, 1 ≤ j ∧ j ≤ K.n ∧ bb = g.tb j ∧ (K.ts j).wt = false ∧ ∀ i : Nat, 1 ≤ i → i ≤ K.n → left i = false → (K.ts i).wt = false → (K.ts i).pri ≤ (K.ts j).pri))

theorem RunI.rep {w0 : World} {B0 R cnt bb : Nat} (h : RunI g K w0 B0 R cnt bb w) (H : Rep g K w0) : Rep g K w := H.new h.1

def RunPost (_g : Gh) (K : KS) (w0 : World) (e : Ending) (w : World) : Prop :=
  ∃ t : Nat, e = .returned (.int .i64 t) ∧ K.Best t ∧ Turn (fun _ => False) w0 w

/-- The task that the best block is: its number and priority. -/
theorem RunI.best {w0 : World} {B0 R cnt bb : Nat} (h : RunI g K w0 B0 R cnt bb w) (H : Rep g K w0) : ∃ (i : Nat) (x : TK) (v : Value), w.heap[bb]? = some (.cells (tCells i x v) 60 (0, 0)) ∧
    ((i = 0 ∧ x.pri = 0 ∧ bb = B0) ∨ (1 ≤ i ∧ i ≤ K.n ∧ x = K.ts i ∧ bb = g.tb i ∧ (K.ts i).wt = false)) := by
  have HR := h.rep H
  obtain ⟨h1, h2, h3, h4, ⟨v, h5⟩, left, h6, h7 | ⟨j, j1, j2, j3, j4, j5⟩⟩ := h
  · exact ⟨0, _, v, by rw [h7.1]; exact h5, .inl ⟨rfl, rfl, h7.1⟩⟩
  · obtain ⟨v, q, -⟩ := HR.task j j1 j2
    exact ⟨j, K.ts j, v, by rw [j3]; exact q, .inr ⟨j1, j2, rfl, j3, j4⟩⟩

/-- A task has come that is not better. -/
theorem RunI.skip {w0 w1 : World} {B0 R cnt bb k : Nat} {left : Int → Bool} (_H : Rep g K w0) (hT : Turn (fun _ => False) w0 w) (hB : w0.heap.size ≤ B0) (hne : B0 ≠ R) (hR : w0.heap.size ≤ R) (hv : ∃ v, w.heap[B0]? = some (.cells (tCells 0 ⟨0, false, []⟩ v) 60 (0, 0)))
    (hT1 : Turn (fun j => j = R) w w1) (hr : RangeAt w1 g.mt R (tmap K.n g.tb) (fun j => left j && !decide (j = (k : Int))) cnt)
    (hb : (bb = B0 ∧ ∀ i : Nat, 1 ≤ i → i ≤ K.n → left i = false ∨ i = k → (K.ts i).wt = true) ∨
     (∃ j : Nat, 1 ≤ j ∧ j ≤ K.n ∧ bb = g.tb j ∧ (K.ts j).wt = false ∧ ∀ i : Nat, 1 ≤ i → i ≤ K.n → left i = false ∨ i = k → (K.ts i).wt = false → (K.ts i).pri ≤ (K.ts j).pri)) : RunI g K w0 B0 R cnt bb w1 := by
  obtain ⟨v, hv⟩ := hv
  have hl : ∀ i : Nat, (left i && !decide ((i : Int) = (k : Int))) = false → left i = false ∨ i = k := by
    intro i hi
    simp only [Bool.and_eq_false_iff, Bool.not_eq_false', decide_eq_true_eq] at hi
    rcases hi with hi | hi
    · exact .inl hi
    · exact .inr (by omega)
  refine ⟨⟨hT1.os.trans hT.os, hT1.tape.trans hT.tape, hT1.output.trans hT.output, Nat.le_trans hT.size hT1.size, fun j hj hs => ?_⟩, hB, hne, hR, ⟨v, ?_⟩, _, hr, ?_⟩
  · rw [hT1.block j (Nat.lt_of_lt_of_le hj hT.size) (by omega)]
    exact hT.block j hj hs
  · rw [hT1.block B0 (heap_lt hv) hne]; exact hv
  · rcases hb with ⟨b1, b2⟩ | ⟨j, j1, j2, j3, j4, j5⟩
    · exact .inl ⟨b1, fun i i1 i2 i3 => b2 i i1 i2 (hl i i3)⟩
    · exact .inr ⟨j, j1, j2, j3, j4, fun i i1 i2 i3 => j5 i i1 i2 (hl i i3)⟩

theorem _root_.Go.Own.Turn.trans' {w0 w1 : World} {R : Nat} (h : Turn (fun _ => False) w0 w) (k : Turn (fun j => j = R) w w1) (hR : w0.heap.size ≤ R) : Turn (fun _ => False) w0 w1 :=
  ⟨k.os.trans h.os, k.tape.trans h.tape, k.output.trans h.output, Nat.le_trans h.size k.size, fun j hj hs => by
    rw [k.block j (Nat.lt_of_lt_of_le hj h.size) (by omega)]
    exact h.block j hj hs⟩

theorem RunI.drewN {w0 : World} {B0 R cnt bb : Nat} (h : RunI g K w0 B0 R cnt bb w) (n : Nat) : RunI g K w0 B0 R cnt bb (w.drewN n) := by
  obtain ⟨h1, h2, h3, h4, h5, left, h6, h7⟩ := h
  exact ⟨⟨h1.os, h1.tape, h1.output, h1.size, h1.block⟩, h2, h3, h4, h5, left, h6.keep rfl rfl, h7⟩

theorem run_done {w0 : World} {B0 bb i : Nat} {x : TK} {left : Int → Bool} (H : Rep g K w0) (h2 : w0.heap.size ≤ B0)
    (hb : (bb = B0 ∧ ∀ i : Nat, 1 ≤ i → i ≤ K.n → left i = false → (K.ts i).wt = true) ∨
     (∃ j : Nat, 1 ≤ j ∧ j ≤ K.n ∧ bb = g.tb j ∧ (K.ts j).wt = false ∧ ∀ i : Nat, 1 ≤ i → i ≤ K.n → left i = false → (K.ts i).wt = false → (K.ts i).pri ≤ (K.ts j).pri))
    (hx : (i = 0 ∧ x.pri = 0 ∧ bb = B0) ∨ (1 ≤ i ∧ i ≤ K.n ∧ x = K.ts i ∧ bb = g.tb i ∧ (K.ts i).wt = false)) (hl : ∀ k, left k = false) : K.Best i := by
  rcases hb with ⟨b1, b2⟩ | ⟨j, j1, j2, j3, j4, j5⟩
  · rcases hx with ⟨x1, -, -⟩ | ⟨x1, x2, -, x3, -⟩
    · exact .inl ⟨x1, fun i i1 i2 => b2 i i1 i2 (hl i)⟩
    · have := H.tlt x1 x2
      omega
  · rcases hx with ⟨-, -, x3⟩ | ⟨x1, x2, -, x3, -⟩
    · have := H.tlt j1 j2
      omega
    · have e1 := H.tt i x1 x2
      have e2 := H.tt j j1 j2
      rw [← x3, j3, e2] at e1
      have e3 : (j : Int) = (i : Int) := (Prod.mk.inj e1).2
      obtain rfl : j = i := by omega
      exact .inr ⟨j1, j2, j4, fun i i1 i2 hw => j5 i i1 i2 (hl i) hw⟩

set_option maxRecDepth 10000 in
set_option maxHeartbeats 2000000 in
theorem running_calls (h : Rep g K w) (ok : K.Ok) {kb : Nat} (hk : g.k = kb) : Calls Try.prog 8 #[pt kb] w (RunPost g K w) := by
  subst hk
  obtain ⟨mv, mvs, kq, -, -⟩ := h.kb
  obtain ⟨k0, -, -, -, -, -, -⟩ := k_cells kq
  have hkl := h.klt
  have H := Lib.hid (And.intro h ok)
  clear h kq ok
  go_enter Try.func8, Try.ntmps8
  obtain ⟨o0, ho0⟩ : ∃ o : Obj, Obj.cells (tCells 0 ⟨0, false, []⟩ (.slice none 0 0)) 60 = o := ⟨_, rfl⟩
  go_wp2_with (first
    | (at_range
       refine wpList_rangeS rfl _ rfl Try.underlying38 rfl ((H.out.1.alloc _).tm) ?_
       intro w0 cnt0 hrg0 ho
       obtain ⟨o1, ho1⟩ := ho
       have hX := Lib.hid (And.intro hrg0 ho1)
       clear hrg0 ho1)
    | go_in)
  go_frame
  have hR : (w.alloc o0).heap.size = w.heap.size + 1 := by simp
  have T1 : Turn (fun _ => False) w w0 := by
    rw [hX.out.2]
    exact ((Turn.refl (fun _ => False) w).alloc _).alloc _
  have hB0 : w0.heap[w.heap.size]? = some (.cells (tCells 0 ⟨0, false, []⟩ (.slice none 0 0)) 60 (0, 0)) := by
    rw [hX.out.2, heap_alloc_lt _ _ _ (by simp)]
    exact heap_alloc_new w _
  obtain ⟨B0, hB⟩ : ∃ B, w.heap.size = B := ⟨_, rfl⟩
  have hRR : (w.alloc o0).heap.size = B0 + 1 := by rw [hR, hB]
  have hst : RunI g K w B0 (B0 + 1) cnt0 B0 w0 := by
    refine ⟨T1, by omega, by omega, by omega, ⟨_, by rw [← hB]; exact hB0⟩, _, by rw [← hRR, ho0.symm]; exact hX.out.1, .inl ⟨rfl, fun i i1 i2 hi => ?_⟩⟩
    rw [tmap_in i1 i2] at hi
    cases hi
  have HS := Lib.hid hst
  have HE : ∀ c t, (w.alloc (.cells c t)).heap.size = B0 + 1 := fun c t => by simp [hB]
  rw [HE, hB]
  clear hX T1 hB0 hst hR hRR ho0 k0 HE hB
  go_loopg [3] (cnt0) (fun gk bv wr => ∃ bb, bv = pt bb ∧ RunI g K w B0 (B0 + 1) gk bb wr)
  case atStart => exact ⟨B0, rfl, HS.out⟩
  case round =>
    obtain ⟨bb, rfl, hI⟩ := hrel
    obtain ⟨i, x, v, hbq, hbx⟩ := hI.best H.out.1
    have HI := Lib.hid hI
    obtain ⟨h1, h2, h3, h4, h5, left, hrg, hb⟩ := hI
    have HB := Lib.hid (And.intro hb (And.intro hbx (And.intro h1 (And.intro h2 (And.intro h3 (And.intro h4 h5))))))
    obtain ⟨t0, t1, -, -, -, -, -⟩ := t_cells hbq
    clear hb hbx h1 h2 h3 h4 h5
    go_wp2_with (first
      | (at_next; refine wpList_nextS rfl _ rfl rfl hrg ?_ ?_)
      | go_in)
    · intro hc0 hl0
      have HL := Lib.hid hl0
      clear hl0 hrg
      go_wp2
      go_ret
      exact ⟨i, rfl, run_done H.out.1 HB.out.2.2.2.1 HB.out.1 HB.out.2.1 HL.out, HB.out.2.2.1⟩
    · intro k v1 w1 cnt1 hwk hlk hfk hrg1 hlt htn hsz hen
      obtain ⟨j, rfl, j1, j2, rfl⟩ := tmap_some hfk
      have R1 : Turn (fun _ => False) w w1 := HB.out.2.2.1.trans' htn HB.out.2.2.2.2.2.1
      obtain ⟨v2, tq, -⟩ := (H.out.1.new R1).task j j1 j2
      obtain ⟨-, s1, s2, s3, -, -, -⟩ := t_cells tq
      have hbq1 : w1.heap[bb]? = some (.cells (tCells i x v) 60 (0, 0)) := by
        rw [htn.block _ (heap_lt hbq) (fun e => by
          have hx := HB.out.2.1
          rcases hx with ⟨-, -, x3⟩ | ⟨x1, x2, -, x3, -⟩
          · omega
          · have := H.out.1.tlt x1 x2
            have := HB.out.2.2.2.1
            omega)]
        exact hbq
      obtain ⟨t0, t1, -, -, -, -, -⟩ := t_cells hbq1
      have HN := Lib.hid (And.intro hrg1 (And.intro htn hlt))
      clear hrg hrg1 htn hlt hbq hbq1 tq hfk hlk hwk
      cases hw : (K.ts j).wt with
      | true =>
        rw [hw] at s3
        have HW := Lib.hid hw
        clear hw
        go_upto_region 7 with fail
        go_quiet (fail)
        go_wp2_with fail
        go_roundg (cnt1)
        case measure => exact HN.out.2.2
        case rel =>
          refine ⟨bb, rfl, RunI.drewN ?_ _⟩
          refine RunI.skip H.out.1 HB.out.2.2.1 HB.out.2.2.2.1 HB.out.2.2.2.2.1 HB.out.2.2.2.2.2.1 HB.out.2.2.2.2.2.2 HN.out.2.1 HN.out.1 ?_
          rcases HB.out.1 with ⟨b1, b2⟩ | ⟨m, m1, m2, m3, m4, m5⟩
          · refine .inl ⟨b1, fun i i1 i2 i3 => ?_⟩
            rcases i3 with i3 | rfl
            · exact b2 i i1 i2 i3
            · exact HW.out
          · refine .inr ⟨m, m1, m2, m3, m4, fun i i1 i2 i3 hw => ?_⟩
            rcases i3 with i3 | rfl
            · exact m5 i i1 i2 i3 hw
            · rw [HW.out] at hw; cases hw
      | false =>
        rw [hw] at s3
        have HW := Lib.hid hw
        clear hw
        by_cases hp : x.pri < (K.ts j).pri
        · have q1 : decide (x.pri < (K.ts j).pri) = true := decide_eq_true hp
          have HP := Lib.hid hp
          clear hp
          go_upto_region 7 with fail
          go_quiet (fail)
          go_wp2_with fail
          go_roundg (cnt1)
          case measure => exact HN.out.2.2
          case rel =>
            refine ⟨g.tb j, rfl, RunI.drewN ?_ _⟩
            refine RunI.skip H.out.1 HB.out.2.2.1 HB.out.2.2.2.1 HB.out.2.2.2.2.1 HB.out.2.2.2.2.2.1 HB.out.2.2.2.2.2.2 HN.out.2.1 HN.out.1 (.inr ⟨j, j1, j2, rfl, HW.out, fun i' i1 i2 i3 hw => ?_⟩)
            rcases i3 with i3 | rfl
            · rcases HB.out.1 with ⟨b1, b2⟩ | ⟨m, m1, m2, m3, m4, m5⟩
              · rw [b2 i' i1 i2 i3] at hw; cases hw
              · have h5 := m5 i' i1 i2 i3 hw
                rcases HB.out.2.1 with ⟨-, -, x3⟩ | ⟨x1, x2, x4, x3, -⟩
                · have := H.out.1.tlt m1 m2
                  have := HB.out.2.2.2.1
                  omega
                · have e1 := H.out.1.tt i x1 x2
                  have e2 := H.out.1.tt m m1 m2
                  rw [← x3, m3, e2] at e1
                  have e3 : (m : Int) = (i : Int) := (Prod.mk.inj e1).2
                  obtain rfl : m = i := by omega
                  have := HP.out
                  rw [x4] at this
                  omega
            · exact Int.le_refl _
        · have q1 : decide (x.pri < (K.ts j).pri) = false := decide_eq_false hp
          have HP := Lib.hid hp
          clear hp
          go_upto_region 7 with fail
          go_quiet (fail)
          go_wp2_with fail
          go_roundg (cnt1)
          case measure => exact HN.out.2.2
          case rel =>
            refine ⟨bb, rfl, RunI.drewN ?_ _⟩
            refine RunI.skip H.out.1 HB.out.2.2.1 HB.out.2.2.2.1 HB.out.2.2.2.2.1 HB.out.2.2.2.2.2.1 HB.out.2.2.2.2.2.2 HN.out.2.1 HN.out.1 ?_
            rcases HB.out.1 with ⟨b1, b2⟩ | ⟨m, m1, m2, m3, m4, m5⟩
            · exfalso
              have hpos := (H.out.2.pos j j1 j2).1
              rcases HB.out.2.1 with ⟨-, x2, -⟩ | ⟨x1, x2, -, x3, -⟩
              · have := HP.out
                omega
              · have := H.out.1.tlt x1 x2
                have := HB.out.2.2.2.1
                omega
            · refine .inr ⟨m, m1, m2, m3, m4, fun i' i1 i2 i3 hw => ?_⟩
              rcases i3 with i3 | rfl
              · exact m5 i' i1 i2 i3 hw
              · rcases HB.out.2.1 with ⟨-, -, x3⟩ | ⟨x1, x2, x4, x3, -⟩
                · have := H.out.1.tlt m1 m2
                  have := HB.out.2.2.2.1
                  omega
                · have e1 := H.out.1.tt i x1 x2
                  have e2 := H.out.1.tt m m1 m2
                  rw [← x3, m3, e2] at e1
                  have e3 : (m : Int) = (i : Int) := (Prod.mk.inj e1).2
                  obtain rfl : m = i := by omega
                  have := HP.out
                  rw [x4] at this
                  omega
end
end Go.Rnd
