/-
  The kernel's small functions, walked: first, rest, row, put, number.
-/
import Derived.Test.YtcfegaclbkggpaaRndRep
import Derived.KernelRfl
import Derived.WalkSpells
import Derived.StillTailTactics
import Derived.BigQuiet
import Derived.BigRegion
import Derived.Deep.DeepCutAuto
import Derived.Deep.LoopGhost
import Derived.Test.YtcfegaclbkggpaaOwnRegionG
namespace Go.Rnd
open Go.Own Go.RowKit Go.Proofs

theorem elemPack : Elem Try.prog 64 1 8 (.pointer none) := Elem.mk' (by kernel_rfl) rfl (by decide)
theorem elemFour : Elem Try.prog 86 4 32 (.agg #[.int .i64 0, .int .i64 0, .int .i64 0, .int .i64 0]) := Elem.mk' (by kernel_rfl) rfl (by decide)
theorem elemInt : Elem Try.prog 3 1 8 (.int .i64 0) := Elem.mk' (by kernel_rfl) rfl (by decide)

section
variable {g : Gh} {K : KS} {w w' : World}

theorem t_cells {b i : Nat} {x : TK} {v : Value} (h : w.heap[b]? = some (.cells (tCells i x v) 60 (0, 0))) :
    w.cell? ⟨b, 0, none⟩ = some (.int .i64 i) ∧ w.cell? ⟨b, 1, none⟩ = some (.int .i64 x.pri) ∧ w.cell? ⟨b, 2, none⟩ = some (.bool false) ∧ w.cell? ⟨b, 3, none⟩ = some (.bool x.wt) ∧ w.cell? ⟨b, 4, none⟩ = some (.int .i64 0) ∧ w.cell? ⟨b, 7, none⟩ = some v ∧ ∀ j, w.frozen? ⟨b, j, none⟩ = false :=
  ⟨cell_at h rfl, cell_at h rfl, cell_at h rfl, cell_at h rfl, cell_at h rfl, cell_at h rfl, fun _ => frozen_at h⟩
theorem p_cells {b p : Nat} {x : PK} {ty : Int} {ow : Nat} (h : w.heap[b]? = some (.cells (pCells p x ty ow) 71 (0, 0))) :
    w.cell? ⟨b, 0, none⟩ = some (.int .i64 p) ∧ w.cell? ⟨b, 4, none⟩ = some (.int .i64 x.at_) ∧ w.cell? ⟨b, 5, none⟩ = some (.int .i64 x.frm) ∧ w.cell? ⟨b, 6, none⟩ = some (.int .i64 x.wth) ∧ ∀ j, w.frozen? ⟨b, j, none⟩ = false :=
  ⟨cell_at h rfl, cell_at h rfl, cell_at h rfl, cell_at h rfl, fun _ => frozen_at h⟩
theorem k_cells {b : Nat} {mv : Value} (h : w.heap[b]? = some (.cells (kCells g K mv) 43 (0, 0))) :
    w.cell? ⟨b, 0, none⟩ = some (.map (some g.mt)) ∧ w.cell? ⟨b, 1, none⟩ = some (.map (some g.md)) ∧ w.cell? ⟨b, 2, none⟩ = some (.map (some g.mp)) ∧ w.cell? ⟨b, 3, none⟩ = some (.int .i64 K.m) ∧ w.cell? ⟨b, 4, none⟩ = some mv ∧ w.cell? ⟨b, 5, none⟩ = some (.int .i64 K.c) ∧ ∀ j, w.frozen? ⟨b, j, none⟩ = false :=
  ⟨cell_at h rfl, cell_at h rfl, cell_at h rfl, cell_at h rfl, cell_at h rfl, cell_at h rfl, fun _ => frozen_at h⟩

theorem cell_far (w : World) {b c i j : Nat} (u : Value) (h : c ≠ b) : (w.setCell ⟨b, i, none⟩ u).cell? ⟨c, j, none⟩ = w.cell? ⟨c, j, none⟩ := by
  simp only [World.cell?, heap_setCell_ne u (p := ⟨b, i, none⟩) h]
theorem cell_self {w : World} {b i : Nat} {v : Value} (u : Value) (h : w.cell? ⟨b, i, none⟩ = some v) : (w.setCell ⟨b, i, none⟩ u).cell? ⟨b, i, none⟩ = some u := World.cell?_setCell_same' _ _ _ (by rw [h]; rfl)

/-- A call: its kernel, by whom, what. -/
def CallAt (g : Gh) (w : World) (cb : Nat) (by_ : Value) (a b : Int) : Prop := w.heap[cb]? = some (.cells #[pt g.k, by_, .int .i64 a, .int .i64 b] 50 (0, 0)) ∧ (g.ρ cb).1 = 0
theorem c_cells {cb : Nat} {by_ : Value} {a b : Int} (h : CallAt g w cb by_ a b) :
    w.cell? ⟨cb, 0, none⟩ = some (pt g.k) ∧ w.cell? ⟨cb, 1, none⟩ = some by_ ∧ w.cell? ⟨cb, 2, none⟩ = some (.int .i64 a) ∧ w.cell? ⟨cb, 3, none⟩ = some (.int .i64 b) :=
  ⟨cell_at h.1 rfl, cell_at h.1 rfl, cell_at h.1 rfl, cell_at h.1 rfl⟩
theorem CallAt.lt {cb : Nat} {by_ : Value} {a b : Int} (h : CallAt g w cb by_ a b) : cb < w.heap.size := heap_lt h.1
theorem CallAt.ne {cb : Nat} {by_ : Value} {a b : Int} (h : CallAt g w cb by_ a b) {k : Nat} (hk : (g.ρ k).1 ≠ 0) : cb ≠ k := fun e => hk (e ▸ h.2)
theorem CallAt.keep {cb : Nat} {by_ : Value} {a b : Int} {g' : Gh} (h : CallAt g w cb by_ a b) (s : Step g g' w w') : CallAt g' w' cb by_ a b := by
  refine ⟨?_, ?_⟩
  · rw [s.turn.block cb h.lt (by simp [h.2]), s.k]; exact h.1
  · rw [s.tags cb h.lt]; exact h.2

theorem Rep.tne (h : Rep g K w) {i : Nat} (h1 : 1 ≤ i) (h2 : i ≤ K.n) : (g.ρ (g.tb i)).1 ≠ 0 := by rw [h.tt i h1 h2]; simp
theorem Rep.pne (h : Rep g K w) {i : Nat} (h1 : 1 ≤ i) (h2 : i ≤ K.m) : (g.ρ (g.pb i)).1 ≠ 0 := by rw [h.tp i h1 h2]; simp

theorem turn_set (w : World) (b i : Nat) (u : Value) : Turn (fun k => k = b) w (w.setCell ⟨b, i, none⟩ u) := Turn.setCell (p := ⟨b, i, none⟩) (Turn.refl (fun k => k = b) w) (fun _ => rfl) u

theorem Step.drewl {g g' : Gh} {w w' : World} (h : Step g g' w.drew w') : Step g g' w w' := ⟨h.turn.drew_left, h.tags, h.k⟩

/-- One task waits. -/
theorem Rep.set_wt (h : Rep g K w) {t : Nat} (h1 : 1 ≤ t) (h2 : t ≤ K.n) (u : Bool) : Rep g { K with ts := updN K.ts t { K.ts t with wt := u } } (w.setCell ⟨g.tb t, 3, none⟩ (.bool u)) ∧ Step g g w (w.setCell ⟨g.tb t, 3, none⟩ (.bool u)) := by
  obtain ⟨v, a, b⟩ := h.task t h1 h2
  have ht := turn_set w (g.tb t) 3 (.bool u)
  refine ⟨?_, ht.mono (fun k _ e => e ▸ h.tne h1 h2), fun _ _ => rfl, rfl⟩
  exact h.set_task (ρ' := g.ρ) (v := v) h1 h2 (ht.mono fun _ _ e => .inl e) (fun _ _ => rfl) (fun k hk => h.fresh k (by simpa using hk)) (heap_setCell_self _ a)
    (b.keep (fun k _ hr => heap_setCell_ne _ (fun e => by rw [e, h.tt t h1 h2] at hr; cases hr)) (fun _ _ => rfl)) (h.qok t h1 h2)
theorem Rep.set_for (h : Rep g K w) {t : Nat} (h1 : 1 ≤ t) (h2 : t ≤ K.n) : Rep g K (w.setCell ⟨g.tb t, 4, none⟩ (.int .i64 0)) ∧ Step g g w (w.setCell ⟨g.tb t, 4, none⟩ (.int .i64 0)) := by
  obtain ⟨v, a, b⟩ := h.task t h1 h2
  have ht := turn_set w (g.tb t) 4 (.int .i64 0)
  refine ⟨?_, ht.mono (fun k _ e => e ▸ h.tne h1 h2), fun _ _ => rfl, rfl⟩
  have := h.set_task (x := K.ts t) (ρ' := g.ρ) (v := v) h1 h2 (ht.mono fun _ _ e => .inl e) (fun _ _ => rfl) (fun k hk => h.fresh k (by simpa using hk)) (heap_setCell_self _ a)
    (b.keep (fun k _ hr => heap_setCell_ne _ (fun e => by rw [e, h.tt t h1 h2] at hr; cases hr)) (fun _ _ => rfl)) (h.qok t h1 h2)
  have e : updN K.ts t (K.ts t) = K.ts := by
    funext j
    by_cases hj : j = t
    · subst hj; simp
    · rw [updN_ne _ _ hj]
  rwa [e] at this

set_option maxHeartbeats 1000000 in
theorem rest_calls (h : Rep g K w) {t cb : Nat} {a b : Int} (h1 : 1 ≤ t) (h2 : t ≤ K.n) (hc : CallAt g w cb (pt (g.tb t)) a b) :
    Calls Try.prog 37 #[pt cb, .int .i64 0] w fun e w' => e = .returned (.tuple #[.int .i64 0, .int .i64 0]) ∧ Rep g (K.rest t) w' ∧ Step g g w w' := by
  obtain ⟨c0, c1, c2, c3⟩ := c_cells hc
  have hne := hc.ne (h.tne h1 h2)
  obtain ⟨v, q, qs⟩ := h.task t h1 h2
  obtain ⟨t0, t1, t2, t3, t4, t7, tf⟩ := t_cells q
  have hlt := hc.lt
  have htl := h.tlt h1 h2
  have r1 := h.drew.set_wt h1 h2 true
  have r2 := r1.1.set_for (t := t) h1 h2
  have R := Lib.hid (And.intro r2.1 (r1.2.trans r2.2).drewl)
  have hW := Lib.hid (And.intro q (And.intro hc.1 hne))
  clear r1 r2 qs q h
  go_enter Try.func37, Try.ntmps37
  go_upto_region 1 with fail

  have d1 : (w.drew.setCell ⟨g.tb t, 3, none⟩ (.bool true)).cell? ⟨cb, 1, none⟩ = some (pt (g.tb t)) := (cell_far w.drew _ hne).trans c1
  refine wp_region_planG (aF := ?aFr) [12, 16] [[], [12], [12, 16]] 2 [(0, 0, 0), (1, 0, 0), (2, 0, 0), (3, 0, 0), (4, 0, 0), (4, 1, 1), (5, 0, 0), (6, 0, 0), (7, 0, 0), (8, 0, 0), (8, 1, 1), (9, 0, 0), (10, 0, 0), (11, 0, 0), (12, 0, 1), (13, 1, 1), (14, 1, 1), (15, 1, 1), (16, 1, 2)]
    [w.drew, w.drew.setCell ⟨g.tb t, 3, none⟩ (.bool true), (w.drew.setCell ⟨g.tb t, 3, none⟩ (.bool true)).setCell ⟨g.tb t, 4, none⟩ (.int .i64 0)]
    [pt cb, pt cb, .pointer (some ⟨cb, 1, none⟩), pt (g.tb t), pt cb, pt cb, .pointer (some ⟨cb, 1, none⟩), pt (g.tb t), .int .i64 0, pt (g.tb t), pt (g.tb t), .pointer (some ⟨g.tb t, 3, none⟩), undef, pt (g.tb t), pt (g.tb t), .pointer (some ⟨g.tb t, 4, none⟩), undef]
    (by kernel_rfl) (by kernel_rfl) ?hFr rfl rfl rfl ?hobr ?hendr
  case hFr => simp only [putAll, Act.put]; go_simp; rfl
  case hobr =>
    repeat' (first
      | exact oblsG_nil
      | (refine oblsG_cons rfl rfl rfl ?_ ?_)

      | (apply Runs.skip rfl rfl; (focus (go_simp; try exact rfl)); exact rfl)
      | (apply Runs.value rfl; (focus (go_simp; try exact rfl)); exact rfl))
  case hendr =>
    go_wp2_with fail
    go_ret2
    exact ⟨rfl, R.out⟩

theorem packs_form {w : World} {v : Value} {xs : List Value} (h : SliceAt w 64 1 v xs) : ∃ a cap, v = .slice a xs.length cap ∧ xs.length ≤ cap ∧ cap ≤ maxLen ∧ ∀ j u, xs[j]? = some u → ∃ b off, a = some ⟨b, off, none⟩ ∧ w.cell? ⟨b, off + j, none⟩ = some u := by
  obtain ⟨a, n, cap, rfl, hl, hn, hm, -⟩ := h.form
  rw [Nat.mul_one] at hl
  subst hl
  refine ⟨a, cap, rfl, hn, hm, fun j u hu => ?_⟩
  rcases h with ⟨hv, rfl⟩ | ⟨g, off, n', cap', cur, hv, r⟩
  · simp at hu
  · cases hv
    exact ⟨g, off, rfl, (show SliceAt w 64 1 (.slice (some ⟨g, off, none⟩) xs.length cap) xs from .inr ⟨g, off, _, _, cur, rfl, r⟩).cells j u hu⟩

def FirstPost (xs : List Value) (w : World) (e : Ending) (w' : World) : Prop :=
  w' = w ∧ ((xs = [] ∧ e = .returned (.tuple #[.pointer none, .bool false])) ∨ ∃ x r, xs = x :: r ∧ e = .returned (.tuple #[x, .bool true]))

set_option maxHeartbeats 1000000 in
theorem first_calls {b : Nat} {v : Value} {xs : List Value} (hc : w.cell? ⟨b, 7, none⟩ = some v) (hs : SliceAt w 64 1 v xs) :
    Calls Try.prog 36 #[.pointer (some ⟨b, 7, none⟩)] w (FirstPost xs w) := by
  obtain ⟨a, cap, rfl, -, -, hcell⟩ := packs_form hs
  clear hs
  rcases xs with _ | ⟨x, r⟩
  · simp only [List.length_nil] at hc
    clear hcell
    go_enter Try.func36, Try.ntmps36
    go_wp2
    go_ret2
    exact ⟨rfl, .inl ⟨rfl, rfl⟩⟩
  · obtain ⟨gb, off, rfl, c0⟩ := hcell 0 x rfl
    clear hcell
    rw [Nat.add_zero] at c0
    obtain ⟨n, hn⟩ : ∃ n, r.length = n := ⟨_, rfl⟩
    simp only [List.length_cons, hn] at hc
    have q1 : (((n + 1 : Nat) : Int) == 0) = false := by simp; omega
    have q2 : decide (((n + 1 : Nat) : Int) ≤ 0) = false := by simp
    clear hn
    go_enter Try.func36, Try.ntmps36
    go_wp2
    go_ret2
    exact ⟨rfl, .inr ⟨x, r, rfl, rfl⟩⟩

theorem row_calls (h : Rep g K w) {kb : Nat} (hk : g.k = kb) {i : Nat} (h1 : 1 ≤ i) (h2 : i ≤ K.n) (h3 : K.n ≤ 1000) :
    Calls Try.prog 34 #[pt kb, .int .i64 i] w fun e w' => e = .returned (.pointer (some ⟨g.tb i, 7, none⟩)) ∧ w' = w := by
  subst hk
  obtain ⟨mv, mvs, q, -, -⟩ := h.kb
  obtain ⟨k0, -, -, -, -, -, -⟩ := k_cells q
  have hl := h.tm.at.lookup (P := Try.prog) (t := 38) (z := .pointer none) Try.underlying3 Try.underlying38 (by kernel_rfl) (k := (i : Int)) (wf_i64 (by omega) (by omega))
  rw [tmap_in h1 h2] at hl
  simp only [Option.getD] at hl
  go_enter Try.func34, Try.ntmps34
  go_wp2
  go_ret
  exact ⟨rfl, rfl⟩

/-- What a call leaves that turned one task and its queue. -/
def PutPost (g : Gh) (K : KS) (w : World) (i : Nat) (q : List Nat) (e : Ending) (w' : World) : Prop :=
  e = .returned (.tuple #[]) ∧ ∃ ρ', Rep { g with ρ := ρ' } { K with ts := updN K.ts i { K.ts i with q := q } } w' ∧ Step g { g with ρ := ρ' } w w'

/-- A new queue is in its task's cell. -/
theorem put_post {i p : Nat} {v v' : Value} {wa w1 : World} (h : Rep g K w) (h1 : 1 ≤ i) (h2 : i ≤ K.n) (p1 : 1 ≤ p) (p2 : p ≤ K.m) (T0 : Turn (fun _ => False) w wa) (Z0 : wa.heap.size = w.heap.size + 1)
    (hv : SliceAt w1 64 1 v' (qv g.pb (K.ts i).q ++ [pt (g.pb p)])) (ht : Turn (fun k => v.ownBlock = some k) wa w1) (hw : v'.ownBlock = v.ownBlock ∨ v'.ownBlock = some wa.heap.size)
    (hq : w1.heap[g.tb i]? = some (.cells (tCells i (K.ts i) v) 60 (0, 0))) (hb : ∀ b, v.ownBlock = some b → g.ρ b = (5, (i : Int))) :
    PutPost g K w i ((K.ts i).q ++ [p]) (.returned (.tuple #[])) (w1.setCell ⟨g.tb i, 7, none⟩ v') := by
  have htl := h.tlt h1 h2
  have hs1 := ht.size
  have hr : ∀ k, k < w.heap.size → retag g.ρ w.heap.size w1.heap.size (5, (i : Int)) k = g.ρ k := fun k hk => retag_old _ _ hk
  have hT : Turn (fun k => k = g.tb i ∨ g.ρ k = (5, (i : Int))) w (w1.setCell ⟨g.tb i, 7, none⟩ v') := by
    refine Turn.trans (b := w1) ?_ ((turn_set w1 (g.tb i) 7 v').mono fun k _ e => .inl e)
    exact (T0.mono fun _ _ hh => hh.elim).trans (ht.mono fun k _ e => .inr (hb k e))
  refine ⟨rfl, retag g.ρ w.heap.size w1.heap.size (5, (i : Int)), h.set_task (v := v') h1 h2 hT hr (fun k hk => ?_) (heap_setCell_self _ hq) ⟨?_, fun b hbv => ?_⟩ (fun q hq => ?_), hT.mono (fun k _ e => ?_), hr, rfl⟩
  · rw [retag_fresh (by simpa using hk)]
    exact h.fresh k (by simp at hk; omega)
  · rw [show qv g.pb ((K.ts i).q ++ [p]) = qv g.pb (K.ts i).q ++ [pt (g.pb p)] from by simp [qv]]
    refine hv.turn (turn_set w1 (g.tb i) 7 v') fun b hbv e => ?_
    subst e
    rcases hw with hw | hw
    · have := hb _ (hw ▸ hbv)
      rw [h.tt i h1 h2] at this
      cases this
    · rw [hw] at hbv
      have := Option.some.inj hbv
      omega
  · rcases hw with hw | hw
    · have := hb b (hw ▸ hbv)
      rw [hr b (h.lt (by rw [this]; simp))]
      exact this
    · rw [hw] at hbv
      cases hbv
      exact retag_new _ _ (by omega) (by have := hv.lt _ hw; omega)
  · simp only [List.mem_append, List.mem_singleton] at hq
    rcases hq with hq | rfl
    · exact h.qok i h1 h2 q hq
    · exact ⟨p1, p2⟩
  · rcases e with rfl | e
    · exact h.tne h1 h2
    · rw [e]; simp

set_option maxRecDepth 10000 in
set_option maxHeartbeats 1000000 in
theorem put_calls (h : Rep g K w) {i p : Nat} (h1 : 1 ≤ i) (h2 : i ≤ K.n) (p1 : 1 ≤ p) (p2 : p ≤ K.m) (hl : (K.ts i).q.length ≤ 1000) :
    Calls Try.prog 44 #[.pointer (some ⟨g.tb i, 7, none⟩), pt (g.pb p)] w (PutPost g K w i ((K.ts i).q ++ [p])) := by
  obtain ⟨v, q, qs⟩ := h.task i h1 h2
  obtain ⟨qa, qc, rfl, -, -, -⟩ := packs_form qs.1
  obtain ⟨qn, hqn⟩ : ∃ qn, (qv g.pb (K.ts i).q).length = qn := ⟨_, rfl⟩
  rw [hqn] at q qs
  clear hqn
  obtain ⟨t0, t1, t2, t3, t4, t7, tf⟩ := t_cells q
  have htl := h.tlt h1 h2
  have htt := h.tt i h1 h2
  have hbs : ∀ b, (Value.slice qa qn qc).ownBlock = some b → b ≠ g.tb i := fun b hb e => by
    have := qs.2 b hb
    rw [e, htt] at this
    cases this
  have H := Lib.hid (And.intro h (And.intro q (And.intro qs (And.intro hl hbs))))
  clear h q qs hl hbs
  go_enter Try.func44, Try.ntmps44
  go_wp2_with (at_builtin; go_loud (refine wpList_append _ rfl _ _ 56 56 rfl 64 1 8 (.pointer none) Try.underlying56 (.inr ⟨_, Try.underlying56⟩) elemPack (.slice qa qn qc) _ rfl (H.out.2.2.1.1.turn ((Turn.refl (fun _ => False) w).alloc _) (fun _ _ hh => hh)) _ _ _ rfl (Src.one rfl (heap_alloc_new w _)) (by intro u hu; simp at hu; subst hu; rfl) (by have := H.out.2.2.2.1; simp [qv]; omega) (by have := H.out.2.2.2.1; simp [qv]; omega) ?_); intro v' w1 hv' ht hw hn; clear hn; obtain ⟨va, vn, vc, rfl, -⟩ := hv'.form
               have hq1 : w1.heap[g.tb i]? = some (.cells (tCells i (K.ts i) (.slice qa qn qc)) 60 (0, 0)) := by rw [ht.block _ (by simp; omega) (fun e => H.out.2.2.2.2 _ e rfl), heap_alloc_lt w _ _ htl]; exact H.out.2.1
               obtain ⟨s0, s1, s2, s3, s4, s7, sf⟩ := t_cells hq1
               have hT := Lib.hid (And.intro hv' (And.intro ht (And.intro hw hq1)))
               clear hv' ht hw hq1)
  go_end0
  obtain ⟨hv, ht, hw, hq1⟩ := hT.out
  obtain ⟨wa, hwa⟩ : ∃ wa, w.alloc (.cells #[pt (g.pb p)] 64) = wa := ⟨_, rfl⟩
  have T0 : Turn (fun _ => False) w wa := by rw [← hwa]; exact (Turn.refl _ w).alloc _
  have Z0 : wa.heap.size = w.heap.size + 1 := by rw [← hwa]; simp
  rw [hwa] at ht hw
  clear hwa
  exact put_post H.out.1 h1 h2 p1 p2 T0 Z0 hv ht hw hq1 (fun b hb => H.out.2.2.1.2 b hb)
end
end Go.Rnd
