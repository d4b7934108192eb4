/-
  own, take, move, send, walked. (Printed by rnd/gen/pl.py out of rnd/gen/RndWalk3.src.)
-/
import Derived.Test.YtcfegaclbkggpaaRndWalk2
import Derived.Test.YtcfegaclbkggpaaOwnRegionH
namespace Go.Rnd
open Go.Own Go.RowKit Go.Proofs

section
variable {g : Gh} {K : KS} {w w' : World}

theorem turn_set2 (w : World) (b i j : Nat) (u v : Value) : Turn (fun k => k = b) w ((w.setCell ⟨b, i, none⟩ u).setCell ⟨b, j, none⟩ v) := (turn_set w b i u).trans (turn_set _ b j v)
theorem turn_set3 (w : World) (b i j k : Nat) (u v x : Value) : Turn (fun k => k = b) w (((w.setCell ⟨b, i, none⟩ u).setCell ⟨b, j, none⟩ v).setCell ⟨b, k, none⟩ x) := (turn_set2 w b i j u v).trans (turn_set _ b k x)

theorem updN_twice {α : Type} (f : Nat → α) (k : Nat) (x y : α) : updN (updN f k x) k y = updN f k y := by
  funext j
  by_cases h : j = k
  · subst h; simp
  · simp [updN_ne _ _ h]
theorem Rep.drewN (h : Rep g K w) (n : Nat) : Rep g K (w.drewN n) := h.new ⟨rfl, rfl, rfl, Nat.le_refl _, fun _ _ _ => rfl⟩
theorem Step.drewNl {g' : Gh} {n : Nat} (h : Step g g' (w.drewN n) w') : Step g g' w w' := ⟨⟨h.turn.os, h.turn.tape, h.turn.output, h.turn.size, h.turn.block⟩, h.tags, h.k⟩
theorem Step.drewNr {g' : Gh} {n : Nat} (h : Step g g' w w') : Step g g' w (w'.drewN n) := ⟨⟨h.turn.os, h.turn.tape, h.turn.output, h.turn.size, h.turn.block⟩, h.tags, h.k⟩

/-- A packet is with its new owner. -/
theorem Rep.own_pack (h : Rep g K w) {p t : Nat} (h1 : 1 ≤ p) (h2 : p ≤ K.m) :
    Rep g { K with ps := updN K.ps p { K.ps p with at_ := 0, wth := t } } ((w.setCell ⟨g.pb p, 4, none⟩ (.int .i64 0)).setCell ⟨g.pb p, 6, none⟩ (.int .i64 t)) ∧ Step g g w ((w.setCell ⟨g.pb p, 4, none⟩ (.int .i64 0)).setCell ⟨g.pb p, 6, none⟩ (.int .i64 t)) := by
  obtain ⟨ty, ow, q⟩ := h.pack p h1 h2
  have ht := turn_set2 w (g.pb p) 4 6 (.int .i64 0) (.int .i64 t)
  exact ⟨h.set_pack (ty := ty) (ow := ow) h1 h2 ht (by simp) (heap_setCell_self _ (heap_setCell_self _ q)), ht.mono (fun k _ e => e ▸ h.pne h1 h2), fun _ _ => rfl, rfl⟩
theorem Rep.send_pack (h : Rep g K w) {p t f : Nat} (h1 : 1 ≤ p) (h2 : p ≤ K.m) :
    Rep g { K with ps := updN K.ps p ⟨t, f, 0⟩ } (((w.setCell ⟨g.pb p, 4, none⟩ (.int .i64 t)).setCell ⟨g.pb p, 5, none⟩ (.int .i64 f)).setCell ⟨g.pb p, 6, none⟩ (.int .i64 0)) ∧ Step g g w (((w.setCell ⟨g.pb p, 4, none⟩ (.int .i64 t)).setCell ⟨g.pb p, 5, none⟩ (.int .i64 f)).setCell ⟨g.pb p, 6, none⟩ (.int .i64 0)) := by
  obtain ⟨ty, ow, q⟩ := h.pack p h1 h2
  have ht := turn_set3 w (g.pb p) 4 5 6 (.int .i64 t) (.int .i64 f) (.int .i64 0)
  exact ⟨h.set_pack (ty := ty) (ow := ow) h1 h2 ht (by simp) (heap_setCell_self _ (heap_setCell_self _ (heap_setCell_self _ q))), ht.mono (fun k _ e => e ▸ h.pne h1 h2), fun _ _ => rfl, rfl⟩

theorem PutPost.drewl {i : Nat} {q : List Nat} {e : Ending} (h : PutPost g K w.drew i q e w') : PutPost g K w i q e w' := by
  obtain ⟨h1, ρ', h2, h3⟩ := h
  exact ⟨h1, ρ', h2, h3.drewl⟩

/-- The stages of own's region: 8 the row, 10 what take leaves. -/
structure OwnI (W : World) (g : Gh) (K : KS) (t : Nat) (r : List Nat) (s : Nat) (ξ : Nat → Value) (w : World) : Prop where
  e0 : s = 0 → w = W
  e1 : s = 1 → w = W ∧ ξ 8 = .pointer (some ⟨g.tb t, 7, none⟩)
  e2 : s = 2 → PutPost g K W t r (.returned (.tuple #[])) w ∧ ξ 8 = .pointer (some ⟨g.tb t, 7, none⟩)

/-- What a call that hands back a number and an errno leaves. -/
def NumPost (g : Gh) (K : KS) (w : World) (v : Int) (e : Ending) (w' : World) : Prop :=
  e = .returned (.tuple #[.int .i64 v, .int .i64 0]) ∧ ∃ g', Rep g' K w' ∧ Step g g' w w'

set_option maxRecDepth 10000 in
set_option maxHeartbeats 2000000 in
theorem own_calls (h : Rep g K w) {t p cb : Nat} {r : List Nat} {a b : Int} (h1 : 1 ≤ t) (h2 : t ≤ K.n) (hn : K.n ≤ 1000) (hc : CallAt g w cb (pt (g.tb t)) a b) (hq : (K.ts t).q = p :: r) (hat : (K.ps p).at_ = t) :
    Calls Try.prog 38 #[pt cb, pt (g.pb p)] w (NumPost g (K.pop t p r) w p) := by
  obtain ⟨p1, p2⟩ := h.qok t h1 h2 p (by rw [hq]; simp)
  obtain ⟨c0, c1, c2, c3⟩ := c_cells hc
  obtain ⟨ty, ow, pq⟩ := h.pack p p1 p2
  rw [show K.ps p = ⟨t, (K.ps p).frm, (K.ps p).wth⟩ from by rw [← hat]] at pq
  obtain ⟨-, p4, -, -, -⟩ := p_cells pq
  dsimp only at p4
  have H := Lib.hid (And.intro h (And.intro hc hq))
  clear h hc hq hat pq c2 c3
  go_enter Try.func38, Try.ntmps38
  go_upto_region 1 with fail
  refine wp_region_planH (aX := ?aXo) [8, 10] [[], [8], [8, 10]] 2 [(0, 0, 0), (0, 1, 1), (0, 2, 2), (1, 0, 0), (2, 0, 0), (3, 0, 0), (4, 0, 0), (4, 1, 1), (4, 2, 2), (5, 0, 0), (6, 0, 0), (7, 0, 0), (8, 0, 1), (9, 0, 0), (9, 1, 1), (10, 1, 2)]
    [pt cb, pt cb, .pointer (some ⟨cb, 0, none⟩), pt g.k, pt (g.pb p), pt (g.pb p), .pointer (some ⟨g.pb p, 4, none⟩), .int .i64 t, undef, pt (g.pb p), undef] (OwnI w.drew g K t r) (by kernel_rfl) (by kernel_rfl) rfl ?hXo (fun _ => undef) ?h0o ?hobo ?hendo
  case hXo => intro ξ; simp only [mixAll, Act.put]; go_simp; rfl
  case h0o =>
    exact ⟨fun _ => rfl, fun q => absurd q (by decide), fun q => absurd q (by decide)⟩
  case hobo =>
    refine oblsH_cons rfl (stepH_value rfl rfl ?_) ?_
    · rintro ξ w5 h5
      rfl
    refine oblsH_cons rfl (stepH_value rfl rfl ?_) ?_
    · rintro ξ w5 h5
      rfl
    refine oblsH_cons rfl (stepH_value rfl rfl ?_) ?_
    · rintro ξ w5 h5
      rfl
    refine oblsH_cons rfl (stepH_value rfl rfl ?_) ?_
    · rintro ξ w5 h5
      rfl
    refine oblsH_cons rfl (stepH_value rfl rfl ?_) ?_
    · rintro ξ w5 h5
      rfl
    refine oblsH_cons rfl (stepH_value rfl rfl ?_) ?_
    · rintro ξ w5 h5
      obtain rfl := h5.e0 rfl
      clear h5
      go_simp
      try rfl
    refine oblsH_cons rfl (stepH_value rfl rfl ?_) ?_
    · rintro ξ w5 h5
      rfl
    refine oblsH_cons rfl (stepH_value rfl rfl ?_) ?_
    · rintro ξ w5 h5
      rfl
    refine oblsH_cons rfl (stepH_value rfl rfl ?_) ?_
    · rintro ξ w5 h5
      rfl
    refine oblsH_cons rfl (stepH_value rfl rfl ?_) ?_
    · rintro ξ w5 h5
      rfl
    refine oblsH_cons rfl (stepH_value rfl rfl ?_) ?_
    · rintro ξ w5 h5
      rfl
    refine oblsH_cons rfl (stepH_value rfl rfl ?_) ?_
    · rintro ξ w5 h5
      obtain rfl := h5.e0 rfl
      clear h5
      go_simp
      try rfl
    refine oblsH_cons rfl (stepH_call rfl rfl ?_) ?_
    · rintro ξ w5 h5
      obtain rfl := h5.e0 rfl
      refine ⟨34, #[pt g.k, .int .i64 t], by clear h5; go_simp, ?_⟩
      refine (row_calls H.out.1.drew rfl h1 h2 hn).mono ?_
      rintro e6 w6 ⟨rfl, rfl⟩
      exact ⟨_, rfl, ⟨fun q => absurd q (by decide), fun _ => ⟨rfl, rfl⟩, fun q => absurd q (by decide)⟩⟩
    refine oblsH_cons rfl (stepH_value rfl rfl ?_) ?_
    · rintro ξ w5 h5
      rfl
    refine oblsH_cons rfl (stepH_value rfl rfl ?_) ?_
    · rintro ξ w5 h5
      rfl
    refine oblsH_cons rfl (stepH_call rfl rfl ?_) ?_
    · rintro ξ w5 h5
      obtain ⟨rfl, h8⟩ := h5.e1 rfl
      clear h5
      refine ⟨40, #[.pointer (some ⟨g.tb t, 7, none⟩), pt (g.pb p)], by go_simp, ?_⟩
      refine (qtake_calls H.out.1.drew h1 h2 H.out.2.2).mono ?_
      rintro e6 w6 hp
      obtain rfl := hp.1
      exact ⟨_, rfl, ⟨fun q => absurd q (by decide), fun q => absurd q (by decide), fun _ => ⟨hp, h8⟩⟩⟩
    exact oblsH_nil
  case hendo =>
    rintro ξ w5 h5
    obtain ⟨⟨-, ρ', R, s⟩, h8⟩ := h5.e2 rfl
    clear h5
    have hc5 := H.out.2.1.keep s.drewl
    obtain ⟨d0, d1, -, -⟩ := c_cells hc5
    obtain ⟨v5, tq, -⟩ := R.task t h1 h2
    obtain ⟨t0, -, -, -, -, -, -⟩ := t_cells tq
    obtain ⟨ty5, ow5, pq⟩ := R.pack p p1 p2
    obtain ⟨q0, q4, q5, q6, qf⟩ := p_cells pq
    have hne := hc5.ne (R.pne p1 p2)
    have hne2 : g.tb t ≠ g.pb p := fun e => by
      have e1 := R.tt t h1 h2
      have e2 := R.tp p p1 p2
      dsimp only at e1 e2
      rw [e, e2] at e1
      cases e1
    dsimp only at hne
    have F := Lib.hid (R.own_pack (t := t) p1 p2)
    have F2 := Lib.hid s.drewl
    clear R s hc5 pq tq
    go_wp2_with fail
    go_ret2
    exact ⟨rfl, _, F.out.1, F2.out.trans F.out.2⟩

set_option maxRecDepth 10000 in
theorem take_own (h : Rep g K w) {t p cb : Nat} {r : List Nat} {a b : Int} (h1 : 1 ≤ t) (h2 : t ≤ K.n) (hn : K.n ≤ 1000) (hc : CallAt g w cb (pt (g.tb t)) a b) (hq : (K.ts t).q = p :: r) (hat : (K.ps p).at_ = t) :
    Calls Try.prog 16 #[pt cb] w (NumPost g (K.pop t p r) w p) := by
  obtain ⟨c0, c1, c2, c3⟩ := c_cells hc
  obtain ⟨v, tq, qs⟩ := h.task t h1 h2
  obtain ⟨-, -, -, -, -, t7, -⟩ := t_cells tq
  have hf := first_calls t7 qs.1
  rw [hq] at hf
  have H := Lib.hid (And.intro hf (own_calls h h1 h2 hn hc hq hat))
  clear h hc hq hat tq qs hf c2 c3 t7
  go_enter Try.func16, Try.ntmps16
  go_wp2_with fail
  refine H.out.1.mono ?_
  rintro e w1 ⟨hw1, hx⟩
  rcases hx with ⟨hx, -⟩ | ⟨x, r', hx, rfl⟩
  · cases hx
  have hxx : x = pt (g.pb p) := by cases hx; rfl
  have hw1 := hw1.symm
  subst hw1
  subst hxx
  clear hx
  go_wp2_with fail
  refine H.out.2.mono ?_
  rintro e w2 hp
  obtain rfl := hp.1
  have HP := Lib.hid hp
  clear hp
  go_wp2_with fail
  go_ret2
  exact HP.out

set_option maxRecDepth 10000 in
theorem take_rest (h : Rep g K w) {t cb : Nat} {a b : Int} (h1 : 1 ≤ t) (h2 : t ≤ K.n) (hc : CallAt g w cb (pt (g.tb t)) a b) (hq : (K.ts t).q = []) :
    Calls Try.prog 16 #[pt cb] w (NumPost g (K.rest t) w 0) := by
  obtain ⟨c0, c1, c2, c3⟩ := c_cells hc
  obtain ⟨v, tq, qs⟩ := h.task t h1 h2
  obtain ⟨-, -, -, -, -, t7, -⟩ := t_cells tq
  have hf := first_calls t7 qs.1
  rw [hq] at hf
  have H := Lib.hid (And.intro hf (rest_calls h h1 h2 hc))
  clear h hc hq tq qs hf c2 c3 t7
  go_enter Try.func16, Try.ntmps16
  go_wp2_with fail
  refine H.out.1.mono ?_
  rintro e w1 ⟨hw1, hx⟩
  rcases hx with ⟨-, rfl⟩ | ⟨x, r', hx, rfl⟩
  rotate_left
  · cases hx
  have hw1 := hw1.symm
  subst hw1
  go_wp2_with fail
  refine H.out.2.mono ?_
  rintro e w2 ⟨rfl, hp⟩
  have HP := Lib.hid hp
  clear hp
  go_wp2_with fail
  go_ret2
  exact ⟨rfl, _, HP.out.1, HP.out.2⟩

/-- The stages of move's second region: 17 the row of one, 18 the moves, 21 their store. -/
structure MvI (W : World) (g : Gh) (K : KS) (x : Value) (s : Nat) (ξ : Nat → Value) (w : World) : Prop where
  e0 : s = 0 → w = W
  e1 : s = 1 → w = W.alloc (.cells x.cells 86) ∧ ξ 17 = .slice (some ⟨W.heap.size, 0, none⟩) 1 1
  e2 : s = 2 → ∃ mv mv' mvs, W.heap[g.k]? = some (.cells (kCells g K mv) 43 (0, 0)) ∧ SliceAt w 86 4 mv' mvs ∧ mvs.length = 4 * (K.v + 1) ∧ Turn (fun k => mv.ownBlock = some k) W w ∧ (mv'.ownBlock = mv.ownBlock ∨ ∃ b, W.heap.size ≤ b ∧ mv'.ownBlock = some b) ∧ (∀ b, mv.ownBlock = some b → g.ρ b = (2, 0)) ∧ ξ 18 = mv'
  e3 : s = 3 → ∃ ρ', Rep { g with ρ := ρ' } { K with v := K.v + 1 } w ∧ Step g { g with ρ := ρ' } W w


theorem mv_append (_h : Rep g K w) (hv : K.v ≤ 1000000) {x mv : Value} {mvs : List Value} {cs : Array Value} (hx : x.cells = cs) (hx4 : cs.size = 4) (hx1 : ∀ u ∈ cs.toList, u.oneCell' = true) (hk : w.heap[g.k]? = some (.cells (kCells g K mv) 43 (0, 0))) (hs : SliceT g.ρ (2, 0) w 86 4 mv mvs) (hl : mvs.length = 4 * K.v) (ty : TypeId) (ξ : Nat → Value) :
    ∃ v' w', (Builtin.append_ #[41, 41] ty #[mv, .slice (some ⟨w.heap.size, 0, none⟩) 1 1]).run Try.prog (w.alloc (.cells x.cells 86)) = .ok v' w' ∧ MvI w g K x 2 (updV ξ 18 v') w' := by
  have T0 : Turn (fun _ => False) w (w.alloc (.cells x.cells 86)) := (Turn.refl _ w).alloc _
  obtain ⟨v', w', hr, h1, h2, h3, -⟩ := run_append (P := Try.prog) (w.alloc (.cells x.cells 86)) 41 41 ty 86 4 32 _ Try.underlying41 (.inr ⟨_, Try.underlying41⟩) elemFour mv mvs (hs.1.turn T0 (fun _ _ hh => hh)) (.slice (some ⟨w.heap.size, 0, none⟩) 1 1) 1 cs.toList
    (Src.slice _ _ _ _ (by simp [hx4]) fun j u hu => by rw [Addr.add_lit, Nat.zero_add]; exact cell_at (heap_alloc_new w _) (by rw [hx]; simpa using hu)) hx1 (by simp [hl, hx4]; omega) (by simp [hl, hx4]; omega)
  refine ⟨v', w', hr, fun q => absurd q (by decide), fun q => absurd q (by decide), fun _ => ⟨mv, v', _, hk, h1, by simp [hl, hx4]; omega, (T0.mono fun _ _ hh => hh.elim).trans h2, ?_, hs.2, by simp [updV]⟩, fun q => absurd q (by decide)⟩
  rcases h3 with h3 | h3
  · exact .inl h3
  · exact .inr ⟨_, by simp, h3⟩

theorem mv_store (h : Rep g K w) {mv mv' : Value} {mvs : List Value} {w5 : World} (hk : w.heap[g.k]? = some (.cells (kCells g K mv) 43 (0, 0))) (hv : SliceAt w5 86 4 mv' mvs) (hl : mvs.length = 4 * (K.v + 1)) (ht : Turn (fun k => mv.ownBlock = some k) w w5)
    (hw : mv'.ownBlock = mv.ownBlock ∨ ∃ b, w.heap.size ≤ b ∧ mv'.ownBlock = some b) (hb : ∀ b, mv.ownBlock = some b → g.ρ b = (2, 0)) :
    w5.heap[g.k]? = some (.cells (kCells g K mv) 43 (0, 0)) ∧ ∃ ρ', Rep { g with ρ := ρ' } { K with v := K.v + 1 } (w5.setCell ⟨g.k, 4, none⟩ mv') ∧ Step g { g with ρ := ρ' } w (w5.setCell ⟨g.k, 4, none⟩ mv') := by
  have hkl := h.klt
  have hs1 := ht.size
  have hk5 : w5.heap[g.k]? = some (.cells (kCells g K mv) 43 (0, 0)) := by
    rw [ht.block _ hkl fun e => by have := hb _ e; rw [h.tk] at this; cases this]; exact hk
  have hr : ∀ k, k < w.heap.size → retag g.ρ w.heap.size w5.heap.size (2, 0) k = g.ρ k := fun k hk => retag_old _ _ hk
  have hT : Turn (fun k => k = g.k ∨ g.ρ k = (2, 0)) w (w5.setCell ⟨g.k, 4, none⟩ mv') :=
    (ht.mono fun k _ e => .inr (hb k e)).trans ((turn_set w5 g.k 4 mv').mono fun k _ e => .inl e)
  refine ⟨hk5, retag g.ρ w.heap.size w5.heap.size (2, 0), h.set_kern (mv := mv') (mvs := mvs) (c := K.c) (v := K.v + 1) hT hr (fun k hk => ?_) (heap_setCell_self _ hk5) ⟨?_, fun b hbv => ?_⟩ hl, hT.mono (fun k _ e => ?_), hr, rfl⟩
  · rw [retag_fresh (by simpa using hk)]
    exact h.fresh k (by simp at hk; omega)
  · refine hv.turn (turn_set w5 g.k 4 mv') fun b hbv e => ?_
    subst e
    rcases hw with hw | ⟨b, hb1, hw⟩
    · have := hb _ (hw ▸ hbv)
      rw [h.tk] at this
      cases this
    · rw [hw] at hbv
      have := Option.some.inj hbv
      omega
  · rcases hw with hw | ⟨b', hb1, hw⟩
    · have := hb b (hw ▸ hbv)
      rw [hr b (h.lt (by rw [this]; simp))]
      exact this
    · have h1 := hv.lt _ hw
      rw [hw] at hbv
      have := Option.some.inj hbv
      exact retag_new _ _ (by omega) (by omega)
  · rcases e with rfl | e
    · rw [h.tk]; simp
    · rw [e]; simp

/-- What a move leaves. -/
def MovePost (g : Gh) (K : KS) (w : World) (t p f : Nat) (e : Ending) (w' : World) : Prop :=
  e = .returned (.tuple #[]) ∧ ∃ ρ', Rep { g with ρ := ρ' } (K.send f p t) w' ∧ Step g { g with ρ := ρ' } w w'

set_option maxRecDepth 10000 in
set_option maxHeartbeats 2000000 in
theorem move_calls (h : Rep g K w) {kb p f t : Nat} (hk : g.k = kb) (h1 : 1 ≤ t) (h2 : t ≤ K.n) (hn : K.n ≤ 1000) (p1 : 1 ≤ p) (p2 : p ≤ K.m) (hl : (K.ts t).q.length ≤ 1000) (hv : K.v ≤ 1000000) (hc : K.c ≤ 1000000) :
    Calls Try.prog 35 #[pt kb, pt (g.pb p), .int .i64 f, .int .i64 t] w (MovePost g K w t p f) := by
  subst hk
  have H := Lib.hid (And.intro h (And.intro hl (And.intro hv hc)))
  have HR := Lib.hid (row_calls h rfl h1 h2 hn)
  have HP := Lib.hid (put_calls h h1 h2 p1 p2 hl)
  clear h hl hv hc
  go_enter Try.func35, Try.ntmps35
  go_wp2_with fail
  refine HR.out.mono ?_
  rintro e w1 ⟨rfl, hw1⟩
  have hw1 := hw1.symm
  subst hw1
  go_wp2_with fail
  refine HP.out.mono ?_
  rintro e w1 ⟨rfl, ρ1, R1, s1⟩
  obtain ⟨ty1, ow1, pq1⟩ := R1.pack p p1 p2
  obtain ⟨q0, q4, q5, q6, qf⟩ := p_cells pq1
  dsimp only at q0 q4 q5 q6 qf
  have F := R1.send_pack (t := t) (f := f) p1 p2
  have H1 := Lib.hid (And.intro F.1 (s1.trans F.2))
  clear R1 s1 pq1 F
  go_upto_region 2 with fail
  obtain ⟨w2, hw2⟩ : ∃ w2, ((w1.setCell ⟨g.pb p, 4, none⟩ (.int .i64 t)).setCell ⟨g.pb p, 5, none⟩ (.int .i64 f)).setCell ⟨g.pb p, 6, none⟩ (.int .i64 0) = w2 := ⟨_, rfl⟩
  rw [hw2] at H1 ⊢
  clear hw2 q0 q4 q5 q6 qf
  obtain ⟨mv, mvs, kq, ks, kl⟩ := H1.out.1.drew.kb
  obtain ⟨ma, mn, mc, rfl, -⟩ := ks.1.form
  obtain ⟨k0, -, -, -, k4, k5, kf⟩ := k_cells kq
  obtain ⟨ty2, ow2, pq2⟩ := H1.out.1.drew.pack p p1 p2
  obtain ⟨q0, -, -, -, -⟩ := p_cells pq2
  have HK := Lib.hid (And.intro kq (And.intro ks kl))
  have i1 : IntKind.i64.wrap ((K.c : Int) - 1) = (K.c : Int) - 1 := IntWalk.i64_in _ (by have := H.out.2.2.2; omega)
  clear kq ks kl pq2
  refine wp_region_planH (aX := ?aXm) [17, 18, 21] [[], [17], [17, 18], [17, 18, 21]] 3 [(0, 0, 0), (0, 1, 1), (0, 2, 2), (1, 0, 0), (1, 1, 1), (1, 2, 2), (2, 0, 0), (2, 1, 1), (3, 0, 0), (3, 1, 1), (4, 0, 0), (4, 1, 1), (5, 0, 0), (5, 1, 1), (5, 2, 2), (6, 0, 0), (6, 1, 1), (6, 2, 2), (7, 0, 0), (7, 1, 1), (7, 2, 2), (8, 0, 0), (9, 0, 0), (10, 0, 0), (10, 1, 1), (10, 2, 2), (11, 0, 0), (11, 1, 1), (11, 2, 2), (12, 0, 0), (13, 0, 0), (14, 0, 0), (15, 0, 0), (16, 0, 0), (17, 0, 1), (18, 1, 2), (19, 2, 2), (20, 2, 2), (21, 2, 3)]
    [pt g.k, pt g.k, pt g.k, .pointer (some ⟨g.k, 4, none⟩), .slice ma mn mc, pt g.k, pt g.k, .pointer (some ⟨g.k, 5, none⟩), .int .i64 K.c, .int .i64 ((K.c : Int) - 1), pt (g.pb p), pt (g.pb p), .pointer (some ⟨g.pb p, 0, none⟩), .int .i64 p, .int .i64 f, .int .i64 t, .agg #[.int .i64 ((K.c : Int) - 1), .int .i64 p, .int .i64 f, .int .i64 t], undef, undef, pt g.k, .pointer (some ⟨g.k, 4, none⟩), undef] (MvI w2.drew { g with ρ := ρ1 } { K with ts := updN K.ts t { K.ts t with q := (K.ts t).q ++ [p] }, ps := updN K.ps p ⟨t, f, 0⟩ } (.agg #[.int .i64 ((K.c : Int) - 1), .int .i64 p, .int .i64 f, .int .i64 t])) (by kernel_rfl) (by kernel_rfl) rfl ?hXm (fun _ => undef) ?h0m ?hobm ?hendm
  case hXm => intro ξ; simp only [mixAll, Act.put]; go_simp; rfl
  case h0m =>
    exact ⟨fun _ => rfl, fun q => absurd q (by decide), fun q => absurd q (by decide), fun q => absurd q (by decide)⟩
  case hobm =>
    refine oblsH_cons rfl (stepH_value rfl rfl ?_) ?_
    · rintro ξ w5 h5
      rfl
    refine oblsH_cons rfl (stepH_value rfl rfl ?_) ?_
    · rintro ξ w5 h5
      rfl
    refine oblsH_cons rfl (stepH_value rfl rfl ?_) ?_
    · rintro ξ w5 h5
      rfl
    refine oblsH_cons rfl (stepH_value rfl rfl ?_) ?_
    · rintro ξ w5 h5
      rfl
    refine oblsH_cons rfl (stepH_value rfl rfl ?_) ?_
    · rintro ξ w5 h5
      rfl
    refine oblsH_cons rfl (stepH_value rfl rfl ?_) ?_
    · rintro ξ w5 h5
      rfl
    refine oblsH_cons rfl (stepH_value rfl rfl ?_) ?_
    · rintro ξ w5 h5
      rfl
    refine oblsH_cons rfl (stepH_value rfl rfl ?_) ?_
    · rintro ξ w5 h5
      rfl
    refine oblsH_cons rfl (stepH_value rfl rfl ?_) ?_
    · rintro ξ w5 h5
      rfl
    refine oblsH_cons rfl (stepH_value rfl rfl ?_) ?_
    · rintro ξ w5 h5
      rfl
    refine oblsH_cons rfl (stepH_value rfl rfl ?_) ?_
    · rintro ξ w5 h5
      obtain rfl := h5.e0 rfl
      clear h5
      go_simp
      try rfl
    refine oblsH_cons rfl (stepH_value rfl rfl ?_) ?_
    · rintro ξ w5 h5
      obtain ⟨rfl, h8⟩ := h5.e1 rfl
      have k4x : (w2.alloc (.cells #[.int .i64 ((K.c : Int) - 1), .int .i64 p, .int .i64 f, .int .i64 t] 86)).cell? ⟨g.k, 4, none⟩ = some (.slice ma mn mc) := Lib.cell?_alloc_some _ k4
      clear h5
      go_simp
      try rfl
    refine oblsH_cons rfl (stepH_value rfl rfl ?_) ?_
    · rintro ξ w5 h5
      rfl
    refine oblsH_cons rfl (stepH_value rfl rfl ?_) ?_
    · rintro ξ w5 h5
      rfl
    refine oblsH_cons rfl (stepH_value rfl rfl ?_) ?_
    · rintro ξ w5 h5
      rfl
    refine oblsH_cons rfl (stepH_value rfl rfl ?_) ?_
    · rintro ξ w5 h5
      rfl
    refine oblsH_cons rfl (stepH_value rfl rfl ?_) ?_
    · rintro ξ w5 h5
      rfl
    refine oblsH_cons rfl (stepH_value rfl rfl ?_) ?_
    · rintro ξ w5 h5
      rfl
    refine oblsH_cons rfl (stepH_value rfl rfl ?_) ?_
    · rintro ξ w5 h5
      rfl
    refine oblsH_cons rfl (stepH_value rfl rfl ?_) ?_
    · rintro ξ w5 h5
      rfl
    refine oblsH_cons rfl (stepH_value rfl rfl ?_) ?_
    · rintro ξ w5 h5
      rfl
    refine oblsH_cons rfl (stepH_value rfl rfl ?_) ?_
    · rintro ξ w5 h5
      obtain rfl := h5.e0 rfl
      clear h5
      go_simp
      try rfl
    refine oblsH_cons rfl (stepH_value rfl rfl ?_) ?_
    · rintro ξ w5 h5
      obtain rfl := h5.e0 rfl
      clear h5
      go_simp
      try rfl
    refine oblsH_cons rfl (stepH_value rfl rfl ?_) ?_
    · rintro ξ w5 h5
      rfl
    refine oblsH_cons rfl (stepH_value rfl rfl ?_) ?_
    · rintro ξ w5 h5
      rfl
    refine oblsH_cons rfl (stepH_value rfl rfl ?_) ?_
    · rintro ξ w5 h5
      rfl
    refine oblsH_cons rfl (stepH_value rfl rfl ?_) ?_
    · rintro ξ w5 h5
      rfl
    refine oblsH_cons rfl (stepH_value rfl rfl ?_) ?_
    · rintro ξ w5 h5
      rfl
    refine oblsH_cons rfl (stepH_value rfl rfl ?_) ?_
    · rintro ξ w5 h5
      rfl
    refine oblsH_cons rfl (stepH_value rfl rfl ?_) ?_
    · rintro ξ w5 h5
      rfl
    refine oblsH_cons rfl (stepH_value rfl rfl ?_) ?_
    · rintro ξ w5 h5
      obtain rfl := h5.e0 rfl
      clear h5
      go_simp
      try rfl
    refine oblsH_cons rfl (stepH_value rfl rfl ?_) ?_
    · rintro ξ w5 h5
      rfl
    refine oblsH_cons rfl (stepH_value rfl rfl ?_) ?_
    · rintro ξ w5 h5
      rfl
    refine oblsH_cons rfl (stepH_value rfl rfl ?_) ?_
    · rintro ξ w5 h5
      obtain rfl := h5.e0 rfl
      clear h5
      go_simp
      try rfl
    refine oblsH_cons rfl (stepH_make rfl rfl ?_) ?_
    · rintro ξ w5 h5
      obtain rfl := h5.e0 rfl
      refine ⟨_, _, ?_, ⟨fun q => absurd q (by decide), fun _ => ⟨rfl, rfl⟩, fun q => absurd q (by decide), fun q => absurd q (by decide)⟩⟩
      clear h5
      go_simp
    refine oblsH_cons rfl (stepH_append rfl rfl _ _ _ _ rfl ?_) ?_
    · rintro ξ w5 h5
      obtain ⟨rfl, h17⟩ := h5.e1 rfl
      rw [show (_ : Value) = ξ 17 from rfl, h17]
      exact mv_append (cs := #[.int .i64 ((K.c : Int) - 1), .int .i64 p, .int .i64 f, .int .i64 t]) H1.out.1.drew H.out.2.2.1 rfl rfl (by intro u hu; simp at hu; rcases hu with rfl | rfl | rfl | rfl <;> rfl) HK.out.1 HK.out.2.1 HK.out.2.2 _ ξ
    refine oblsH_cons rfl (stepH_value rfl rfl ?_) ?_
    · rintro ξ w5 h5
      rfl
    refine oblsH_cons rfl (stepH_value rfl rfl ?_) ?_
    · rintro ξ w5 h5
      rfl
    refine oblsH_cons rfl (stepH_store rfl rfl rfl ?_) ?_
    · rintro ξ w5 h5
      obtain ⟨mv, mv', mvs, a1, a2, a3, a4, a5, a6, a7⟩ := h5.e2 rfl
      clear h5
      have hst := mv_store H1.out.1.drew a1 a2 a3 a4 a5 a6
      obtain ⟨va, vn, vc, rfl, -⟩ := a2.form
      obtain ⟨-, -, -, -, k4, k5, kf⟩ := k_cells hst.1
      refine ⟨_, ?_, ⟨fun q => absurd q (by decide), fun q => absurd q (by decide), fun q => absurd q (by decide), fun _ => hst.2⟩⟩
      clear hst a1 a2 a3 a4 a5 a6
      go_simp
    exact oblsH_nil
  case hendm =>
    rintro ξ w5 h5
    obtain ⟨ρ5, R, s⟩ := h5.e3 rfl
    clear h5 k0 k4 k5 kf q0 i1
    have H5 := Lib.hid (And.intro R (H1.out.2.trans s.drewl))
    obtain ⟨mv, mvs, kq, -, -⟩ := R.kb
    obtain ⟨k0, -, -, -, -, -, -⟩ := k_cells kq
    dsimp only at k0
    obtain ⟨v5, tq, -⟩ := R.task t h1 h2
    dsimp only at tq
    rw [updN_self] at tq
    obtain ⟨t0, t1, t2, t3, t4, t7, tf⟩ := t_cells tq
    dsimp only at t0 t1 t2 t3 t4 t7 tf
    have hl := R.tm.at.lookup (P := Try.prog) (t := 38) (z := .pointer none) Try.underlying3 Try.underlying38 (by kernel_rfl) (k := (t : Int)) (wf_i64 (by omega) (by omega))
    dsimp only at hl
    rw [tmap_in h1 h2] at hl
    simp only [Option.getD] at hl
    clear R s kq tq t0 t1 t2 t7
    cases hwt : (K.ts t).wt with
    | true =>
      rw [hwt] at t3
      go_upto_region 4 with fail
      go_quiet (fail)
      have F1 := (H5.out.1.drewN nq).set_wt (t := t) h1 h2 false
      have F2 := F1.1.set_for (t := t) h1 h2
      have HF := Lib.hid (And.intro F2.1 (H5.out.2.trans (F1.2.trans F2.2).drewNl))
      clear F1 F2
      go_wp2_with fail
      go_end0
      have h1 := HF.out.1
      simp only [updN_twice, updN_self] at h1
      exact ⟨rfl, _, h1, HF.out.2⟩
    | false =>
      rw [hwt] at t3
      have HW := Lib.hid hwt
      clear hwt
      go_upto_region 4 with fail
      go_quiet (fail)
      go_wp2_with fail
      go_end0
      refine ⟨rfl, _, ?_, H5.out.2.trans (Step.refl _ _).drewNr⟩
      have HF := H5.out.1.drewN nq
      have e : { K.ts t with q := (K.ts t).q ++ [p] } = { K.ts t with wt := false, q := (K.ts t).q ++ [p] } := by rw [← HW.out]
      rw [e] at HF
      exact HF
end
end Go.Rnd
