/-
  send, packet, walked. (Printed by rnd/gen/pl.py out of rnd/gen/RndWalk4.src.)
-/
import Derived.Test.YtcfegaclbkggpaaRndWalk3
namespace Go.Rnd
open Go.Own Go.RowKit Go.Proofs

section
variable {g : Gh} {K : KS} {w w' : World}

theorem Rep.look_task (h : Rep g K w) {i : Nat} (h1 : 1 ≤ i) (h2 : i ≤ K.n) (hn : K.n ≤ 1000) : (Instr.lookup 38 (.map (some g.mt)) (.int .i64 i) false).run Try.prog w = .ok (pt (g.tb i)) w := by
  have hl := h.tm.at.lookup (P := Try.prog) (t := 38) (z := .pointer none) Try.underlying3 Try.underlying38 (by kernel_rfl) (k := (i : Int)) (wf_i64 (by omega) (by omega))
  rw [tmap_in h1 h2] at hl
  exact hl
theorem Rep.look_none (h : Rep g K w) {i : Int} (h1 : ¬ (1 ≤ i ∧ i ≤ (K.n : Int))) (hw : (Lit.int .i64 i).wf = true) : (Instr.lookup 38 (.map (some g.mt)) (.int .i64 i) false).run Try.prog w = .ok (.pointer none) w := by
  have hl := h.tm.at.lookup (P := Try.prog) (t := 38) (z := .pointer none) Try.underlying3 Try.underlying38 (by kernel_rfl) (k := i) hw
  rw [tmap_out h1] at hl
  exact hl
theorem Rep.look_pack (h : Rep g K w) {p : Nat} (h1 : 1 ≤ p) (h2 : p ≤ K.m) (hn : K.m ≤ 1000) : (Instr.lookup 40 (.map (some g.mp)) (.int .i64 p) false).run Try.prog w = .ok (pt (g.pb p)) w := by
  have hl := h.pm.at.lookup (P := Try.prog) (t := 40) (z := .pointer none) Try.underlying3 Try.underlying40 (by kernel_rfl) (k := (p : Int)) (wf_i64 (by omega) (by omega))
  rw [tmap_in h1 h2] at hl
  exact hl
theorem CallAt.drewN {cb : Nat} {by_ : Value} {a b : Int} (h : CallAt g w cb by_ a b) (n : Nat) : CallAt g (w.drewN n) cb by_ a b := h
theorem CallAt.drew {cb : Nat} {by_ : Value} {a b : Int} (h : CallAt g w cb by_ a b) : CallAt g w.drew cb by_ a b := h

theorem old_alloc {a : Addr} {v : Value} (w : World) (o : Obj) (h : w.cell? a = some v) : (w.alloc o).cell? a = some v := Lib.cell?_alloc_some o h
theorem exec_update {P : Program} {ρ : Operand → Value} {o : Oper} {t : TypeId} {w w' : World} (m k x : Operand) (hop : o.op = Op.mapUpdate t m k x) (h : (Instr.mapUpdate t (ρ m) (ρ k) (ρ x)).run P w = .ok () w') : (execOp ρ o).run P w = .ok .skip w' := by
  simp [execOp, hop, h, Result.andThen]

def NumI (W : World) (g : Gh) (K : KS) (s : Nat) (_ξ : Nat → Value) (w : World) : Prop :=
  (s = 0 → w = W) ∧ (s = 1 → ∃ ρ', Rep { g with ρ := ρ' } K w ∧ Step g { g with ρ := ρ' } W w)

set_option maxRecDepth 10000 in
set_option maxHeartbeats 2000000 in
theorem send_calls (h : Rep g K w) {t p to_ cb : Nat} (h1 : 1 ≤ t) (h2 : t ≤ K.n) (hn : K.n ≤ 1000) (u1 : 1 ≤ to_) (u2 : to_ ≤ K.n) (hne : to_ ≠ t) (p1 : 1 ≤ p) (p2 : p ≤ K.m) (hm : K.m ≤ 1000) (hw : (K.ps p).wth = t) (hl : (K.ts to_).q.length ≤ 1000) (hv : K.v ≤ 1000000) (hcc : K.c ≤ 1000000)
    (hc : CallAt g w cb (pt (g.tb t)) p to_) :
    Calls Try.prog 15 #[pt cb] w (NumPost g (K.send t p to_) w 0) := by
  obtain ⟨c0, c1, c2, c3⟩ := c_cells hc
  obtain ⟨mv, mvs, kq, -, -⟩ := h.kb
  obtain ⟨-, -, k2, -, -, -, -⟩ := k_cells kq
  obtain ⟨v, tq, -⟩ := h.task t h1 h2
  obtain ⟨t0, -, -, -, -, -, -⟩ := t_cells tq
  obtain ⟨ty, ow, pq⟩ := h.pack p p1 p2
  obtain ⟨-, -, -, p6, -⟩ := p_cells pq
  rw [hw] at p6
  have hlp : ∀ n, (Instr.lookup 40 (.map (some g.mp)) (.int .i64 p) false).run Try.prog (w.drewN n) = .ok (pt (g.pb p)) (w.drewN n) := fun n => (h.drewN n).look_pack p1 p2 hm
  have q1 : ((to_ : Int) == (t : Int)) = false := by simp; omega
  have H := Lib.hid (And.intro h (And.intro hl (And.intro hv hcc)))
  have HCA := Lib.hid hc
  clear h hc kq tq pq hl hv hcc hw hne
  go_enter Try.func15, Try.ntmps15
  go_upto_region 1 with fail
  go_quiet (fail)
  go_upto_region 2 with fail
  go_quiet (fail)
  go_upto_region 4 with fail
  generalize hW : World.drewN _ _ = W
  obtain ⟨n4, hn4⟩ : ∃ n, w.drewN n = W := ⟨_, by rw [← hW]; (try rw [World.drewN_drewN])⟩
  clear hW
  have hW := hn4
  have H2 := Lib.hid (And.intro (hW ▸ H.out.1.drewN n4 : Rep g K W) (And.intro (hW ▸ (Step.refl g w).drewNr : Step g g w W) (hW ▸ HCA.out.drewN n4 : CallAt g W cb (pt (g.tb t)) p to_)))
  rw [← World.cell?_drewN (n := n4)] at c0 c1 c2 c3 t0
  rw [hW] at c0 c1 c2 c3 t0
  clear k2 p6 hlp hW hn4
  have HRow := Lib.hid (fun n => row_calls (H2.out.1.drewN n) rfl u1 u2 hn)
  go_quiet ((go_at_call 34; exact Calls.quiet_of_same (HRow.out _)))
  go_upto_region 6 with fail
  obtain ⟨W', hW⟩ : ∃ W', W.drewN nq = W' := ⟨_, rfl⟩
  have H2 := Lib.hid (And.intro (hW ▸ H2.out.1.drewN nq : Rep g K W') (And.intro (hW ▸ H2.out.2.1.drewNr : Step g g w W') (hW ▸ H2.out.2.2.drewN nq : CallAt g W' cb (pt (g.tb t)) p to_)))
  rw [← World.cell?_drewN (n := nq)] at c0 c1 c2 c3 t0
  rw [hW] at c0 c1 c2 c3 t0 ⊢
  clear hW
  refine wp_region_planH (aX := ?aXs) [17] [[], [17]] 1 [(0, 0, 0), (0, 1, 1), (1, 0, 0), (2, 0, 0), (3, 0, 0), (4, 0, 0), (5, 0, 0), (5, 1, 1), (6, 0, 0), (6, 1, 1), (7, 0, 0), (7, 1, 1), (8, 0, 0), (8, 1, 1), (9, 0, 0), (9, 1, 1), (10, 0, 0), (11, 0, 0), (12, 0, 0), (13, 0, 0), (13, 1, 1), (14, 0, 0), (15, 0, 0), (16, 0, 0), (17, 0, 1)]
    [pt cb, pt cb, .pointer (some ⟨cb, 0, none⟩), pt g.k, pt (g.pb p), pt cb, pt cb, .pointer (some ⟨cb, 1, none⟩), pt (g.tb t), pt (g.tb t), pt (g.tb t), pt (g.tb t), .int .i64 t, pt cb, pt cb, .pointer (some ⟨cb, 3, none⟩), .int .i64 to_, undef] (NumI W'.drew g (K.send t p to_)) (by kernel_rfl) (by kernel_rfl) rfl ?hXs (fun _ => undef) ?h0s ?hobs ?hends
  case hXs => intro ξ; simp only [mixAll, Act.put]; go_simp; rfl
  case h0s =>
    exact ⟨fun _ => rfl, fun q => absurd q (by decide)⟩
  case hobs =>
    refine oblsH_cons rfl (stepH_value rfl rfl ?_) ?_
    · rintro ξ w5 h5
      rfl
    refine oblsH_cons rfl (stepH_value rfl rfl ?_) ?_
    · rintro ξ w5 h5
      rfl
    refine oblsH_cons rfl (stepH_value rfl rfl ?_) ?_
    · rintro ξ w5 h5
      rfl
    refine oblsH_cons rfl (stepH_value rfl rfl ?_) ?_
    · rintro ξ w5 h5
      rfl
    refine oblsH_cons rfl (stepH_value rfl rfl ?_) ?_
    · rintro ξ w5 h5
      obtain rfl := h5.1 rfl
      clear h5
      go_simp
      try rfl
    refine oblsH_cons rfl (stepH_value rfl rfl ?_) ?_
    · rintro ξ w5 h5
      rfl
    refine oblsH_cons rfl (stepH_value rfl rfl ?_) ?_
    · rintro ξ w5 h5
      rfl
    refine oblsH_cons rfl (stepH_value rfl rfl ?_) ?_
    · rintro ξ w5 h5
      rfl
    refine oblsH_cons rfl (stepH_value rfl rfl ?_) ?_
    · rintro ξ w5 h5
      rfl
    refine oblsH_cons rfl (stepH_value rfl rfl ?_) ?_
    · rintro ξ w5 h5
      rfl
    refine oblsH_cons rfl (stepH_value rfl rfl ?_) ?_
    · rintro ξ w5 h5
      rfl
    refine oblsH_cons rfl (stepH_value rfl rfl ?_) ?_
    · rintro ξ w5 h5
      rfl
    refine oblsH_cons rfl (stepH_value rfl rfl ?_) ?_
    · rintro ξ w5 h5
      obtain rfl := h5.1 rfl
      clear h5
      go_simp
      try rfl
    refine oblsH_cons rfl (stepH_value rfl rfl ?_) ?_
    · rintro ξ w5 h5
      obtain ⟨ρ6, R6, s6⟩ := h5.2 rfl
      obtain ⟨c0, c1, c2, c3⟩ := c_cells (H2.out.2.2.drew.keep s6)
      obtain ⟨v6, tq6, -⟩ := R6.task t h1 h2
      obtain ⟨t0, -, -, -, -, -, -⟩ := t_cells tq6
      clear R6 s6 tq6
      clear h5
      go_simp
      try rfl
    refine oblsH_cons rfl (stepH_value rfl rfl ?_) ?_
    · rintro ξ w5 h5
      rfl
    refine oblsH_cons rfl (stepH_value rfl rfl ?_) ?_
    · rintro ξ w5 h5
      rfl
    refine oblsH_cons rfl (stepH_value rfl rfl ?_) ?_
    · rintro ξ w5 h5
      rfl
    refine oblsH_cons rfl (stepH_value rfl rfl ?_) ?_
    · rintro ξ w5 h5
      rfl
    refine oblsH_cons rfl (stepH_value rfl rfl ?_) ?_
    · rintro ξ w5 h5
      obtain rfl := h5.1 rfl
      clear h5
      go_simp
      try rfl
    refine oblsH_cons rfl (stepH_value rfl rfl ?_) ?_
    · rintro ξ w5 h5
      rfl
    refine oblsH_cons rfl (stepH_value rfl rfl ?_) ?_
    · rintro ξ w5 h5
      rfl
    refine oblsH_cons rfl (stepH_value rfl rfl ?_) ?_
    · rintro ξ w5 h5
      rfl
    refine oblsH_cons rfl (stepH_value rfl rfl ?_) ?_
    · rintro ξ w5 h5
      rfl
    refine oblsH_cons rfl (stepH_value rfl rfl ?_) ?_
    · rintro ξ w5 h5
      obtain rfl := h5.1 rfl
      clear h5
      go_simp
      try rfl
    refine oblsH_cons rfl (stepH_call rfl rfl ?_) ?_
    · rintro ξ w5 h5
      obtain rfl := h5.1 rfl
      refine ⟨35, #[pt g.k, pt (g.pb p), .int .i64 t, .int .i64 to_], by clear h5; go_simp, ?_⟩
      refine (move_calls H2.out.1.drew rfl u1 u2 hn p1 p2 H.out.2.1 H.out.2.2.1 H.out.2.2.2).mono ?_
      rintro e6 w6 ⟨rfl, hp⟩
      exact ⟨_, rfl, ⟨fun q => absurd q (by decide), fun _ => hp⟩⟩
    exact oblsH_nil
  case hends =>
    rintro ξ w5 h5
    obtain ⟨g5, R, s⟩ := h5.2 rfl
    have HF := Lib.hid (And.intro R (H2.out.2.1.trans s.drewl))
    clear h5 R s c0 c1 c2 c3 t0
    go_wp2_with fail
    go_ret2
    exact ⟨rfl, _, HF.out.1, HF.out.2⟩

/-- A packet more. -/
theorem Rep.make_done (h : Rep g K w) {t : Nat} {ty : Int} {ow : Nat} {mv : Value} {mvs : List Value} (hs : SliceT g.ρ (2, 0) w 86 4 mv mvs) (hl : mvs.length = 4 * K.v) (ht : Turn (fun k => k = g.k ∨ k = g.mp) w w') (hz : w'.heap.size = w.heap.size + 1)
    (hp : MapS w' g.mp (upd (tmap K.m g.pb) ((K.m + 1 : Nat) : Int) (some (pt w.heap.size)))) (hb : w'.heap[w.heap.size]? = some (.cells (pCells (K.m + 1) ⟨0, 0, t⟩ ty ow) 71 (0, 0)))
    (hk : w'.heap[g.k]? = some (.cells (kCells g { K with m := K.m + 1 } mv) 43 (0, 0))) :
    ∃ g', Rep g' (K.make t) w' ∧ Step g g' w w' := by
  have hr : ∀ k, k < w.heap.size → retag g.ρ w.heap.size (w.heap.size + 1) (4, ((K.m + 1 : Nat) : Int)) k = g.ρ k := fun k hk => retag_old _ _ hk
  have hB : ∀ k, k < w.heap.size → g.ρ k ≠ (1, 0) → g.ρ k ≠ (1, 3) → w'.heap[k]? = w.heap[k]? := fun k hk ha hb => ht.block k hk fun hh => by
    rcases hh with rfl | rfl
    · exact ha h.tk
    · exact hb h.tmp
  have hq : ∀ i, 1 ≤ i → i ≤ K.n → qv (updN g.pb (K.m + 1) w.heap.size) (K.ts i).q = qv g.pb (K.ts i).q := fun i i1 i2 => by
    unfold qv
    refine List.map_congr_left fun p hp => ?_
    rw [updN_ne _ _ (by have := h.qok i i1 i2 p hp; omega)]
  refine ⟨{ g with pb := updN g.pb (K.m + 1) w.heap.size, ρ := retag g.ρ w.heap.size (w.heap.size + 1) (4, ((K.m + 1 : Nat) : Int)) }, ?_, ht.mono (fun k _ e => ?_), hr, rfl⟩
  · exact { kb := ⟨mv, mvs, hk, hs.keep (fun k hk hr => hB k hk (by rw [hr]; simp) (by rw [hr]; simp)) hr, hl⟩
            tk := (hr _ h.klt).trans h.tk, tmt := (hr _ h.tm.lt).trans h.tmt, tmp := (hr _ h.pm.lt).trans h.tmp
            fresh := fun k hk => by
              dsimp only
              rw [retag_fresh (by omega)]
              exact h.fresh k (by omega)
            tm := h.tm.keep (hB _ h.tm.lt (by rw [h.tmt]; simp) (by rw [h.tmt]; simp))
            pm := by rw [tmap_add] at hp; exact hp
            tt := fun j j1 j2 => (hr _ (h.tlt j1 j2)).trans (h.tt j j1 j2)
            tp := fun j j1 j2 => by
              have j2 : j ≤ K.m + 1 := j2
              by_cases hj : j = K.m + 1
              · subst hj
                dsimp only
                rw [updN_self]
                exact retag_new _ _ (Nat.le_refl _) (Nat.lt_succ_self _)
              · dsimp only
                rw [updN_ne _ _ hj]
                exact (hr _ (h.plt j1 (by omega))).trans (h.tp j j1 (by omega))
            task := fun j j1 j2 => by
              obtain ⟨v, a, b⟩ := h.task j j1 j2
              refine ⟨v, by rw [hB _ (h.tlt j1 j2) (by rw [h.tt j j1 j2]; simp) (by rw [h.tt j j1 j2]; simp)]; exact a, ?_⟩
              show SliceT _ _ w' _ 1 v (qv (updN g.pb (K.m + 1) w.heap.size) (K.ts j).q)
              rw [hq j j1 j2]
              exact b.keep (fun k hk hr => hB k hk (by rw [hr]; simp) (by rw [hr]; simp)) hr
            pack := fun p j1 j2 => by
              have j2 : p ≤ K.m + 1 := j2
              by_cases hj : p = K.m + 1
              · subst hj
                exact ⟨ty, ow, by simpa [KS.make] using hb⟩
              · obtain ⟨ty, ow, a⟩ := h.pack p j1 (by omega)
                simp only [KS.make, updN_ne _ _ hj]
                exact ⟨ty, ow, by rw [hB _ (h.plt j1 (by omega)) (by rw [h.tp p j1 (by omega)]; simp) (by rw [h.tp p j1 (by omega)]; simp)]; exact a⟩
            qok := fun j j1 j2 p hp => by
              have := h.qok j j1 j2 p hp
              exact ⟨this.1, Nat.le_succ_of_le this.2⟩ }
  · rcases e with rfl | rfl
    · rw [h.tk]; simp
    · rw [h.tmp]; simp

/-- The stages of packet's region: 42 the box, 43 the map. -/
def PkI (W : World) (g : Gh) (K : KS) (x : Value) (s : Nat) (ξ : Nat → Value) (w : World) : Prop :=
  (s = 0 → w = W) ∧ (s = 1 → w = W.alloc (.cells x.cells 71) ∧ ξ 42 = pt W.heap.size) ∧
  (s = 2 → MapS w g.mp (upd (tmap K.m g.pb) ((K.m + 1 : Nat) : Int) (some (pt W.heap.size))) ∧ Turn (fun k => k = g.mp) (W.alloc (.cells x.cells 71)) w ∧ w.heap.size = W.heap.size + 1)

set_option maxRecDepth 10000 in
set_option maxHeartbeats 4000000 in
theorem packet_calls (h : Rep g K w) {t cb : Nat} {a b : Int} (h1 : 1 ≤ t) (h2 : t ≤ K.n) (hm : K.m ≤ 100) (hc : CallAt g w cb (pt (g.tb t)) a b) :
    Calls Try.prog 23 #[pt cb] w (NumPost g (K.make t) w (K.m + 1 : Nat)) := by
  obtain ⟨c0, c1, c2, c3⟩ := c_cells hc
  obtain ⟨mv, mvs, kq, ks, kl⟩ := h.kb
  obtain ⟨-, -, k2, k3, -, -, kf⟩ := k_cells kq
  obtain ⟨v, tq, -⟩ := h.task t h1 h2
  obtain ⟨t0, -, -, -, -, -, -⟩ := t_cells tq
  have hck : cb ≠ g.k := hc.ne (by rw [h.tk]; simp)
  have htk : g.tb t ≠ g.k := fun e => by have := h.tt t h1 h2; rw [e, h.tk] at this; cases this
  have q1 : ((K.m : Int) == 200) = false := by simp; omega
  have i1 : IntKind.i64.wrap ((K.m : Int) + 1) = (K.m : Int) + 1 := IntWalk.i64_in _ (by omega)
  have hkl := h.klt
  have hW : ∃ W, w.setCell ⟨g.k, 3, none⟩ (.int .i64 ((K.m : Int) + 1)) = W := ⟨_, rfl⟩
  obtain ⟨W, hW⟩ := hW
  have x0 : W.cell? ⟨cb, 0, none⟩ = some (pt g.k) := by rw [← hW, cell_far _ _ hck]; exact c0
  have x1 : W.cell? ⟨cb, 1, none⟩ = some (pt (g.tb t)) := by rw [← hW, cell_far _ _ hck]; exact c1
  have x2 : W.cell? ⟨cb, 2, none⟩ = some (.int .i64 a) := by rw [← hW, cell_far _ _ hck]; exact c2
  have x3 : W.cell? ⟨g.tb t, 0, none⟩ = some (.int .i64 t) := by rw [← hW, cell_far _ _ htk]; exact t0
  have hk1 : W.heap[g.k]? = some (.cells (kCells g { K with m := K.m + 1 } mv) 43 (0, 0)) := by rw [← hW]; exact heap_setCell_self _ kq
  have T1 : Turn (fun k => k = g.k) w W := by rw [← hW]; exact turn_set w g.k 3 _
  have Z1 : W.heap.size = w.heap.size := by rw [← hW]; simp
  have M1 : MapS W g.mp (tmap K.m g.pb) := h.pm.keep (T1.block _ h.pm.lt (fun e => by have := h.tmp; rw [e, h.tk] at this; cases this))
  obtain ⟨-, -, y2, y3, -, -, -⟩ := k_cells hk1
  have H := Lib.hid (And.intro h (And.intro ks (And.intro kl (And.intro T1 (And.intro Z1 (And.intro M1 hk1))))))
  have HW := Lib.hid hW
  have HC := Lib.hid (And.intro hck (And.intro (hc.ne (k := g.mp) (by rw [h.tmp]; simp)) (And.intro hc.lt c0)))
  clear h hc kq ks kl tq T1 Z1 M1 hk1 hW
  go_enter Try.func23, Try.ntmps23
  go_upto_region 4 with fail
  rw [HW.out]
  clear c0 c1 c2 c3 k2 k3 t0 kf hck htk q1 i1 HW
  refine wp_region_planH (aX := ?aXp) [42, 43] [[], [42], [42, 43]] 2 [(0, 0, 0), (0, 1, 1), (1, 0, 0), (1, 1, 1), (2, 0, 0), (2, 1, 1), (3, 0, 0), (3, 1, 1), (4, 0, 0), (4, 1, 1), (5, 0, 0), (5, 1, 1), (6, 0, 0), (6, 1, 1), (7, 0, 0), (7, 1, 1), (8, 0, 0), (8, 1, 1), (9, 0, 0), (9, 1, 1), (10, 0, 0), (10, 1, 1), (11, 0, 0), (11, 1, 1), (12, 0, 0), (12, 1, 1), (13, 0, 0), (13, 1, 1), (14, 0, 0), (14, 1, 1), (15, 0, 0), (15, 1, 1), (16, 0, 0), (16, 1, 1), (17, 0, 0), (17, 1, 1), (18, 0, 0), (18, 1, 1), (19, 0, 0), (20, 0, 0), (21, 0, 0), (21, 1, 1), (22, 0, 0), (22, 1, 1), (23, 0, 0), (24, 0, 0), (25, 0, 0), (25, 1, 1), (26, 0, 0), (26, 1, 1), (27, 0, 0), (27, 1, 1), (28, 0, 0), (28, 1, 1), (29, 0, 0), (29, 1, 1), (30, 0, 0), (30, 1, 1), (31, 0, 0), (32, 0, 0), (33, 0, 0), (33, 1, 1), (34, 0, 0), (34, 1, 1), (35, 0, 0), (35, 1, 1), (36, 0, 0), (36, 1, 1), (37, 0, 0), (37, 1, 1), (38, 0, 0), (38, 1, 1), (39, 0, 0), (40, 0, 0), (41, 0, 0), (42, 0, 1), (43, 1, 2)]
    [pt cb, pt cb, .pointer (some ⟨cb, 0, none⟩), pt g.k, pt g.k, .pointer (some ⟨g.k, 2, none⟩), .map (some g.mp), pt cb, pt cb, .pointer (some ⟨cb, 0, none⟩), pt g.k, pt g.k, .pointer (some ⟨g.k, 3, none⟩), .int .i64 ((K.m : Int) + 1), pt cb, pt cb, .pointer (some ⟨cb, 0, none⟩), pt g.k, pt g.k, .pointer (some ⟨g.k, 3, none⟩), .int .i64 ((K.m : Int) + 1), pt cb, pt cb, .pointer (some ⟨cb, 2, none⟩), .int .i64 a, pt cb, pt cb, .pointer (some ⟨cb, 1, none⟩), pt (g.tb t), pt (g.tb t), pt (g.tb t), pt (g.tb t), .int .i64 t, pt cb, pt cb, .pointer (some ⟨cb, 1, none⟩), pt (g.tb t), pt (g.tb t), pt (g.tb t), pt (g.tb t), .int .i64 t, .agg #[.int .i64 ((K.m : Int) + 1), .int .i64 a, .int .i64 0, .int .i64 t, .int .i64 0, .int .i64 0, .int .i64 t], undef, undef] (PkI W.drew g K (.agg #[.int .i64 ((K.m : Int) + 1), .int .i64 a, .int .i64 0, .int .i64 t, .int .i64 0, .int .i64 0, .int .i64 t])) (by kernel_rfl) (by kernel_rfl) rfl ?hXp (fun _ => undef) ?h0p ?hobp ?hendp
  case hXp => intro ξ; simp only [mixAll, Act.put]; go_simp; rfl
  case h0p =>
    exact ⟨fun _ => rfl, fun q => absurd q (by decide), fun q => absurd q (by decide)⟩
  case hobp =>
    refine oblsH_cons rfl (stepH_value rfl rfl ?_) ?_
    · rintro ξ w5 h5
      rfl
    refine oblsH_cons rfl (stepH_value rfl rfl ?_) ?_
    · rintro ξ w5 h5
      rfl
    refine oblsH_cons rfl (stepH_value rfl rfl ?_) ?_
    · rintro ξ w5 h5
      rfl
    refine oblsH_cons rfl (stepH_value rfl rfl ?_) ?_
    · rintro ξ w5 h5
      rfl
    refine oblsH_cons rfl (stepH_value rfl rfl ?_) ?_
    · rintro ξ w5 h5
      rfl
    refine oblsH_cons rfl (stepH_value rfl rfl ?_) ?_
    · rintro ξ w5 h5
      rfl
    refine oblsH_cons rfl (stepH_value rfl rfl ?_) ?_
    · rintro ξ w5 h5
      obtain rfl := h5.1 rfl
      clear h5
      go_simp
      try rfl
    refine oblsH_cons rfl (stepH_value rfl rfl ?_) ?_
    · rintro ξ w5 h5
      obtain ⟨rfl, h42⟩ := h5.2.1 rfl
      have x0 := old_alloc W (.cells #[.int .i64 ((K.m : Int) + 1), .int .i64 a, .int .i64 0, .int .i64 t, .int .i64 0, .int .i64 0, .int .i64 t] 71) x0
      have x1 := old_alloc W (.cells #[.int .i64 ((K.m : Int) + 1), .int .i64 a, .int .i64 0, .int .i64 t, .int .i64 0, .int .i64 0, .int .i64 t] 71) x1
      have x2 := old_alloc W (.cells #[.int .i64 ((K.m : Int) + 1), .int .i64 a, .int .i64 0, .int .i64 t, .int .i64 0, .int .i64 0, .int .i64 t] 71) x2
      have x3 := old_alloc W (.cells #[.int .i64 ((K.m : Int) + 1), .int .i64 a, .int .i64 0, .int .i64 t, .int .i64 0, .int .i64 0, .int .i64 t] 71) x3
      have y2 := old_alloc W (.cells #[.int .i64 ((K.m : Int) + 1), .int .i64 a, .int .i64 0, .int .i64 t, .int .i64 0, .int .i64 0, .int .i64 t] 71) y2
      have y3 := old_alloc W (.cells #[.int .i64 ((K.m : Int) + 1), .int .i64 a, .int .i64 0, .int .i64 t, .int .i64 0, .int .i64 0, .int .i64 t] 71) y3
      clear h5
      go_simp
      try rfl
    refine oblsH_cons rfl (stepH_value rfl rfl ?_) ?_
    · rintro ξ w5 h5
      rfl
    refine oblsH_cons rfl (stepH_value rfl rfl ?_) ?_
    · rintro ξ w5 h5
      rfl
    refine oblsH_cons rfl (stepH_value rfl rfl ?_) ?_
    · rintro ξ w5 h5
      rfl
    refine oblsH_cons rfl (stepH_value rfl rfl ?_) ?_
    · rintro ξ w5 h5
      rfl
    refine oblsH_cons rfl (stepH_value rfl rfl ?_) ?_
    · rintro ξ w5 h5
      obtain rfl := h5.1 rfl
      clear h5
      go_simp
      try rfl
    refine oblsH_cons rfl (stepH_value rfl rfl ?_) ?_
    · rintro ξ w5 h5
      obtain ⟨rfl, h42⟩ := h5.2.1 rfl
      have x0 := old_alloc W (.cells #[.int .i64 ((K.m : Int) + 1), .int .i64 a, .int .i64 0, .int .i64 t, .int .i64 0, .int .i64 0, .int .i64 t] 71) x0
      have x1 := old_alloc W (.cells #[.int .i64 ((K.m : Int) + 1), .int .i64 a, .int .i64 0, .int .i64 t, .int .i64 0, .int .i64 0, .int .i64 t] 71) x1
      have x2 := old_alloc W (.cells #[.int .i64 ((K.m : Int) + 1), .int .i64 a, .int .i64 0, .int .i64 t, .int .i64 0, .int .i64 0, .int .i64 t] 71) x2
      have x3 := old_alloc W (.cells #[.int .i64 ((K.m : Int) + 1), .int .i64 a, .int .i64 0, .int .i64 t, .int .i64 0, .int .i64 0, .int .i64 t] 71) x3
      have y2 := old_alloc W (.cells #[.int .i64 ((K.m : Int) + 1), .int .i64 a, .int .i64 0, .int .i64 t, .int .i64 0, .int .i64 0, .int .i64 t] 71) y2
      have y3 := old_alloc W (.cells #[.int .i64 ((K.m : Int) + 1), .int .i64 a, .int .i64 0, .int .i64 t, .int .i64 0, .int .i64 0, .int .i64 t] 71) y3
      clear h5
      go_simp
      try rfl
    refine oblsH_cons rfl (stepH_value rfl rfl ?_) ?_
    · rintro ξ w5 h5
      rfl
    refine oblsH_cons rfl (stepH_value rfl rfl ?_) ?_
    · rintro ξ w5 h5
      rfl
    refine oblsH_cons rfl (stepH_value rfl rfl ?_) ?_
    · rintro ξ w5 h5
      rfl
    refine oblsH_cons rfl (stepH_value rfl rfl ?_) ?_
    · rintro ξ w5 h5
      rfl
    refine oblsH_cons rfl (stepH_value rfl rfl ?_) ?_
    · rintro ξ w5 h5
      rfl
    refine oblsH_cons rfl (stepH_value rfl rfl ?_) ?_
    · rintro ξ w5 h5
      rfl
    refine oblsH_cons rfl (stepH_value rfl rfl ?_) ?_
    · rintro ξ w5 h5
      obtain rfl := h5.1 rfl
      clear h5
      go_simp
      try rfl
    refine oblsH_cons rfl (stepH_value rfl rfl ?_) ?_
    · rintro ξ w5 h5
      obtain ⟨rfl, h42⟩ := h5.2.1 rfl
      have x0 := old_alloc W (.cells #[.int .i64 ((K.m : Int) + 1), .int .i64 a, .int .i64 0, .int .i64 t, .int .i64 0, .int .i64 0, .int .i64 t] 71) x0
      have x1 := old_alloc W (.cells #[.int .i64 ((K.m : Int) + 1), .int .i64 a, .int .i64 0, .int .i64 t, .int .i64 0, .int .i64 0, .int .i64 t] 71) x1
      have x2 := old_alloc W (.cells #[.int .i64 ((K.m : Int) + 1), .int .i64 a, .int .i64 0, .int .i64 t, .int .i64 0, .int .i64 0, .int .i64 t] 71) x2
      have x3 := old_alloc W (.cells #[.int .i64 ((K.m : Int) + 1), .int .i64 a, .int .i64 0, .int .i64 t, .int .i64 0, .int .i64 0, .int .i64 t] 71) x3
      have y2 := old_alloc W (.cells #[.int .i64 ((K.m : Int) + 1), .int .i64 a, .int .i64 0, .int .i64 t, .int .i64 0, .int .i64 0, .int .i64 t] 71) y2
      have y3 := old_alloc W (.cells #[.int .i64 ((K.m : Int) + 1), .int .i64 a, .int .i64 0, .int .i64 t, .int .i64 0, .int .i64 0, .int .i64 t] 71) y3
      clear h5
      go_simp
      try rfl
    refine oblsH_cons rfl (stepH_value rfl rfl ?_) ?_
    · rintro ξ w5 h5
      rfl
    refine oblsH_cons rfl (stepH_value rfl rfl ?_) ?_
    · rintro ξ w5 h5
      rfl
    refine oblsH_cons rfl (stepH_value rfl rfl ?_) ?_
    · rintro ξ w5 h5
      rfl
    refine oblsH_cons rfl (stepH_value rfl rfl ?_) ?_
    · rintro ξ w5 h5
      rfl
    refine oblsH_cons rfl (stepH_value rfl rfl ?_) ?_
    · rintro ξ w5 h5
      obtain rfl := h5.1 rfl
      clear h5
      go_simp
      try rfl
    refine oblsH_cons rfl (stepH_value rfl rfl ?_) ?_
    · rintro ξ w5 h5
      obtain ⟨rfl, h42⟩ := h5.2.1 rfl
      have x0 := old_alloc W (.cells #[.int .i64 ((K.m : Int) + 1), .int .i64 a, .int .i64 0, .int .i64 t, .int .i64 0, .int .i64 0, .int .i64 t] 71) x0
      have x1 := old_alloc W (.cells #[.int .i64 ((K.m : Int) + 1), .int .i64 a, .int .i64 0, .int .i64 t, .int .i64 0, .int .i64 0, .int .i64 t] 71) x1
      have x2 := old_alloc W (.cells #[.int .i64 ((K.m : Int) + 1), .int .i64 a, .int .i64 0, .int .i64 t, .int .i64 0, .int .i64 0, .int .i64 t] 71) x2
      have x3 := old_alloc W (.cells #[.int .i64 ((K.m : Int) + 1), .int .i64 a, .int .i64 0, .int .i64 t, .int .i64 0, .int .i64 0, .int .i64 t] 71) x3
      have y2 := old_alloc W (.cells #[.int .i64 ((K.m : Int) + 1), .int .i64 a, .int .i64 0, .int .i64 t, .int .i64 0, .int .i64 0, .int .i64 t] 71) y2
      have y3 := old_alloc W (.cells #[.int .i64 ((K.m : Int) + 1), .int .i64 a, .int .i64 0, .int .i64 t, .int .i64 0, .int .i64 0, .int .i64 t] 71) y3
      clear h5
      go_simp
      try rfl
    refine oblsH_cons rfl (stepH_value rfl rfl ?_) ?_
    · rintro ξ w5 h5
      rfl
    refine oblsH_cons rfl (stepH_value rfl rfl ?_) ?_
    · rintro ξ w5 h5
      rfl
    refine oblsH_cons rfl (stepH_value rfl rfl ?_) ?_
    · rintro ξ w5 h5
      rfl
    refine oblsH_cons rfl (stepH_value rfl rfl ?_) ?_
    · rintro ξ w5 h5
      rfl
    refine oblsH_cons rfl (stepH_value rfl rfl ?_) ?_
    · rintro ξ w5 h5
      rfl
    refine oblsH_cons rfl (stepH_value rfl rfl ?_) ?_
    · rintro ξ w5 h5
      rfl
    refine oblsH_cons rfl (stepH_value rfl rfl ?_) ?_
    · rintro ξ w5 h5
      obtain rfl := h5.1 rfl
      clear h5
      go_simp
      try rfl
    refine oblsH_cons rfl (stepH_value rfl rfl ?_) ?_
    · rintro ξ w5 h5
      obtain ⟨rfl, h42⟩ := h5.2.1 rfl
      have x0 := old_alloc W (.cells #[.int .i64 ((K.m : Int) + 1), .int .i64 a, .int .i64 0, .int .i64 t, .int .i64 0, .int .i64 0, .int .i64 t] 71) x0
      have x1 := old_alloc W (.cells #[.int .i64 ((K.m : Int) + 1), .int .i64 a, .int .i64 0, .int .i64 t, .int .i64 0, .int .i64 0, .int .i64 t] 71) x1
      have x2 := old_alloc W (.cells #[.int .i64 ((K.m : Int) + 1), .int .i64 a, .int .i64 0, .int .i64 t, .int .i64 0, .int .i64 0, .int .i64 t] 71) x2
      have x3 := old_alloc W (.cells #[.int .i64 ((K.m : Int) + 1), .int .i64 a, .int .i64 0, .int .i64 t, .int .i64 0, .int .i64 0, .int .i64 t] 71) x3
      have y2 := old_alloc W (.cells #[.int .i64 ((K.m : Int) + 1), .int .i64 a, .int .i64 0, .int .i64 t, .int .i64 0, .int .i64 0, .int .i64 t] 71) y2
      have y3 := old_alloc W (.cells #[.int .i64 ((K.m : Int) + 1), .int .i64 a, .int .i64 0, .int .i64 t, .int .i64 0, .int .i64 0, .int .i64 t] 71) y3
      clear h5
      go_simp
      try rfl
    refine oblsH_cons rfl (stepH_value rfl rfl ?_) ?_
    · rintro ξ w5 h5
      rfl
    refine oblsH_cons rfl (stepH_value rfl rfl ?_) ?_
    · rintro ξ w5 h5
      rfl
    refine oblsH_cons rfl (stepH_value rfl rfl ?_) ?_
    · rintro ξ w5 h5
      rfl
    refine oblsH_cons rfl (stepH_value rfl rfl ?_) ?_
    · rintro ξ w5 h5
      obtain rfl := h5.1 rfl
      clear h5
      go_simp
      try rfl
    refine oblsH_cons rfl (stepH_value rfl rfl ?_) ?_
    · rintro ξ w5 h5
      rfl
    refine oblsH_cons rfl (stepH_value rfl rfl ?_) ?_
    · rintro ξ w5 h5
      rfl
    refine oblsH_cons rfl (stepH_value rfl rfl ?_) ?_
    · rintro ξ w5 h5
      rfl
    refine oblsH_cons rfl (stepH_value rfl rfl ?_) ?_
    · rintro ξ w5 h5
      rfl
    refine oblsH_cons rfl (stepH_value rfl rfl ?_) ?_
    · rintro ξ w5 h5
      rfl
    refine oblsH_cons rfl (stepH_value rfl rfl ?_) ?_
    · rintro ξ w5 h5
      obtain rfl := h5.1 rfl
      clear h5
      go_simp
      try rfl
    refine oblsH_cons rfl (stepH_value rfl rfl ?_) ?_
    · rintro ξ w5 h5
      rfl
    refine oblsH_cons rfl (stepH_value rfl rfl ?_) ?_
    · rintro ξ w5 h5
      rfl
    refine oblsH_cons rfl (stepH_value rfl rfl ?_) ?_
    · rintro ξ w5 h5
      rfl
    refine oblsH_cons rfl (stepH_value rfl rfl ?_) ?_
    · rintro ξ w5 h5
      rfl
    refine oblsH_cons rfl (stepH_value rfl rfl ?_) ?_
    · rintro ξ w5 h5
      rfl
    refine oblsH_cons rfl (stepH_value rfl rfl ?_) ?_
    · rintro ξ w5 h5
      rfl
    refine oblsH_cons rfl (stepH_value rfl rfl ?_) ?_
    · rintro ξ w5 h5
      obtain rfl := h5.1 rfl
      clear h5
      go_simp
      try rfl
    refine oblsH_cons rfl (stepH_value rfl rfl ?_) ?_
    · rintro ξ w5 h5
      obtain ⟨rfl, h42⟩ := h5.2.1 rfl
      have x0 := old_alloc W (.cells #[.int .i64 ((K.m : Int) + 1), .int .i64 a, .int .i64 0, .int .i64 t, .int .i64 0, .int .i64 0, .int .i64 t] 71) x0
      have x1 := old_alloc W (.cells #[.int .i64 ((K.m : Int) + 1), .int .i64 a, .int .i64 0, .int .i64 t, .int .i64 0, .int .i64 0, .int .i64 t] 71) x1
      have x2 := old_alloc W (.cells #[.int .i64 ((K.m : Int) + 1), .int .i64 a, .int .i64 0, .int .i64 t, .int .i64 0, .int .i64 0, .int .i64 t] 71) x2
      have x3 := old_alloc W (.cells #[.int .i64 ((K.m : Int) + 1), .int .i64 a, .int .i64 0, .int .i64 t, .int .i64 0, .int .i64 0, .int .i64 t] 71) x3
      have y2 := old_alloc W (.cells #[.int .i64 ((K.m : Int) + 1), .int .i64 a, .int .i64 0, .int .i64 t, .int .i64 0, .int .i64 0, .int .i64 t] 71) y2
      have y3 := old_alloc W (.cells #[.int .i64 ((K.m : Int) + 1), .int .i64 a, .int .i64 0, .int .i64 t, .int .i64 0, .int .i64 0, .int .i64 t] 71) y3
      clear h5
      go_simp
      try rfl
    refine oblsH_cons rfl (stepH_value rfl rfl ?_) ?_
    · rintro ξ w5 h5
      rfl
    refine oblsH_cons rfl (stepH_value rfl rfl ?_) ?_
    · rintro ξ w5 h5
      rfl
    refine oblsH_cons rfl (stepH_value rfl rfl ?_) ?_
    · rintro ξ w5 h5
      rfl
    refine oblsH_cons rfl (stepH_value rfl rfl ?_) ?_
    · rintro ξ w5 h5
      rfl
    refine oblsH_cons rfl (stepH_value rfl rfl ?_) ?_
    · rintro ξ w5 h5
      rfl
    refine oblsH_cons rfl (stepH_value rfl rfl ?_) ?_
    · rintro ξ w5 h5
      obtain rfl := h5.1 rfl
      clear h5
      go_simp
      try rfl
    refine oblsH_cons rfl (stepH_value rfl rfl ?_) ?_
    · rintro ξ w5 h5
      rfl
    refine oblsH_cons rfl (stepH_value rfl rfl ?_) ?_
    · rintro ξ w5 h5
      rfl
    refine oblsH_cons rfl (stepH_value rfl rfl ?_) ?_
    · rintro ξ w5 h5
      rfl
    refine oblsH_cons rfl (stepH_value rfl rfl ?_) ?_
    · rintro ξ w5 h5
      rfl
    refine oblsH_cons rfl (stepH_value rfl rfl ?_) ?_
    · rintro ξ w5 h5
      rfl
    refine oblsH_cons rfl (stepH_value rfl rfl ?_) ?_
    · rintro ξ w5 h5
      rfl
    refine oblsH_cons rfl (stepH_value rfl rfl ?_) ?_
    · rintro ξ w5 h5
      obtain rfl := h5.1 rfl
      clear h5
      go_simp
      try rfl
    refine oblsH_cons rfl (stepH_value rfl rfl ?_) ?_
    · rintro ξ w5 h5
      obtain ⟨rfl, h42⟩ := h5.2.1 rfl
      have x0 := old_alloc W (.cells #[.int .i64 ((K.m : Int) + 1), .int .i64 a, .int .i64 0, .int .i64 t, .int .i64 0, .int .i64 0, .int .i64 t] 71) x0
      have x1 := old_alloc W (.cells #[.int .i64 ((K.m : Int) + 1), .int .i64 a, .int .i64 0, .int .i64 t, .int .i64 0, .int .i64 0, .int .i64 t] 71) x1
      have x2 := old_alloc W (.cells #[.int .i64 ((K.m : Int) + 1), .int .i64 a, .int .i64 0, .int .i64 t, .int .i64 0, .int .i64 0, .int .i64 t] 71) x2
      have x3 := old_alloc W (.cells #[.int .i64 ((K.m : Int) + 1), .int .i64 a, .int .i64 0, .int .i64 t, .int .i64 0, .int .i64 0, .int .i64 t] 71) x3
      have y2 := old_alloc W (.cells #[.int .i64 ((K.m : Int) + 1), .int .i64 a, .int .i64 0, .int .i64 t, .int .i64 0, .int .i64 0, .int .i64 t] 71) y2
      have y3 := old_alloc W (.cells #[.int .i64 ((K.m : Int) + 1), .int .i64 a, .int .i64 0, .int .i64 t, .int .i64 0, .int .i64 0, .int .i64 t] 71) y3
      clear h5
      go_simp
      try rfl
    refine oblsH_cons rfl (stepH_value rfl rfl ?_) ?_
    · rintro ξ w5 h5
      rfl
    refine oblsH_cons rfl (stepH_value rfl rfl ?_) ?_
    · rintro ξ w5 h5
      rfl
    refine oblsH_cons rfl (stepH_value rfl rfl ?_) ?_
    · rintro ξ w5 h5
      rfl
    refine oblsH_cons rfl (stepH_value rfl rfl ?_) ?_
    · rintro ξ w5 h5
      rfl
    refine oblsH_cons rfl (stepH_value rfl rfl ?_) ?_
    · rintro ξ w5 h5
      rfl
    refine oblsH_cons rfl (stepH_value rfl rfl ?_) ?_
    · rintro ξ w5 h5
      obtain rfl := h5.1 rfl
      clear h5
      go_simp
      try rfl
    refine oblsH_cons rfl (stepH_value rfl rfl ?_) ?_
    · rintro ξ w5 h5
      obtain rfl := h5.1 rfl
      clear h5
      go_simp
      try rfl
    refine oblsH_cons rfl (stepH_make rfl rfl ?_) ?_
    · rintro ξ w5 h5
      obtain rfl := h5.1 rfl
      refine ⟨_, _, ?_, ⟨fun q => absurd q (by decide), fun _ => ⟨rfl, rfl⟩, fun q => absurd q (by decide)⟩⟩
      clear h5
      go_simp
    refine oblsH_cons rfl (stepH_store rfl rfl rfl ?_) ?_
    · rintro ξ w5 h5
      obtain ⟨rfl, h42⟩ := h5.2.1 rfl
      clear h5
      have M2 : MapS (W.drew.alloc (.cells (Value.agg #[.int .i64 ((K.m : Int) + 1), .int .i64 a, .int .i64 0, .int .i64 t, .int .i64 0, .int .i64 0, .int .i64 t]).cells 71)) g.mp (tmap K.m g.pb) := H.out.2.2.2.2.2.1.keep (heap_alloc_lt W.drew _ _ H.out.2.2.2.2.2.1.lt)
      obtain ⟨w6, r0, r1, r2, r3⟩ := M2.update (P := Try.prog) (t := 40) Try.underlying3 Try.underlying40 (k := ((K.m + 1 : Nat) : Int)) (wf_i64 (by omega) (by omega)) (pt W.drew.heap.size)
      refine ⟨w6, ?_, ⟨fun q => absurd q (by decide), fun q => absurd q (by decide), fun _ => ⟨r1, r2, by rw [r3]; simp⟩⟩⟩
      refine exec_update _ _ _ rfl ?_
      show (Instr.mapUpdate 40 (.map (some g.mp)) (.int .i64 ((K.m : Int) + 1)) (ξ 42)).run Try.prog _ = _
      rw [h42]
      exact r0
    exact oblsH_nil
  case hendp =>
    rintro ξ w5 h5
    obtain ⟨r1, r2, r3⟩ := h5.2.2 rfl
    have hz : W.drew.heap.size = w.heap.size := H.out.2.2.2.2.1
    have hz' : W.heap.size = w.heap.size := H.out.2.2.2.2.1
    have T5 : Turn (fun k => k = g.k ∨ k = g.mp) w w5 :=
      ((H.out.2.2.2.1.mono fun _ _ e => .inl e).drew.alloc _).trans (r2.mono fun k _ e => .inr e)
    have hmk : g.mp ≠ g.k := fun e => by have := H.out.1.tmp; rw [e, H.out.1.tk] at this; cases this
    have hmz : g.mp < w.heap.size := H.out.1.pm.lt
    have hB : w5.heap[w.heap.size]? = some (.cells (pCells (K.m + 1) ⟨0, 0, t⟩ a t) 71 (0, 0)) := by
      rw [r2.block _ (by simp; omega) (by omega), ← hz]
      exact heap_alloc_new W.drew _
    have hk5 : w5.heap[g.k]? = some (.cells (kCells g { K with m := K.m + 1 } mv) 43 (0, 0)) := by
      rw [r2.block _ (by simp; omega) (fun e => hmk e.symm), heap_alloc_lt W.drew _ _ (by rw [hz]; exact hkl)]
      exact H.out.2.2.2.2.2.2
    rw [hz] at r1
    have HF := Lib.hid (H.out.1.make_done H.out.2.1 H.out.2.2.1 T5 (by rw [r3, hz]) r1 hB hk5)
    obtain ⟨-, -, -, z3, -, -, -⟩ := k_cells hk5
    have z0 : w5.cell? ⟨cb, 0, none⟩ = some (pt g.k) := by
      rw [T5.cell (p := ⟨cb, 0, none⟩) (fun e => by rcases e with e | e; exact HC.out.1 e; exact HC.out.2.1 e) HC.out.2.2.1]; exact HC.out.2.2.2
    clear h5 r1 r2 r3 hz hz' T5 hmk hmz hB hk5 x0 x1 x2 x3 y2 y3
    dsimp only at z3
    go_wp2_with fail
    go_ret2
    exact ⟨rfl, HF.out⟩
end
end Go.Rnd
