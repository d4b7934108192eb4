/-
  taken, create, walked. (Printed by rnd/gen/pl.py out of rnd/gen/RndMake.src.)
-/
import Derived.Test.YtcfegaclbkggpaaRndRun
namespace Go.Own
section
variable {P : Program} {l : List Oper} {eff : List Nat} {aX : (Nat → Value) → Act} {PI : Nat → (Nat → Value) → World → Prop} {i s s' : Nat} {o : Oper}
theorem stepH_valueG (hw : ∀ ξ, Region.wanted o (yielded l.toArray (aX ξ).tmps) = true) (he : eff.contains i = false) (h : ∀ ξ w, PI s ξ w → (execOp (aX ξ).eval o).run P w = .ok (.value (valOf (aX ξ) o)) w) : StepH P l eff aX PI i s s' o :=
  fun ξ w hp => .inl ⟨hw ξ, .inl ⟨h ξ w hp, he⟩⟩
theorem stepH_callG (hw : ∀ ξ, Region.wanted o (yielded l.toArray (aX ξ).tmps) = true) (he : eff.contains i = true) (h : ∀ ξ w, PI s ξ w → ∃ f args, (execOp (aX ξ).eval o).run P w = .ok (.enter f args) w ∧ Calls P f args w (fun e w' => ∃ v, e = .returned v ∧ PI s' (updV ξ i v) w')) : StepH P l eff aX PI i s s' o :=
  fun ξ w hp => .inl ⟨hw ξ, .inr (.inr (.inr ⟨he, h ξ w hp⟩))⟩
end
end Go.Own
namespace Go.Rnd
open Go.Own Go.RowKit Go.Proofs

section
variable {g : Gh} {K : KS} {w w' : World}

set_option maxRecDepth 10000 in
set_option maxHeartbeats 2000000 in
theorem taken_no (h : Rep g K w) {kb : Nat} (hk : g.k = kb) (p b : Int) (hp : ∀ i, 1 ≤ i → i ≤ K.n → (K.ts i).pri ≠ p) :
    Calls Try.prog 31 #[pt kb, .int .i64 p, .int .i64 b] w fun e w' => e = .returned (.bool false) ∧ Turn (fun _ => False) w w' := by
  subst hk
  obtain ⟨mv, mvs, kq, -, -⟩ := h.kb
  obtain ⟨k0, -, -, -, -, -, -⟩ := k_cells kq
  have H := Lib.hid (And.intro h hp)
  clear h kq hp
  go_enter Try.func31, Try.ntmps31
  go_wp2_with (first
    | (at_range
       refine wpList_rangeS rfl _ rfl Try.underlying38 rfl (H.out.1.tm) ?_
       intro w0 cnt0 hrg0 ho
       obtain ⟨o1, ho1⟩ := ho
       have hX := Lib.hid (And.intro hrg0 ho1)
       clear hrg0 ho1)
    | go_in)
  go_frame
  have T1 : Turn (fun _ => False) w w0 := by
    rw [hX.out.2]
    exact (Turn.refl (fun _ => False) w).alloc _
  obtain ⟨R, hR⟩ : ∃ R, w.heap.size = R := ⟨_, rfl⟩
  have HS := Lib.hid (And.intro (show RangeAt w0 g.mt R _ _ _ from hR ▸ hX.out.1) (And.intro T1 hR))
  clear T1 hX
  rw [hR]
  clear hR k0
  go_loopg [] (cnt0) (fun gk wr => ∃ left, RangeAt wr g.mt R (tmap K.n g.tb) left gk ∧ Turn (fun _ => False) w wr)
  case atStart => exact ⟨_, HS.out.1, HS.out.2.1⟩
  case round =>
    obtain ⟨left, hrg, hT⟩ := hrel
    have HT := Lib.hid hT
    clear hT
    go_wp2_with (first
      | (at_next; refine wpList_nextS rfl _ rfl rfl hrg ?_ ?_)
      | go_in)
    · intro hc0 hl0
      clear hl0 hrg
      go_wp2
      go_ret
      exact ⟨rfl, HT.out⟩
    · intro k v1 w1 cnt1 hwk hlk hfk hrg1 hlt htn hsz hen
      obtain ⟨j, rfl, j1, j2, rfl⟩ := tmap_some hfk
      have R1 : Turn (fun _ => False) w w1 := HT.out.trans' htn (by rw [HS.out.2.2]; exact Nat.le_refl _)
      obtain ⟨v2, tq, -⟩ := (H.out.1.new R1).task j j1 j2
      obtain ⟨-, s1, -, -, -, -, -⟩ := t_cells tq
      have q1 : ((K.ts j).pri == p) = false := beq_eq_false_iff_ne.2 (H.out.2 j j1 j2)
      have HN := Lib.hid (And.intro hrg1 (And.intro R1 hlt))
      clear hrg hrg1 htn hlt tq hfk hlk hwk R1
      go_wp2
      go_roundg (cnt1)
      case measure => exact HN.out.2.2
      case rel => exact ⟨_, HN.out.1, HN.out.2.1⟩

/-- A task more. -/
theorem Rep.add_done (h : Rep g K w) {p : Int} {b : Nat} (ht : Turn (fun k => k = g.mt) w w') (hb0 : w.heap.size ≤ b) (hz : b < w'.heap.size)
    (hp : MapS w' g.mt (upd (tmap K.n g.tb) ((K.n + 1 : Nat) : Int) (some (pt b)))) (hb : w'.heap[b]? = some (.cells (tCells (K.n + 1) ⟨p, false, []⟩ (.slice none 0 0)) 60 (0, 0))) :
    ∃ g', Rep g' (K.add p) w' ∧ Step g g' w w' := by
  have hr : ∀ k, k < w.heap.size → retag g.ρ w.heap.size w'.heap.size (3, ((K.n + 1 : Nat) : Int)) k = g.ρ k := fun k hk => retag_old _ _ hk
  have hB : ∀ k, k < w.heap.size → g.ρ k ≠ (1, 1) → w'.heap[k]? = w.heap[k]? := fun k hk ha => ht.block k hk fun hh => by
    subst hh
    exact ha h.tmt
  refine ⟨{ g with tb := updN g.tb (K.n + 1) b, ρ := retag g.ρ w.heap.size w'.heap.size (3, ((K.n + 1 : Nat) : Int)) }, ?_, ht.mono (fun k _ e => ?_), hr, rfl⟩
  · exact { kb := by
              obtain ⟨mv, mvs, a, b, c⟩ := h.kb
              exact ⟨mv, mvs, by rw [hB g.k h.klt (by rw [h.tk]; simp)]; exact a, b.keep (fun k hk hr => hB k hk (by rw [hr]; simp)) hr, c⟩
            tk := (hr _ h.klt).trans h.tk, tmt := (hr _ h.tm.lt).trans h.tmt, tmp := (hr _ h.pm.lt).trans h.tmp
            fresh := fun k hk => by
              dsimp only
              rw [retag_fresh hk]
              exact h.fresh k (by have := ht.size; omega)
            tm := by rw [tmap_add] at hp; exact hp
            pm := h.pm.keep (hB _ h.pm.lt (by rw [h.tmp]; simp))
            tt := fun j j1 j2 => by
              have j2 : j ≤ K.n + 1 := j2
              by_cases hj : j = K.n + 1
              · subst hj
                dsimp only
                rw [updN_self]
                exact retag_new _ _ hb0 hz
              · dsimp only
                rw [updN_ne _ _ hj]
                exact (hr _ (h.tlt j1 (by omega))).trans (h.tt j j1 (by omega))
            tp := fun j j1 j2 => (hr _ (h.plt j1 j2)).trans (h.tp j j1 j2)
            task := fun j j1 j2 => by
              have j2 : j ≤ K.n + 1 := j2
              by_cases hj : j = K.n + 1
              · subst hj
                exact ⟨.slice none 0 0, by simpa [KS.add] using hb, by simpa [KS.add, qv] using SliceT.nil _ _ _ _ _⟩
              · obtain ⟨v, a, b⟩ := h.task j j1 (by omega)
                simp only [KS.add, updN_ne _ _ hj]
                exact ⟨v, by rw [hB _ (h.tlt j1 (by omega)) (by rw [h.tt j j1 (by omega)]; simp)]; exact a, b.keep (fun k hk hr => hB k hk (by rw [hr]; simp)) hr⟩
            pack := fun p j1 j2 => by
              obtain ⟨ty, ow, a⟩ := h.pack p j1 j2
              exact ⟨ty, ow, by rw [hB _ (h.plt j1 j2) (by rw [h.tp p j1 j2]; simp)]; exact a⟩
            qok := fun j j1 j2 => by
              have j2 : j ≤ K.n + 1 := j2
              by_cases hj : j = K.n + 1
              · subst hj
                simp [KS.add]
              · simp only [KS.add, updN_ne _ _ hj]
                exact h.qok j j1 (by omega) }
  · rw [e, h.tmt]; simp

/-- The stages of create's test: 22: whether it is taken. -/
def TkI (W : World) (s : Nat) (ξ : Nat → Value) (w : World) : Prop :=
  (s = 0 → w = W) ∧ (s = 1 → Turn (fun _ => False) W w ∧ ξ 22 = .bool false)

/-- The stages of create's last region: 21 the box, 22 the map. -/
def CrI (W : World) (g : Gh) (K : KS) (x : Value) (s : Nat) (ξ : Nat → Value) (w : World) : Prop :=
  (s = 0 → w = W) ∧ (s = 1 → w = W.alloc (.cells x.cells 60) ∧ ξ 21 = pt W.heap.size) ∧
  (s = 2 → MapS w g.mt (upd (tmap K.n g.tb) ((K.n + 1 : Nat) : Int) (some (pt W.heap.size))) ∧ Turn (fun k => k = g.mt) (W.alloc (.cells x.cells 60)) w ∧ w.heap.size = W.heap.size + 1)

set_option maxRecDepth 10000 in
set_option maxHeartbeats 4000000 in
theorem create_calls (h : Rep g K w) {cb : Nat} {by_ : Value} {p : Int} (hn : K.n < 20) (h1 : 1 ≤ p) (h2 : p ≤ 1000) (hp : ∀ i, 1 ≤ i → i ≤ K.n → (K.ts i).pri ≠ p) (hc : CallAt g w cb by_ (K.n + 1 : Nat) p) :
    Calls Try.prog 13 #[pt cb] w (NumPost g (K.add p) w 0) := by
  obtain ⟨n, hnn⟩ : ∃ n, K.n + 1 = n := ⟨_, rfl⟩
  rw [hnn] at hc
  have hn20 : n ≤ 20 := by omega
  obtain ⟨c0, c1, c2, c3⟩ := c_cells hc
  obtain ⟨mv, mvs, kq, -, -⟩ := h.kb
  obtain ⟨k0, -, -, -, -, -, -⟩ := k_cells kq
  have q1 : decide ((n : Int) < 1) = false := decide_eq_false (by omega)
  have q2 : decide ((20 : Int) < (n : Int)) = false := decide_eq_false (by omega)
  have q3 : decide (p < 1) = false := decide_eq_false (by omega)
  have q4 : decide ((1000 : Int) < p) = false := decide_eq_false (by omega)
  have q5 : decide ((20 : Nat) < n) = false := decide_eq_false (by omega)
  have H := Lib.hid (And.intro h (And.intro hp (And.intro hc (And.intro hnn (And.intro hn k0)))))
  clear h hp hc kq hnn
  go_enter Try.func13, Try.ntmps13
  go_upto_region 3 with fail
  refine wp_region_planH (aX := ?aXk) [22] [[], [22]] 1 [(0, 0, 0), (0, 1, 1), (1, 0, 0), (1, 1, 1), (2, 0, 0), (2, 1, 1), (3, 0, 0), (3, 1, 1), (4, 0, 0), (4, 1, 1), (5, 0, 0), (5, 1, 1), (6, 0, 0), (6, 1, 1), (7, 0, 0), (7, 1, 1), (8, 0, 0), (8, 1, 1), (9, 0, 0), (9, 1, 1), (10, 0, 0), (10, 1, 1), (11, 0, 0), (12, 0, 0), (13, 0, 0), (14, 0, 0), (14, 1, 1), (15, 0, 0), (16, 0, 0), (17, 0, 0), (18, 0, 0), (18, 1, 1), (19, 0, 0), (20, 0, 0), (21, 0, 0), (22, 0, 1), (23, 1, 1), (24, 1, 1)]
    [pt cb, pt cb, .pointer (some ⟨cb, 0, none⟩), pt g.k, pt g.k, pt g.k, .map (some g.mt), pt cb, pt cb, .pointer (some ⟨cb, 2, none⟩), .int .i64 n, .pointer none, .bool false, .bool false, pt cb, pt cb, .pointer (some ⟨cb, 0, none⟩), pt g.k, pt cb, pt cb, .pointer (some ⟨cb, 3, none⟩), .int .i64 p, undef, .bool false, .bool false] (TkI w.drew) (by kernel_rfl) (by kernel_rfl) rfl ?hXk (fun _ => undef) ?h0k ?hobk ?hendk
  case hXk => intro ξ; simp only [mixAll, Act.put]; go_simp; rfl
  case h0k =>
    exact ⟨fun _ => rfl, fun q => absurd q (by decide)⟩
  case hobk =>
    refine oblsH_cons rfl (stepH_value rfl rfl ?_) ?_
    · rintro ξ w5 h5
      rfl
    refine oblsH_cons rfl (stepH_value rfl rfl ?_) ?_
    · rintro ξ w5 h5
      rfl
    refine oblsH_cons rfl (stepH_value rfl rfl ?_) ?_
    · rintro ξ w5 h5
      rfl
    refine oblsH_cons rfl (stepH_value rfl rfl ?_) ?_
    · rintro ξ w5 h5
      rfl
    refine oblsH_cons rfl (stepH_value rfl rfl ?_) ?_
    · rintro ξ w5 h5
      rfl
    refine oblsH_cons rfl (stepH_value rfl rfl ?_) ?_
    · rintro ξ w5 h5
      rfl
    refine oblsH_cons rfl (stepH_value rfl rfl ?_) ?_
    · rintro ξ w5 h5
      obtain rfl := h5.1 rfl
      have hlk := H.out.1.drew.look_none (i := n) (by have := H.out.2.2.2.1; omega) (wf_i64 (by omega) (by omega))
      clear h5
      go_simp
      try rfl
    refine oblsH_cons rfl (stepH_value rfl rfl ?_) ?_
    · rintro ξ w5 h5
      obtain ⟨hT, h22⟩ := h5.2 rfl
      have hlk := (H.out.1.drew.new hT).look_none (i := n) (by have := H.out.2.2.2.1; omega) (wf_i64 (by omega) (by omega))
      obtain ⟨c0, c1, c2, c3⟩ := c_cells (H.out.2.2.1.drew.keep (Step.fresh hT))
      obtain ⟨mv6, mvs6, kq6, -, -⟩ := (H.out.1.drew.new hT).kb
      obtain ⟨k0, -, -, -, -, -, -⟩ := k_cells kq6
      clear hT kq6
      clear h5
      go_simp
      try rfl
    refine oblsH_cons rfl (stepH_value rfl rfl ?_) ?_
    · rintro ξ w5 h5
      rfl
    refine oblsH_cons rfl (stepH_value rfl rfl ?_) ?_
    · rintro ξ w5 h5
      rfl
    refine oblsH_cons rfl (stepH_value rfl rfl ?_) ?_
    · rintro ξ w5 h5
      rfl
    refine oblsH_cons rfl (stepH_value rfl rfl ?_) ?_
    · rintro ξ w5 h5
      rfl
    refine oblsH_cons rfl (stepH_value rfl rfl ?_) ?_
    · rintro ξ w5 h5
      obtain rfl := h5.1 rfl
      have hlk := H.out.1.drew.look_none (i := n) (by have := H.out.2.2.2.1; omega) (wf_i64 (by omega) (by omega))
      clear h5
      go_simp
      try rfl
    refine oblsH_cons rfl (stepH_value rfl rfl ?_) ?_
    · rintro ξ w5 h5
      obtain ⟨hT, h22⟩ := h5.2 rfl
      have hlk := (H.out.1.drew.new hT).look_none (i := n) (by have := H.out.2.2.2.1; omega) (wf_i64 (by omega) (by omega))
      obtain ⟨c0, c1, c2, c3⟩ := c_cells (H.out.2.2.1.drew.keep (Step.fresh hT))
      obtain ⟨mv6, mvs6, kq6, -, -⟩ := (H.out.1.drew.new hT).kb
      obtain ⟨k0, -, -, -, -, -, -⟩ := k_cells kq6
      clear hT kq6
      clear h5
      go_simp
      try rfl
    refine oblsH_cons rfl (stepH_value rfl rfl ?_) ?_
    · rintro ξ w5 h5
      rfl
    refine oblsH_cons rfl (stepH_value rfl rfl ?_) ?_
    · rintro ξ w5 h5
      rfl
    refine oblsH_cons rfl (stepH_value rfl rfl ?_) ?_
    · rintro ξ w5 h5
      rfl
    refine oblsH_cons rfl (stepH_value rfl rfl ?_) ?_
    · rintro ξ w5 h5
      rfl
    refine oblsH_cons rfl (stepH_value rfl rfl ?_) ?_
    · rintro ξ w5 h5
      rfl
    refine oblsH_cons rfl (stepH_value rfl rfl ?_) ?_
    · rintro ξ w5 h5
      rfl
    refine oblsH_cons rfl (stepH_value rfl rfl ?_) ?_
    · rintro ξ w5 h5
      obtain rfl := h5.1 rfl
      have hlk := H.out.1.drew.look_none (i := n) (by have := H.out.2.2.2.1; omega) (wf_i64 (by omega) (by omega))
      clear h5
      go_simp
      try rfl
    refine oblsH_cons rfl (stepH_value rfl rfl ?_) ?_
    · rintro ξ w5 h5
      obtain ⟨hT, h22⟩ := h5.2 rfl
      have hlk := (H.out.1.drew.new hT).look_none (i := n) (by have := H.out.2.2.2.1; omega) (wf_i64 (by omega) (by omega))
      obtain ⟨c0, c1, c2, c3⟩ := c_cells (H.out.2.2.1.drew.keep (Step.fresh hT))
      obtain ⟨mv6, mvs6, kq6, -, -⟩ := (H.out.1.drew.new hT).kb
      obtain ⟨k0, -, -, -, -, -, -⟩ := k_cells kq6
      clear hT kq6
      clear h5
      go_simp
      try rfl
    refine oblsH_cons rfl (stepH_value rfl rfl ?_) ?_
    · rintro ξ w5 h5
      obtain rfl := h5.1 rfl
      have hlk := H.out.1.drew.look_none (i := n) (by have := H.out.2.2.2.1; omega) (wf_i64 (by omega) (by omega))
      clear h5
      go_simp
      try rfl
    refine oblsH_cons rfl (stepH_value rfl rfl ?_) ?_
    · rintro ξ w5 h5
      obtain rfl := h5.1 rfl
      have hlk := H.out.1.drew.look_none (i := n) (by have := H.out.2.2.2.1; omega) (wf_i64 (by omega) (by omega))
      clear h5
      go_simp
      try rfl
    refine oblsH_cons rfl (stepH_value rfl rfl ?_) ?_
    · rintro ξ w5 h5
      rfl
    refine oblsH_cons rfl (stepH_valueG (fun _ => rfl) rfl ?_) ?_
    · rintro ξ w5 h5
      rfl
    refine oblsH_cons rfl (stepH_valueG (fun _ => rfl) rfl ?_) ?_
    · rintro ξ w5 h5
      rfl
    refine oblsH_cons rfl (stepH_valueG (fun _ => rfl) rfl ?_) ?_
    · rintro ξ w5 h5
      rfl
    refine oblsH_cons rfl (stepH_valueG (fun _ => rfl) rfl ?_) ?_
    · rintro ξ w5 h5
      rfl
    refine oblsH_cons rfl (stepH_valueG (fun _ => rfl) rfl ?_) ?_
    · rintro ξ w5 h5
      obtain rfl := h5.1 rfl
      have hlk := H.out.1.drew.look_none (i := n) (by have := H.out.2.2.2.1; omega) (wf_i64 (by omega) (by omega))
      clear h5
      go_simp
      try rfl
    refine oblsH_cons rfl (stepH_valueG (fun _ => rfl) rfl ?_) ?_
    · rintro ξ w5 h5
      rfl
    refine oblsH_cons rfl (stepH_valueG (fun _ => rfl) rfl ?_) ?_
    · rintro ξ w5 h5
      rfl
    refine oblsH_cons rfl (stepH_valueG (fun _ => rfl) rfl ?_) ?_
    · rintro ξ w5 h5
      rfl
    refine oblsH_cons rfl (stepH_valueG (fun _ => rfl) rfl ?_) ?_
    · rintro ξ w5 h5
      rfl
    refine oblsH_cons rfl (stepH_valueG (fun _ => rfl) rfl ?_) ?_
    · rintro ξ w5 h5
      obtain rfl := h5.1 rfl
      have hlk := H.out.1.drew.look_none (i := n) (by have := H.out.2.2.2.1; omega) (wf_i64 (by omega) (by omega))
      clear h5
      go_simp
      try rfl
    refine oblsH_cons rfl (stepH_callG (fun _ => rfl) rfl ?_) ?_
    · rintro ξ w5 h5
      obtain rfl := h5.1 rfl
      refine ⟨31, #[pt g.k, .int .i64 p, .int .i64 0], by clear h5; go_simp, ?_⟩
      refine (taken_no H.out.1.drew rfl p 0 H.out.2.1).mono ?_
      rintro e6 w6 ⟨rfl, hT⟩
      exact ⟨_, rfl, ⟨fun q => absurd q (by decide), fun _ => ⟨hT, rfl⟩⟩⟩
    refine oblsH_cons rfl (stepH_value rfl rfl ?_) ?_
    · rintro ξ w5 h5
      obtain ⟨hT, h22⟩ := h5.2 rfl
      have hlk := (H.out.1.drew.new hT).look_none (i := n) (by have := H.out.2.2.2.1; omega) (wf_i64 (by omega) (by omega))
      obtain ⟨c0, c1, c2, c3⟩ := c_cells (H.out.2.2.1.drew.keep (Step.fresh hT))
      obtain ⟨mv6, mvs6, kq6, -, -⟩ := (H.out.1.drew.new hT).kb
      obtain ⟨k0, -, -, -, -, -, -⟩ := k_cells kq6
      clear hT kq6
      clear h5
      go_simp
      try rfl
    refine oblsH_cons rfl (stepH_value rfl rfl ?_) ?_
    · rintro ξ w5 h5
      rfl
    exact oblsH_nil
  case hendk =>
    rintro ξ w5 h5
    obtain ⟨hT, h22⟩ := h5.2 rfl
    clear c0 c1 c2 c3 k0 h5
    have hc5 := H.out.2.2.1.drew.keep (Step.fresh hT)
    have R5 := H.out.1.drew.new hT
    obtain ⟨c0, c1, c2, c3⟩ := c_cells hc5
    obtain ⟨mv6, mvs6, kq6, -, -⟩ := R5.kb
    obtain ⟨k0, -, -, -, -, -, -⟩ := k_cells kq6
    have H5 := Lib.hid (And.intro R5 (Step.fresh (g := g) hT).drewl)
    clear hT kq6 hc5 R5
    go_upto_region 5 with fail
    clear q1 q2 q3 q4 q5
    refine wp_region_planH (aX := ?aXm) [21, 22] [[], [21], [21, 22]] 2 [(0, 0, 0), (0, 1, 1), (1, 0, 0), (1, 1, 1), (2, 0, 0), (2, 1, 1), (3, 0, 0), (3, 1, 1), (4, 0, 0), (4, 1, 1), (5, 0, 0), (5, 1, 1), (6, 0, 0), (6, 1, 1), (7, 0, 0), (7, 1, 1), (8, 0, 0), (8, 1, 1), (9, 0, 0), (9, 1, 1), (10, 0, 0), (10, 1, 1), (11, 0, 0), (11, 1, 1), (12, 0, 0), (12, 1, 1), (13, 0, 0), (13, 1, 1), (14, 0, 0), (15, 0, 0), (15, 1, 1), (16, 0, 0), (16, 1, 1), (17, 0, 0), (17, 1, 1), (18, 0, 0), (19, 0, 0), (20, 0, 0), (21, 0, 1), (22, 1, 2)]
      [pt cb, pt cb, .pointer (some ⟨cb, 0, none⟩), pt g.k, pt g.k, pt g.k, .map (some g.mt), pt cb, pt cb, .pointer (some ⟨cb, 2, none⟩), .int .i64 n, pt cb, pt cb, .pointer (some ⟨cb, 2, none⟩), .int .i64 n, pt cb, pt cb, .pointer (some ⟨cb, 3, none⟩), .int .i64 p, .agg #[.int .i64 n, .int .i64 p, .bool false, .bool false, .int .i64 0, .int .i64 0, .slice none 0 0], .agg #[.int .i64 n, .int .i64 p, .bool false, .bool false, .int .i64 0, .int .i64 0, .slice none 0 0, .slice none 0 0], undef, undef] (CrI w5.drew g K (.agg #[.int .i64 n, .int .i64 p, .bool false, .bool false, .int .i64 0, .int .i64 0, .slice none 0 0, .slice none 0 0])) (by kernel_rfl) (by kernel_rfl) rfl ?hXm (fun _ => undef) ?h0m ?hobm ?hendm
    case hXm => intro ξ; simp only [mixAll, Act.put]; go_simp; rfl
    case h0m =>
      exact ⟨fun _ => rfl, fun q => absurd q (by decide), fun q => absurd q (by decide)⟩
    case hobm =>
      refine oblsH_cons rfl (stepH_value rfl rfl ?_) ?_
      · rintro ξ w5 h5
        rfl
      refine oblsH_cons rfl (stepH_value rfl rfl ?_) ?_
      · rintro ξ w5 h5
        rfl
      refine oblsH_cons rfl (stepH_value rfl rfl ?_) ?_
      · rintro ξ w5 h5
        rfl
      refine oblsH_cons rfl (stepH_value rfl rfl ?_) ?_
      · rintro ξ w5 h5
        rfl
      refine oblsH_cons rfl (stepH_value rfl rfl ?_) ?_
      · rintro ξ w5 h5
        rfl
      refine oblsH_cons rfl (stepH_value rfl rfl ?_) ?_
      · rintro ξ w5 h5
        rfl
      refine oblsH_cons rfl (stepH_value rfl rfl ?_) ?_
      · rintro ξ w5 h5
        obtain rfl := h5.1 rfl
        clear h5
        go_simp
        try rfl
      refine oblsH_cons rfl (stepH_value rfl rfl ?_) ?_
      · rintro ξ w5 h5
        obtain ⟨rfl, h42⟩ := h5.2.1 rfl
        have x0 := old_alloc w5 (.cells #[.int .i64 n, .int .i64 p, .bool false, .bool false, .int .i64 0, .int .i64 0, .slice none 0 0, .slice none 0 0] 60) c0
        have x2 := old_alloc w5 (.cells #[.int .i64 n, .int .i64 p, .bool false, .bool false, .int .i64 0, .int .i64 0, .slice none 0 0, .slice none 0 0] 60) c2
        have x3 := old_alloc w5 (.cells #[.int .i64 n, .int .i64 p, .bool false, .bool false, .int .i64 0, .int .i64 0, .slice none 0 0, .slice none 0 0] 60) c3
        have y0 := old_alloc w5 (.cells #[.int .i64 n, .int .i64 p, .bool false, .bool false, .int .i64 0, .int .i64 0, .slice none 0 0, .slice none 0 0] 60) k0
        clear h5
        go_simp
        try rfl
      refine oblsH_cons rfl (stepH_value rfl rfl ?_) ?_
      · rintro ξ w5 h5
        rfl
      refine oblsH_cons rfl (stepH_value rfl rfl ?_) ?_
      · rintro ξ w5 h5
        rfl
      refine oblsH_cons rfl (stepH_value rfl rfl ?_) ?_
      · rintro ξ w5 h5
        rfl
      refine oblsH_cons rfl (stepH_value rfl rfl ?_) ?_
      · rintro ξ w5 h5
        rfl
      refine oblsH_cons rfl (stepH_value rfl rfl ?_) ?_
      · rintro ξ w5 h5
        obtain rfl := h5.1 rfl
        clear h5
        go_simp
        try rfl
      refine oblsH_cons rfl (stepH_value rfl rfl ?_) ?_
      · rintro ξ w5 h5
        obtain ⟨rfl, h42⟩ := h5.2.1 rfl
        have x0 := old_alloc w5 (.cells #[.int .i64 n, .int .i64 p, .bool false, .bool false, .int .i64 0, .int .i64 0, .slice none 0 0, .slice none 0 0] 60) c0
        have x2 := old_alloc w5 (.cells #[.int .i64 n, .int .i64 p, .bool false, .bool false, .int .i64 0, .int .i64 0, .slice none 0 0, .slice none 0 0] 60) c2
        have x3 := old_alloc w5 (.cells #[.int .i64 n, .int .i64 p, .bool false, .bool false, .int .i64 0, .int .i64 0, .slice none 0 0, .slice none 0 0] 60) c3
        have y0 := old_alloc w5 (.cells #[.int .i64 n, .int .i64 p, .bool false, .bool false, .int .i64 0, .int .i64 0, .slice none 0 0, .slice none 0 0] 60) k0
        clear h5
        go_simp
        try rfl
      refine oblsH_cons rfl (stepH_value rfl rfl ?_) ?_
      · rintro ξ w5 h5
        rfl
      refine oblsH_cons rfl (stepH_value rfl rfl ?_) ?_
      · rintro ξ w5 h5
        rfl
      refine oblsH_cons rfl (stepH_value rfl rfl ?_) ?_
      · rintro ξ w5 h5
        rfl
      refine oblsH_cons rfl (stepH_value rfl rfl ?_) ?_
      · rintro ξ w5 h5
        rfl
      refine oblsH_cons rfl (stepH_value rfl rfl ?_) ?_
      · rintro ξ w5 h5
        rfl
      refine oblsH_cons rfl (stepH_value rfl rfl ?_) ?_
      · rintro ξ w5 h5
        rfl
      refine oblsH_cons rfl (stepH_value rfl rfl ?_) ?_
      · rintro ξ w5 h5
        obtain rfl := h5.1 rfl
        clear h5
        go_simp
        try rfl
      refine oblsH_cons rfl (stepH_value rfl rfl ?_) ?_
      · rintro ξ w5 h5
        obtain ⟨rfl, h42⟩ := h5.2.1 rfl
        have x0 := old_alloc w5 (.cells #[.int .i64 n, .int .i64 p, .bool false, .bool false, .int .i64 0, .int .i64 0, .slice none 0 0, .slice none 0 0] 60) c0
        have x2 := old_alloc w5 (.cells #[.int .i64 n, .int .i64 p, .bool false, .bool false, .int .i64 0, .int .i64 0, .slice none 0 0, .slice none 0 0] 60) c2
        have x3 := old_alloc w5 (.cells #[.int .i64 n, .int .i64 p, .bool false, .bool false, .int .i64 0, .int .i64 0, .slice none 0 0, .slice none 0 0] 60) c3
        have y0 := old_alloc w5 (.cells #[.int .i64 n, .int .i64 p, .bool false, .bool false, .int .i64 0, .int .i64 0, .slice none 0 0, .slice none 0 0] 60) k0
        clear h5
        go_simp
        try rfl
      refine oblsH_cons rfl (stepH_value rfl rfl ?_) ?_
      · rintro ξ w5 h5
        rfl
      refine oblsH_cons rfl (stepH_value rfl rfl ?_) ?_
      · rintro ξ w5 h5
        rfl
      refine oblsH_cons rfl (stepH_value rfl rfl ?_) ?_
      · rintro ξ w5 h5
        rfl
      refine oblsH_cons rfl (stepH_value rfl rfl ?_) ?_
      · rintro ξ w5 h5
        rfl
      refine oblsH_cons rfl (stepH_value rfl rfl ?_) ?_
      · rintro ξ w5 h5
        rfl
      refine oblsH_cons rfl (stepH_value rfl rfl ?_) ?_
      · rintro ξ w5 h5
        rfl
      refine oblsH_cons rfl (stepH_value rfl rfl ?_) ?_
      · rintro ξ w5 h5
        obtain rfl := h5.1 rfl
        clear h5
        go_simp
        try rfl
      refine oblsH_cons rfl (stepH_value rfl rfl ?_) ?_
      · rintro ξ w5 h5
        rfl
      refine oblsH_cons rfl (stepH_value rfl rfl ?_) ?_
      · rintro ξ w5 h5
        rfl
      refine oblsH_cons rfl (stepH_value rfl rfl ?_) ?_
      · rintro ξ w5 h5
        rfl
      refine oblsH_cons rfl (stepH_value rfl rfl ?_) ?_
      · rintro ξ w5 h5
        rfl
      refine oblsH_cons rfl (stepH_value rfl rfl ?_) ?_
      · rintro ξ w5 h5
        rfl
      refine oblsH_cons rfl (stepH_value rfl rfl ?_) ?_
      · rintro ξ w5 h5
        rfl
      refine oblsH_cons rfl (stepH_value rfl rfl ?_) ?_
      · rintro ξ w5 h5
        obtain rfl := h5.1 rfl
        clear h5
        go_simp
        try rfl
      refine oblsH_cons rfl (stepH_value rfl rfl ?_) ?_
      · rintro ξ w5 h5
        obtain rfl := h5.1 rfl
        clear h5
        go_simp
        try rfl
      refine oblsH_cons rfl (stepH_value rfl rfl ?_) ?_
      · rintro ξ w5 h5
        obtain rfl := h5.1 rfl
        clear h5
        go_simp
        try rfl
      refine oblsH_cons rfl (stepH_make rfl rfl ?_) ?_
      · rintro ξ w5 h5
        obtain rfl := h5.1 rfl
        refine ⟨_, _, ?_, ⟨fun q => absurd q (by decide), fun _ => ⟨rfl, rfl⟩, fun q => absurd q (by decide)⟩⟩
        clear h5
        go_simp
      refine oblsH_cons rfl (stepH_store rfl rfl rfl ?_) ?_
      · rintro ξ w5 h5
        obtain ⟨rfl, h42⟩ := h5.2.1 rfl
        clear h5
        have M2 : MapS (w5.drew.alloc (.cells (Value.agg #[.int .i64 n, .int .i64 p, .bool false, .bool false, .int .i64 0, .int .i64 0, .slice none 0 0, .slice none 0 0]).cells 60)) g.mt (tmap K.n g.tb) := H5.out.1.tm.keep (heap_alloc_lt w5.drew _ _ H5.out.1.tm.lt)
        obtain ⟨w6, r0, r1, r2, r3⟩ := M2.update (P := Try.prog) (t := 38) Try.underlying3 Try.underlying38 (k := (n : Int)) (wf_i64 (by omega) (by have := H.out.2.2.2.1; have := H.out.2.2.2.2.1; omega)) (pt w5.drew.heap.size)
        refine ⟨w6, ?_, ⟨fun q => absurd q (by decide), fun q => absurd q (by decide), fun _ => ⟨by rw [H.out.2.2.2.1]; exact r1, r2, by rw [r3]; simp⟩⟩⟩
        refine exec_update _ _ _ rfl ?_
        show (Instr.mapUpdate 38 (.map (some g.mt)) (.int .i64 n) (ξ 21)).run Try.prog _ = _
        rw [h42]
        exact r0
      exact oblsH_nil
    case hendm =>
      rintro ξ w7 h7
      obtain ⟨r1, r2, r3⟩ := h7.2.2 rfl
      have hz1 : w.heap.size ≤ w5.heap.size := H5.out.2.turn.size
      have hmz := H5.out.1.tm.lt
      have T5 : Turn (fun k => k = g.mt) w5 w7 := ((Turn.refl (fun k => k = g.mt) w5).drew.alloc _).trans r2
      have hB : w7.heap[w5.heap.size]? = some (.cells (tCells (K.n + 1) ⟨p, false, []⟩ (.slice none 0 0)) 60 (0, 0)) := by
        rw [r2.block _ (by simp) (by omega), H.out.2.2.2.1]
        exact heap_alloc_new w5.drew _
      obtain ⟨g7, R7, s7⟩ := H5.out.1.add_done T5 (Nat.le_refl _) (by rw [r3]; exact Nat.lt_succ_self _) r1 hB
      have HF := Lib.hid (And.intro R7 (H5.out.2.trans s7))
      clear h7 r1 r2 r3 T5 hB R7 s7 c0 c1 c2 c3 k0
      go_wp2_with fail
      go_ret2
      exact ⟨rfl, _, HF.out⟩
end
end Go.Rnd
