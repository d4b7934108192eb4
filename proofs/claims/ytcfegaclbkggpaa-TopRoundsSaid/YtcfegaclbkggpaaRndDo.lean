/-
  ready, calls, Do, walked. (Printed by rnd/gen/pl.py out of rnd/gen/RndDo.src.)
-/
import Derived.Test.YtcfegaclbkggpaaRndMake
import Derived.Carry
namespace Go.Own
section
variable {P : Program} {w : World} {b : Nat} {f : Int → Option Value} {t kt et : TypeId}
theorem wpList_insertS {ops : Array Oper} {rest : List Oper} {o : Oper} {a : Act} {Q : Exit → Act → World → Prop} (hg : o.guard = none) (m x v : Operand) (hop : o.op = Op.insert t m x v)
    (hk : P.underlying kt = some (.int .i64)) (ht : P.underlying t = some (.map kt et)) (hm : a.eval m = .map (some b)) (h : MapS w b f) {k : Int} (hx : a.eval x = .int .i64 k) (hw : (Lit.int .i64 k).wf = true) {u : Value} (hv : a.eval v = u)
    (hK : ∀ w', MapS w' b (upd f k (some u)) → Turn (fun j => j = b) w w' → w'.heap.size = w.heap.size → wpList P ops Q rest (a.put o.dst undef) w') : wpList P ops Q (o :: rest) a w := by
  refine wpList_plain hg fun K' hK' => ?_
  obtain ⟨w', hrun, r1, r2, r3⟩ := h.update hk ht hw u
  unfold Oper.wp
  simp [execOp, hop, hm, hx, hv, hrun, Result.andThen]
  exact hK' _ _ (hK w' r1 r2 r3)
end
end Go.Own
namespace Go.Rnd
open Go.Own Go.RowKit Go.Proofs

section
variable {g : Gh} {K : KS} {w w' : World}

set_option maxRecDepth 10000 in
theorem ready_calls (h : Rep g K w) {kb : Nat} (hk : g.k = kb) : Calls Try.prog 10 #[pt kb] w fun e w' => e = .returned (.tuple #[]) ∧ w' = w := by
  subst hk
  obtain ⟨mv, mvs, kq, -, -⟩ := h.kb
  obtain ⟨k0, -, -, -, -, -, -⟩ := k_cells kq
  have q := run_neq_map_nil w 38 _ _ (some g.mt) Try.underlying38
  clear h kq
  go_enter Try.func10, Try.ntmps10
  go_wp2
  (try simp only [Exit.inBlock, Exit.then])
  refine bodyPost_ret (results_none rfl _ _ _) rfl ?_
  exact ⟨rfl, rfl⟩

/-- A method bound to a call. -/
def fnv (f cb : Nat) : Value := .func (.func f) #[pt cb] #[]

theorem run_makeFunc (P : Program) (fn : Fn) (first cap : Array Value) (w : World) : (Instr.makeFunc fn first cap).run P w = .ok (.func fn first cap) w := rfl
/-- What calls leaves: the map of the methods. -/
def CallsPost (cb : Nat) (w : World) (e : Ending) (w' : World) : Prop :=
  ∃ mb f, e = .returned (.map (some mb)) ∧ MapS w' mb f ∧ Turn (fun _ => False) w w' ∧ f 1 = some (fnv 13 cb) ∧ f 3 = some (fnv 15 cb) ∧ f 4 = some (fnv 16 cb) ∧ f 11 = some (fnv 23 cb)

set_option maxRecDepth 10000 in
set_option maxHeartbeats 2000000 in
theorem calls_calls (cb : Nat) (w : World) : Calls Try.prog 11 #[pt cb] w (CallsPost cb w) := by
  have hM0 : MapS (w.alloc (.map #[] 0)) w.heap.size (fun _ => none) := MapS.of_block (heap_alloc_new w _)
  have hT0 : Turn (fun _ => False) w (w.alloc (.map #[] 0)) := (Turn.refl _ w).alloc _
  have hmm := @run_makeMap Try.prog
  have hmf := @run_makeFunc Try.prog
  go_enter Try.func11, Try.ntmps11
  go_wp2_with (
    refine wpList_insertS rfl _ _ _ rfl Try.underlying3 Try.underlying47 rfl (by assumption) rfl (by decide) rfl ?_
    intro w1 hM1 ht1 hs1
    have hT1 : Turn (fun _ => False) w w1 := Turn.trans' (by assumption) ht1 (Nat.le_refl _)
    clear ht1 hs1)
  go_ret
  exact ⟨_, _, rfl, hM1, hT1, by simp [upd, fnv]; rfl, by simp [upd, fnv]; rfl, by simp [upd, fnv]; rfl, by simp [upd, fnv]; rfl⟩

theorem lookup_ok {b : Nat} {f : Int → Option Value} (h : MapS w b f) {k : Int} (hw : (Lit.int .i64 k).wf = true) {u : Value} (hf : f k = some u) : (Instr.lookup 47 (.map (some b)) (.int .i64 k) true).run Try.prog w = .ok (.tuple #[u, .bool true]) w := by
  have hl := h.at.lookup_ok (P := Try.prog) (t := 47) (z := .nilFunc) Try.underlying3 Try.underlying47 (by kernel_rfl) hw
  rw [hf] at hl
  exact hl

/-- Who calls: a task, or none where there is none. -/
def By (g : Gh) (K : KS) (t : Nat) (bo : Option Addr) : Prop := (1 ≤ t ∧ t ≤ K.n ∧ bo = some ⟨g.tb t, 0, none⟩) ∨ (t = 0 ∧ bo = none)

theorem Rep.look_by (h : Rep g K w) {t : Nat} {bo : Option Addr} (hb : By g K t bo) (hn : K.n ≤ 1000) : (Instr.lookup 38 (.map (some g.mt)) (.int .i64 t) false).run Try.prog w = .ok (.pointer bo) w := by
  rcases hb with ⟨h1, h2, rfl⟩ | ⟨rfl, rfl⟩
  · exact h.look_task h1 h2 hn
  · exact h.look_none (by omega) (wf_i64 (by omega) (by omega))

theorem Rep.tick (h : Rep g K w) : Rep g K.tick (w.setCell ⟨g.k, 5, none⟩ (.int .i64 (K.c + 1 : Nat))) ∧ Step g g w (w.setCell ⟨g.k, 5, none⟩ (.int .i64 (K.c + 1 : Nat))) := by
  obtain ⟨mv, mvs, kq, ks, kl⟩ := h.kb
  have ht := turn_set w g.k 5 (.int .i64 (K.c + 1 : Nat))
  refine ⟨?_, ht.mono (fun k _ e => by rw [e, h.tk]; simp), fun _ _ => rfl, rfl⟩
  have := h.set_kern (ρ' := g.ρ) (mv := mv) (mvs := mvs) (c := K.c + 1) (v := K.v) (ht.mono fun _ _ e => .inl e) (fun _ _ => rfl) (fun k hk => h.fresh k (by simpa using hk)) (heap_setCell_self _ kq)
    (ks.keep (fun k _ hr => heap_setCell_ne _ (fun e => by rw [e, h.tk] at hr; cases hr)) (fun _ _ => rfl)) kl
  exact this

theorem Rep.len_zero (h : Rep g K w) (hn : K.n = 0) : (Builtin.len_ #[38] 3 #[.map (some g.mt)]).run Try.prog w = .ok (.int .i64 0) w := by
  obtain ⟨es, clock, hb, R, S⟩ := h.tm
  have he : es = #[] := by
    apply Array.eq_empty_of_size_eq_zero
    rcases Nat.eq_zero_or_pos es.size with h0 | h0
    · exact h0
    · obtain ⟨k, hk, -⟩ := R.keys es[0] (by simp)
      have := (R.get k es[0].val).2 ⟨es[0], by simp, hk, rfl⟩
      rw [tmap_out (by omega)] at this
      cases this
  subst he
  simp [Builtin.len_, run_underlying (P := Try.prog) Try.underlying38, MapKept.run_getObj_map hb, Result.andThen, goInt]

theorem KS.Best.tick {t : Nat} (h : K.Best t) : K.tick.Best t := h
theorem KS.Ok.tick (h : K.Ok) : K.tick.Ok := ⟨h.pos, h.apart⟩

/-- The stages of Do's lookup of the caller: 5: who runs. -/
def ByI (W : World) (t : Nat) (s : Nat) (ξ : Nat → Value) (w : World) : Prop :=
  (s = 0 → w = W) ∧ (s = 1 → Turn (fun _ => False) W w ∧ ξ 5 = .int .i64 t)

/-- The stages of Do's lookup of the method: 7 the call's box, 8 the map. -/
def CaI (W : World) (cb : Nat) (x : Value) (s : Nat) (ξ : Nat → Value) (w : World) : Prop :=
  (s = 0 → w = W) ∧ (s = 1 → w = W.alloc (.cells x.cells 50) ∧ ξ 7 = pt cb) ∧
  (s = 2 → Turn (fun _ => False) (W.alloc (.cells x.cells 50)) w ∧ ∃ mb f, ξ 8 = .map (some mb) ∧ MapS w mb f ∧ f 1 = some (fnv 13 cb) ∧ f 3 = some (fnv 15 cb) ∧ f 4 = some (fnv 16 cb) ∧ f 11 = some (fnv 23 cb))

set_option maxRecDepth 10000 in
set_option maxHeartbeats 4000000 in
theorem do_gen (h : Rep g K w) (ok : K.Ok) {kb t fn : Nat} (hk : g.k = kb) (hb : K.Best t) {bo : Option Addr} (hby : By g K t bo) (hn : K.n ≤ 1000) (hc : K.c ≤ 1000000) (d A B : Int) {K' : KS} {v : Int}
    (hd : (d = 1 ∧ fn = 13) ∨ (bo ≠ none ∧ ((d = 3 ∧ fn = 15) ∨ (d = 4 ∧ fn = 16) ∨ (d = 11 ∧ fn = 23)))) (h0 : bo = none → K.n = 0)
    (hf : ∀ W cb, Rep g K.tick W → CallAt g W cb (.pointer bo) A B → Calls Try.prog fn #[pt cb] W (NumPost g K' W v)) :
    Calls Try.prog 6 #[pt kb, .agg #[.int .i64 d, .int .i64 A, .int .i64 B, .int .i64 0, .int .i64 0]] w (NumPost g K' w v) := by
  subst hk
  have i1 : IntKind.i64.wrap ((K.c : Int) + 1) = (K.c : Int) + 1 := IntWalk.i64_in _ (by omega)
  obtain ⟨xb, hxb⟩ : ∃ xb, w.heap.size = xb := ⟨_, rfl⟩
  obtain ⟨w1, hw1⟩ : ∃ w1, w.alloc (.cells #[.int .i64 d, .int .i64 A, .int .i64 B, .int .i64 0, .int .i64 0] 30) = w1 := ⟨_, rfl⟩
  have R1 : Rep g K w1 := hw1 ▸ h.alloc _
  have T1 : Turn (fun _ => False) w w1 := hw1 ▸ (Turn.refl (fun _ => False) w).alloc _
  have X1 : w1.heap[xb]? = some (.cells #[.int .i64 d, .int .i64 A, .int .i64 B, .int .i64 0, .int .i64 0] 30 (0, 0)) := by rw [← hw1, ← hxb]; exact heap_alloc_new w _
  have gx : (g.ρ xb).1 = 0 := h.fresh xb (by omega)
  have HRd := Lib.hid (ready_calls R1 rfl)
  obtain ⟨mv, mvs, kq, -, -⟩ := R1.kb
  obtain ⟨-, -, -, -, -, k5, kf⟩ := k_cells kq
  have F1 := R1.tick
  have H := Lib.hid (And.intro ok (And.intro hb (And.intro hby (And.intro hd (And.intro h0 (And.intro hf (And.intro F1.1 (And.intro ((Step.fresh T1).trans F1.2) (And.intro X1 gx)))))))))
  have HW := Lib.hid (And.intro hw1 hxb)
  clear h ok hb hby hd h0 hf F1 X1 gx kq R1 T1 hw1 hxb hc
  go_enter Try.func6, Try.ntmps6
  go_wp2_with fail
  rw [HW.out.1, HW.out.2]
  refine HRd.out.mono ?_
  rintro e w2 ⟨rfl, hw2⟩
  have hw2 := hw2.symm
  subst hw2
  go_upto_region 5 with fail
  obtain ⟨W4, hW4⟩ : ∃ W, w1.setCell ⟨g.k, 5, none⟩ (.int .i64 ((K.c : Int) + 1)) = W := ⟨_, rfl⟩
  have H := Lib.hid (And.intro H.out.1 (And.intro H.out.2.1 (And.intro H.out.2.2.1 (And.intro H.out.2.2.2.1 (And.intro H.out.2.2.2.2.1 (And.intro H.out.2.2.2.2.2.1 (And.intro (hW4 ▸ H.out.2.2.2.2.2.2.1 : Rep g K.tick W4) (And.intro (hW4 ▸ H.out.2.2.2.2.2.2.2.1 : Step g g w W4) (And.intro (show W4.heap[xb]? = some (.cells #[.int .i64 d, .int .i64 A, .int .i64 B, .int .i64 0, .int .i64 0] 30 (0, 0)) from by
    rw [← hW4, heap_setCell_ne _ (p := ⟨g.k, 5, none⟩) (fun e => by have := H.out.2.2.2.2.2.2.2.2.2; rw [e, H.out.2.2.2.2.2.2.1.tk] at this; cases this)]; exact H.out.2.2.2.2.2.2.2.2.1) H.out.2.2.2.2.2.2.2.2.2)))))))))
  rw [hW4]
  clear hW4 HRd k5 kf HW i1
  obtain ⟨mv4, mvs4, kq4, -, -⟩ := H.out.2.2.2.2.2.2.1.kb
  obtain ⟨k0, -, -, -, -, -, -⟩ := k_cells kq4
  have x0 : W4.cell? ⟨xb, 0, none⟩ = some (.int .i64 d) := cell_at H.out.2.2.2.2.2.2.2.2.1 rfl
  clear kq4
  refine wp_region_planH (aX := ?aXb) [5] [[], [5]] 1 [(0, 0, 0), (0, 1, 1), (1, 0, 0), (1, 1, 1), (2, 0, 0), (2, 1, 1), (3, 0, 0), (3, 1, 1), (4, 0, 0), (5, 0, 1), (6, 1, 1), (7, 1, 1)]
    [pt g.k, pt g.k, pt g.k, .map (some g.mt), pt g.k, undef, .pointer bo, .pointer bo] (ByI W4.drew t) (by kernel_rfl) (by kernel_rfl) rfl ?hXb (fun _ => undef) ?h0b ?hobb ?hendb
  case hXb => intro ξ; simp only [mixAll, Act.put]; go_simp; rfl
  case h0b =>
    exact ⟨fun _ => rfl, fun q => absurd q (by decide)⟩
  case hobb =>
    refine oblsH_cons rfl (stepH_value rfl rfl ?_) ?_
    · rintro ξ w5 h5
      rfl
    refine oblsH_cons rfl (stepH_value rfl rfl ?_) ?_
    · rintro ξ w5 h5
      rfl
    refine oblsH_cons rfl (stepH_value rfl rfl ?_) ?_
    · rintro ξ w5 h5
      rfl
    refine oblsH_cons rfl (stepH_value rfl rfl ?_) ?_
    · rintro ξ w5 h5
      rfl
    refine oblsH_cons rfl (stepH_value rfl rfl ?_) ?_
    · rintro ξ w5 h5
      rfl
    refine oblsH_cons rfl (stepH_value rfl rfl ?_) ?_
    · rintro ξ w5 h5
      rfl
    refine oblsH_cons rfl (stepH_value rfl rfl ?_) ?_
    · rintro ξ w5 h5
      obtain rfl := h5.1 rfl
      clear h5
      go_simp
      try rfl
    refine oblsH_cons rfl (stepH_value rfl rfl ?_) ?_
    · rintro ξ w5 h5
      obtain ⟨hT, h22⟩ := h5.2 rfl
      have hlk := (H.out.2.2.2.2.2.2.1.drew.new hT).look_by H.out.2.2.1 hn
      obtain ⟨mv6, mvs6, kq6, -, -⟩ := (H.out.2.2.2.2.2.2.1.drew.new hT).kb
      obtain ⟨k0, -, -, -, -, -, -⟩ := k_cells kq6
      clear hT kq6
      clear h5
      go_simp
      try rfl
    refine oblsH_cons rfl (stepH_value rfl rfl ?_) ?_
    · rintro ξ w5 h5
      rfl
    refine oblsH_cons rfl (stepH_call rfl rfl ?_) ?_
    · rintro ξ w5 h5
      obtain rfl := h5.1 rfl
      refine ⟨8, #[pt g.k], by clear h5; go_simp, ?_⟩
      refine (running_calls H.out.2.2.2.2.2.2.1.drew H.out.1.tick rfl).mono ?_
      rintro e6 w6 ⟨t', rfl, hbt, hT⟩
      have e : t' = t := KS.Best.unique H.out.1.tick hbt H.out.2.1.tick
      rw [e]
      exact ⟨_, rfl, ⟨fun q => absurd q (by decide), fun _ => ⟨hT, rfl⟩⟩⟩
    refine oblsH_cons rfl (stepH_value rfl rfl ?_) ?_
    · rintro ξ w5 h5
      obtain ⟨hT, h22⟩ := h5.2 rfl
      have hlk := (H.out.2.2.2.2.2.2.1.drew.new hT).look_by H.out.2.2.1 hn
      obtain ⟨mv6, mvs6, kq6, -, -⟩ := (H.out.2.2.2.2.2.2.1.drew.new hT).kb
      obtain ⟨k0, -, -, -, -, -, -⟩ := k_cells kq6
      clear hT kq6
      clear h5
      go_simp
      try rfl
    refine oblsH_cons rfl (stepH_value rfl rfl ?_) ?_
    · rintro ξ w5 h5
      rfl
    exact oblsH_nil
  case hendb =>
    rintro ξ wB h5
    obtain ⟨hT, h22⟩ := h5.2 rfl
    have R5 := H.out.2.2.2.2.2.2.1.drew.new hT
    have X5 : wB.heap[xb]? = some (.cells #[.int .i64 d, .int .i64 A, .int .i64 B, .int .i64 0, .int .i64 0] 30 (0, 0)) := by
      rw [hT.block xb (heap_lt H.out.2.2.2.2.2.2.2.2.1) (fun e => e)]; exact H.out.2.2.2.2.2.2.2.2.1
    have H5 := Lib.hid (And.intro R5 (And.intro (H.out.2.2.2.2.2.2.2.1.trans (Step.fresh (g := g) hT).drewl) X5))
    clear h5 hT R5 X5 k0 x0
    go_upto_region 6 with fail
    have x0 : wB.cell? ⟨xb, 0, none⟩ = some (.int .i64 d) := cell_at H5.out.2.2 rfl
    have x1 : wB.cell? ⟨xb, 1, none⟩ = some (.int .i64 A) := cell_at H5.out.2.2 rfl
    have x2 : wB.cell? ⟨xb, 2, none⟩ = some (.int .i64 B) := cell_at H5.out.2.2 rfl
    obtain ⟨cb, hcb⟩ : ∃ cb, wB.drew.heap.size = cb := ⟨_, rfl⟩
    have HCB := Lib.hid hcb
    refine wp_region_planH (aX := ?aXc) [7, 8] [[], [7], [7, 8]] 2 [(0, 0, 0), (1, 0, 0), (2, 0, 0), (3, 0, 0), (4, 0, 0), (5, 0, 0), (6, 0, 0), (7, 0, 1), (8, 1, 2), (9, 0, 0), (9, 1, 1), (9, 2, 2), (10, 0, 0), (10, 1, 1), (10, 2, 2), (11, 2, 2), (12, 2, 2), (13, 2, 2), (14, 2, 2), (15, 2, 2), (16, 2, 2)]
      [pt g.k, .pointer bo, .pointer (some ⟨xb, 1, none⟩), .int .i64 A, .pointer (some ⟨xb, 2, none⟩), .int .i64 B, .agg #[pt g.k, .pointer bo, .int .i64 A, .int .i64 B], undef, undef, pt xb, .int .i64 d, .tuple #[.func (.func fn) #[pt cb] #[], .bool true], .tuple #[.func (.func fn) #[pt cb] #[], .bool true], .func (.func fn) #[pt cb] #[], .bool true, .func (.func fn) #[pt cb] #[], .bool true] (CaI wB.drew cb (.agg #[pt g.k, .pointer bo, .int .i64 A, .int .i64 B])) (by kernel_rfl) (by kernel_rfl) rfl ?hXc (fun _ => undef) ?h0c ?hobc ?hendc
    case hXc => intro ξ; simp only [mixAll, Act.put]; go_simp; rfl
    case h0c =>
      exact ⟨fun _ => rfl, fun q => absurd q (by decide), fun q => absurd q (by decide)⟩
    case hobc =>
      refine oblsH_cons rfl (stepH_value rfl rfl ?_) ?_
      · rintro ξ w5 h5
        rfl
      refine oblsH_cons rfl (stepH_value rfl rfl ?_) ?_
      · rintro ξ w5 h5
        rfl
      refine oblsH_cons rfl (stepH_value rfl rfl ?_) ?_
      · rintro ξ w5 h5
        rfl
      refine oblsH_cons rfl (stepH_value rfl rfl ?_) ?_
      · rintro ξ w5 h5
        obtain rfl := h5.1 rfl
        clear h5
        go_simp
        try rfl
      refine oblsH_cons rfl (stepH_value rfl rfl ?_) ?_
      · rintro ξ w5 h5
        rfl
      refine oblsH_cons rfl (stepH_value rfl rfl ?_) ?_
      · rintro ξ w5 h5
        obtain rfl := h5.1 rfl
        clear h5
        go_simp
        try rfl
      refine oblsH_cons rfl (stepH_value rfl rfl ?_) ?_
      · rintro ξ w5 h5
        obtain rfl := h5.1 rfl
        clear h5
        go_simp
        try rfl
      refine oblsH_cons rfl (stepH_make rfl rfl ?_) ?_
      · rintro ξ w5 h5
        obtain rfl := h5.1 rfl
        refine ⟨pt wB.drew.heap.size, _, ?_, ⟨fun q => absurd q (by decide), fun _ => ⟨rfl, by rw [← HCB.out]; simp [updV]⟩, fun q => absurd q (by decide)⟩⟩
        clear h5
        go_simp
      refine oblsH_cons rfl (stepH_call rfl rfl ?_) ?_
      · rintro ξ w5 h5
        obtain ⟨rfl, h42⟩ := h5.2.1 rfl
        clear h5
        refine ⟨11, #[pt cb], by go_simp, ?_⟩
        refine (calls_calls cb _).mono ?_
        rintro e6 w6 ⟨mb, fm, rfl, hM, hT, f1, f3, f4, f11⟩
        exact ⟨_, rfl, ⟨fun q => absurd q (by decide), fun q => absurd q (by decide), fun _ => ⟨hT, mb, fm, by simp [updV], hM, f1, f3, f4, f11⟩⟩⟩
      refine oblsH_cons rfl (stepH_value rfl rfl ?_) ?_
      · rintro ξ w5 h5
        rfl
      refine oblsH_cons rfl (stepH_value rfl rfl ?_) ?_
      · rintro ξ w5 h5
        rfl
      refine oblsH_cons rfl (stepH_value rfl rfl ?_) ?_
      · rintro ξ w5 h5
        rfl
      refine oblsH_cons rfl (stepH_value rfl rfl ?_) ?_
      · rintro ξ w5 h5
        obtain rfl := h5.1 rfl
        clear h5
        go_simp
        try rfl
      refine oblsH_cons rfl (stepH_value rfl rfl ?_) ?_
      · rintro ξ w5 h5
        obtain ⟨rfl, h42⟩ := h5.2.1 rfl
        have y0 := old_alloc wB (.cells #[pt g.k, .pointer bo, .int .i64 A, .int .i64 B] 50) x0
        clear h5
        go_simp
        try rfl
      refine oblsH_cons rfl (stepH_value rfl rfl ?_) ?_
      · rintro ξ w5 h5
        obtain ⟨hT, mb, fm, h8, hM, f1, f3, f4, f11⟩ := h5.2.2 rfl
        have y0 : w5.cell? ⟨xb, 0, none⟩ = some (.int .i64 d) := by
          rw [hT.cell (p := ⟨xb, 0, none⟩) (fun e => e) (by have := heap_lt H5.out.2.2; simp; omega)]
          exact old_alloc wB (.cells #[pt g.k, .pointer bo, .int .i64 A, .int .i64 B] 50) x0
        have hfd : fm d = some (.func (.func fn) #[pt cb] #[]) := by
          rcases H.out.2.2.2.1 with ⟨rfl, rfl⟩ | ⟨-, ⟨rfl, rfl⟩ | ⟨rfl, rfl⟩ | ⟨rfl, rfl⟩⟩
          · exact f1
          · exact f3
          · exact f4
          · exact f11
        have hdw : (Lit.int .i64 d).wf = true := by
          rcases H.out.2.2.2.1 with ⟨rfl, rfl⟩ | ⟨-, ⟨rfl, rfl⟩ | ⟨rfl, rfl⟩ | ⟨rfl, rfl⟩⟩ <;> rfl
        have hlk := lookup_ok hM hdw hfd
        clear hT hM f1 f3 f4 f11 hfd hdw
        clear h5
        go_simp
        try rfl
      refine oblsH_cons rfl (stepH_value rfl rfl ?_) ?_
      · rintro ξ w5 h5
        obtain ⟨hT, mb, fm, h8, hM, f1, f3, f4, f11⟩ := h5.2.2 rfl
        have y0 : w5.cell? ⟨xb, 0, none⟩ = some (.int .i64 d) := by
          rw [hT.cell (p := ⟨xb, 0, none⟩) (fun e => e) (by have := heap_lt H5.out.2.2; simp; omega)]
          exact old_alloc wB (.cells #[pt g.k, .pointer bo, .int .i64 A, .int .i64 B] 50) x0
        have hfd : fm d = some (.func (.func fn) #[pt cb] #[]) := by
          rcases H.out.2.2.2.1 with ⟨rfl, rfl⟩ | ⟨-, ⟨rfl, rfl⟩ | ⟨rfl, rfl⟩ | ⟨rfl, rfl⟩⟩
          · exact f1
          · exact f3
          · exact f4
          · exact f11
        have hdw : (Lit.int .i64 d).wf = true := by
          rcases H.out.2.2.2.1 with ⟨rfl, rfl⟩ | ⟨-, ⟨rfl, rfl⟩ | ⟨rfl, rfl⟩ | ⟨rfl, rfl⟩⟩ <;> rfl
        have hlk := lookup_ok hM hdw hfd
        clear hT hM f1 f3 f4 f11 hfd hdw
        clear h5
        go_simp
        try rfl
      refine oblsH_cons rfl (stepH_value rfl rfl ?_) ?_
      · rintro ξ w5 h5
        rfl
      refine oblsH_cons rfl (stepH_value rfl rfl ?_) ?_
      · rintro ξ w5 h5
        rfl
      refine oblsH_cons rfl (stepH_value rfl rfl ?_) ?_
      · rintro ξ w5 h5
        rfl
      refine oblsH_cons rfl (stepH_value rfl rfl ?_) ?_
      · rintro ξ w5 h5
        rfl
      refine oblsH_cons rfl (stepH_value rfl rfl ?_) ?_
      · rintro ξ w5 h5
        rfl
      exact oblsH_nil
    case hendc =>
      rintro ξ w7 h7
      obtain ⟨hT, -⟩ := h7.2.2 rfl
      have gcb : (g.ρ cb).1 = 0 := H5.out.1.fresh cb (by rw [← HCB.out]; exact Nat.le_refl _)
      have R7 : Rep g K.tick w7 := (H5.out.1.drew.alloc _).new hT
      have C7 : CallAt g w7 cb (.pointer bo) A B := ⟨by
        rw [hT.block cb (by rw [← HCB.out]; simp) (fun e => e), ← HCB.out]
        exact heap_alloc_new wB.drew _, gcb⟩
      have s7 : Step g g w w7 := H5.out.2.1.trans (Step.fresh (((Turn.refl (fun _ => False) wB).drew.alloc _).trans hT))
      have X7 : w7.cell? ⟨xb, 0, none⟩ = some (.int .i64 d) := by
        rw [hT.cell (p := ⟨xb, 0, none⟩) (fun e => e) (by have := heap_lt H5.out.2.2; simp; omega)]
        exact old_alloc wB (.cells #[pt g.k, .pointer bo, .int .i64 A, .int .i64 B] 50) x0
      have HF := Lib.hid (H.out.2.2.2.2.2.1 w7 cb R7 C7)
      have H7 := Lib.hid (And.intro R7 s7)
      clear h7 hT R7 C7 s7 gcb x0 x1 x2 hcb
      rcases bo with _ | bo
      · have hd1 : d = 1 := by
          rcases H.out.2.2.2.1 with ⟨h1, -⟩ | ⟨h1, -⟩
          · exact h1
          · exact absurd rfl h1
        subst hd1
        obtain ⟨mv7, mvs7, kq7, -, -⟩ := H7.out.1.kb
        obtain ⟨k0, -, -, -, -, -, -⟩ := k_cells kq7
        have hlen := H7.out.1.len_zero (H.out.2.2.2.2.1 rfl)
        have hfn : fn = 13 := by
          rcases H.out.2.2.2.1 with ⟨-, h1⟩ | ⟨h1, -⟩
          · exact h1
          · exact absurd rfl h1
        subst hfn
        clear kq7
        go_wp2_with fail
        refine HF.out.mono ?_
        rintro e8 w8 ⟨rfl, g8, R8, s8⟩
        have H8 := Lib.hid (And.intro R8 (H7.out.2.trans s8))
        clear R8 s8
        go_wp2_with fail
        go_ret2
        exact ⟨rfl, g8, H8.out⟩
      · have hfn := H.out.2.2.2.1
        rcases hfn with ⟨-, rfl⟩ | ⟨-, ⟨-, rfl⟩ | ⟨-, rfl⟩ | ⟨-, rfl⟩⟩
        all_goals
          go_wp2_with fail
          refine HF.out.mono ?_
          rintro e8 w8 ⟨rfl, g8, R8, s8⟩
          have H8 := Lib.hid (And.intro R8 (H7.out.2.trans s8))
          clear R8 s8
          go_wp2_with fail
          go_ret2
          exact ⟨rfl, g8, H8.out⟩
end
end Go.Rnd
